/- law 23's ExecOrders. -/
import Derived.Test.YtbcmmecilheicaaOrdM
import Derived.Test.YtbcmmecilheicaaSurA
import Derived.Test.YtbcmmecilheicaaOwn
import Derived.Test.YtbcmmecilheicaaRefO
namespace Go.Proofs.Ytbcmmecilheicaa
open Go Go.RowKit

theorem ValssAt.one_at {W : World} {A : Option Addr} {n : Nat} {ms : List Val} (h : ValssAt W A n (ms.map fun v => [v])) {i : Nat} {x : Val} (hx : ms[i]? = some x) :
    ∃ b off B Bo c, A = some ⟨b, off, none⟩ ∧ b < W.heap.size ∧ B < W.heap.size ∧ W.cell? ⟨b, off + i, none⟩ = some (.slice (some ⟨B, Bo, none⟩) 1 c) ∧ ValC W B Bo x := by
  obtain ⟨b, off, B, m, c, e, hb, hc, hv⟩ := h.at_ i [x] (by rw [List.getElem?_map, hx]; rfl)
  obtain ⟨b2, off2, e2, hb2, hx⟩ := hv.at_ 0 x rfl
  obtain rfl : 1 = m := hv.len
  rw [e2] at hc
  rw [Nat.zero_mul, Nat.add_zero] at hx
  exact ⟨b, off, b2, off2, c, e, hb, hb2, hc, hx⟩
theorem modK (z : Int) : ∃ k : Nat, k < 4 ∧ wrap64 ((IntKind.u64.wrap z).tmod 4) = (k : Int) := by
  have h0 : 0 ≤ IntKind.u64.wrap z := by rw [IntKind.wrap_u64]; omega
  have h1 : (IntKind.u64.wrap z).tmod 4 = IntKind.u64.wrap z % 4 := Int.tmod_eq_emod_of_nonneg h0
  refine ⟨(IntKind.u64.wrap z % 4).toNat, by omega, ?_⟩
  rw [h1]
  unfold wrap64
  omega

def OrdersPost (q : List (List Val) × Option Int) (w : World) (s9 s10 : Value) (w' : World) : Prop := ∃ (A : Option Addr) (n c : Nat), s9 = .slice A n c ∧ s10 = errV q.2 ∧ Hid (ValssAt w' A n q.1) ∧ Hid (Below w.heap.size w w')

set_option maxRecDepth 100000 in
set_option maxHeartbeats 32000000 in
theorem execOrders5 (w : World) (A : Option Addr) (n c0 : Nat) (rs : RowL) (hr : RowsAt w A n rs) (htx : RowsTx rs) (hn : n ≤ 9223372036854775807) (col : Int) (d : Bool) :
    Calls Try.prog 5 #[.slice A n c0, .int .i64 col, .bool d] w fun e w' => e = .returned (.bool true) ∧ Hid (Below w.heap.size w w') := by
  have HR := Lib.hid hr
  have HTX := Lib.hid htx
  have SU := Lib.hid sure10
  clear hr htx
  by_cases hbig : 200 < n
  · have hz : (200 : Int) < (n : Int) := by omega
    go_enter Try.func5, Try.ntmps5
    go_wp2_with fail
    refine (SU.out _).mono ?_
    rintro e w1 ⟨rfl, h1⟩
    go_wp2_with fail
    go_ret
    exact ⟨rfl, h1⟩
  have hz : ¬ (200 : Int) < (n : Int) := by omega
  obtain ⟨k, hk4, hke⟩ := modK col
  have HKE := Lib.hid hke
  clear hke
  go_enter Try.func5, Try.ntmps5
  go_upto_region 4 with fail
  rw [HKE.out]
  clear HKE
  have hk9 : (k : Int) < 4 := by omega
  go_upto_region 5 with fail
  obtain ⟨W1, hW1⟩ : ∃ y, y = ((w.alloc (.cells #[.string ⟨#[99, 111, 108]⟩, .int .i64 0, .int .i64 k, .int .i64 0, .int .i64 0, .string ⟨#[]⟩, .bool false, .slice none 0 0] 37)).alloc (.cells #[.string ⟨#[99, 111, 108]⟩, .int .i64 0, .int .i64 k, .int .i64 0, .int .i64 0, .string ⟨#[]⟩, .bool false, .slice none 0 0, .bool d] 53)).alloc (.cells #[.string ⟨#[]⟩, .slice none 0 0, .slice (some ⟨w.heap.size, 0, none⟩) 1 1, .slice none 0 0, .slice none 0 0, .slice (some ⟨w.heap.size + 1, 0, none⟩) 1 1, .int .i64 (-1), .bool false] 56) := ⟨_, rfl⟩
  have ZI := Lib.hid (show Blk W1 w.heap.size 37 #[.string ⟨#[99, 111, 108]⟩, .int .i64 0, .int .i64 k, .int .i64 0, .int .i64 0, .string ⟨#[]⟩, .bool false, .slice none 0 0] by rw [hW1]; exact ((Blk.new w 37 _).alloc _).alloc _)
  have ZO := Lib.hid (show Blk W1 (w.heap.size + 1) 53 #[.string ⟨#[99, 111, 108]⟩, .int .i64 0, .int .i64 k, .int .i64 0, .int .i64 0, .string ⟨#[]⟩, .bool false, .slice none 0 0, .bool d] by rw [hW1]; exact (blk_new' (w := w.alloc _) rfl (by simp)).alloc _)
  have ZQ := Lib.hid (show Blk W1 (w.heap.size + 1 + 1) 56 #[.string ⟨#[]⟩, .slice none 0 0, .slice (some ⟨w.heap.size, 0, none⟩) 1 1, .slice none 0 0, .slice none 0 0, .slice (some ⟨w.heap.size + 1, 0, none⟩) 1 1, .int .i64 (-1), .bool false] by rw [hW1]; exact blk_new' (w := (w.alloc _).alloc _) rfl (by simp))
  have BW := Lib.hid (show Below w.heap.size w W1 by rw [hW1]; exact bt (below_alloc _ _) (bt (below_alloc _ _) (below_alloc _ _)))
  obtain ⟨qq, hqq⟩ : ∃ x, x = queryP (keepP [] [] rs) (rs.map fun r => [r]) (ofNo []) [colE k] [(colE k, d)] (-1) := ⟨_, rfl⟩
  have CO := Lib.hid (fun W2 (h2 : Below W1.heap.size W1 W2) => own12 W2 A n c0 rs (HR.out.below (bt h2 BW.out)) (by omega))
  have CQ := Lib.hid (fun W2 (h2 : Below W1.heap.size W1 W2) RA rc (hr2 : RowsAt W2 RA n rs) => query_orders W2 k d w.heap.size 0 (w.heap.size + 1) 0 (Nat.lt_of_lt_of_le ZI.out.lt h2.size) (Nat.lt_of_lt_of_le ZO.out.lt h2.size)
    (have z := ZI.out.below h2; ⟨z.cell 0, z.cell 1, z.cell 2, z.cell 3, z.cell 4, z.cell 5, z.cell 6, z.cell 7⟩) (have z := ZO.out.below h2; ⟨z.cell 0, z.cell 1, z.cell 2, z.cell 3, z.cell 4, z.cell 5, z.cell 6, z.cell 7⟩) ((ZO.out.below h2).cell 8) RA n rc rs hr2 (by omega) HTX.out)
  rw [← hqq] at CQ
  have HQQ := Lib.hid hqq
  clear hqq
  unfold OwnPost at CO
  unfold QueryPost at CQ
  rw [← hW1]
  clear hW1
  have zc := ZQ.out.cell
  have z0 := zc 0
  have z1 := zc 1
  have z2 := zc 2
  have z3 := zc 3
  have z4 := zc 4
  have z5 := zc 5
  have z6 := zc 6
  have z7 := zc 7
  have hs1 := ZQ.out.lt
  clear zc
  go_cut [9, 10] from 35 to 41 (fun s9 s10 wx => OrdersPost qq W1 s9 s10 wx)
  case first =>
    go_region_law (first | (go_simp; go_at_call 12; refine (CO.out _ (by go_grown)).mono ?_
                            rintro e2 w3 ⟨RA, rc, rfl, hr3, hb3⟩; have hb4 := Lib.hid (bt hb3.out (show Below W1.heap.size W1 _ by go_grown)); have zd := (ZQ.out.below hb4.out).cell; have q0 := zd 0; have q1 := zd 1; have q2 := zd 2; have q3 := zd 3; have q4 := zd 4; have q5 := zd 5; have q6 := zd 6; have q7 := zd 7; have hs3 := (ZQ.out.below hb4.out).lt; clear zd hb3)
                         | (go_simp; go_at_call 15; refine (CQ.out _ (by first | exact hb4.out | exact bt (below_drew _) hb4.out) _ _ (by first | exact hr3.out | exact hr3.out.below (below_drew _))).mono ?_
                            rintro e2 w4 ⟨MA, m, mc, rfl, h1, h2⟩))
    all_goals
      go_wp2_with fail
      go_meet
      case rel => exact ⟨MA, m, mc, rfl, rfl, h1, Lib.hid (bt h2.out (by first | exact hb4.out | exact bt (below_drew _) hb4.out))⟩
  case rest =>
    obtain ⟨MA, m, mc, rfl, rfl, HM, HB⟩ := hcut
    clear z0 z1 z2 z3 z4 z5 z6 z7 CQ CO hs1 ZI ZO ZQ
    have BQ := Lib.hid (bt HB.out BW.out)
    clear HB BW
    by_cases hshort : ∃ r ∈ rs, r.2.length ≤ k
    · have hq := HQQ.out
      rw [orders_short k d rs hshort] at hq
      subst hq
      obtain rfl : 0 = m := HM.out.len
      have HSH := Lib.hid hshort
      clear hshort HM HQQ
      simp only [errV]
      go_wp2_with fail
      go_loopg [11, 12] n (fun kx s11 s12 wr => ∃ (i : Nat) (b : Bool), s11 = .bool b ∧ s12 = .int .i64 i ∧ kx + i = n ∧ Hid (b = (rs.take i).any fun r => decide (r.2.length ≤ k)) ∧ Hid (wr = wc))
      case atStart => exact ⟨0, false, rfl, rfl, by omega, Lib.hid rfl, Lib.hid rfl⟩
      case round =>
        obtain ⟨i, b, rfl, rfl, hki, HBB, HWW⟩ := hrel
        obtain rfl := HWW.out
        have hi9 : (i : Int) < 202 := by omega
        have hi0 : (0 : Int) ≤ (i : Int) := by omega
        by_cases hi : i < n
        · have hiz : (i : Int) < (n : Int) := by omega
          obtain ⟨r, hr⟩ : ∃ r, rs[i]? = some r := ⟨_, List.getElem?_eq_getElem (by rw [HR.out.len]; exact hi)⟩
          obtain ⟨rb, off, VA, vn, vc, rfl, hb, p0, p1, hv, -⟩ := (HR.out.below BQ.out).at_ i r hr
          obtain rfl : r.2.length = vn := hv.len
          obtain ⟨rl, hrl⟩ : ∃ x, x = r.2.length := ⟨_, rfl⟩
          rw [← hrl] at p1
          have hgt : (rs.take (i + 1)).any (fun r => decide (r.2.length ≤ k)) = (b || decide (rl ≤ k)) := by
            rw [List.take_add_one, hr, List.any_append, ← HBB.out, hrl]
            simp
          have HGT := Lib.hid hgt
          have hvl := hv
          clear hr p0 hv hgt hrl hvl HBB
          cases b with
          | true =>
            have NX := Lib.hid (show true = (rs.take (i + 1)).any (fun r => decide (r.2.length ≤ k)) by rw [HGT.out]; rfl)
            go_wp2_with fail
            go_roundg (gk - 1)
            case measure => omega
            case rel => exact ⟨i + 1, true, by first | rfl | (simp; done), by first | rfl | (simp; done), by omega, NX, Lib.hid rfl⟩
          | false =>
            by_cases hle : rl ≤ k
            · have hd1 : decide (rl ≤ k) = true := decide_eq_true hle
              have NX := Lib.hid (show true = (rs.take (i + 1)).any (fun r => decide (r.2.length ≤ k)) by rw [HGT.out, hd1]; rfl)
              go_wp2_with fail
              go_roundg (gk - 1)
              case measure => omega
              case rel => exact ⟨i + 1, true, by first | rfl | (simp; done), by first | rfl | (simp; done), by omega, NX, Lib.hid rfl⟩
            · have hd1 : decide (rl ≤ k) = false := decide_eq_false hle
              have NX := Lib.hid (show false = (rs.take (i + 1)).any (fun r => decide (r.2.length ≤ k)) by rw [HGT.out, hd1]; rfl)
              clear hle
              go_wp2_with fail
              go_roundg (gk - 1)
              case measure => omega
              case rel => exact ⟨i + 1, false, by first | rfl | (simp; done), by first | rfl | (simp; done), by omega, NX, Lib.hid rfl⟩
        · have hiz : ¬ (i : Int) < (n : Int) := by omega
          obtain rfl : i = n := by omega
          obtain rfl : b = true := by
            rw [HBB.out, List.take_of_length_le (by rw [HR.out.len]; exact Nat.le_refl _)]
            obtain ⟨r, hr, hl⟩ := HSH.out
            exact List.any_eq_true.2 ⟨r, hr, decide_eq_true hl⟩
          clear HBB HWW
          go_wp2_with fail
          refine (SU.out _).mono ?_
          rintro e w4 ⟨rfl, h4⟩
          go_wp2_with fail
          go_ret
          exact ⟨rfl, Lib.hid (bt h4.out BQ.out)⟩
    · have HLONG := Lib.hid (show ∀ r ∈ rs, k < r.2.length from fun r hr => by
        rcases Nat.lt_or_ge k r.2.length with h | h
        · exact h
        · exact absurd ⟨r, hr, h⟩ hshort)
      clear hshort
      obtain ⟨ms, hq, hperm, hord⟩ := orders_long k d rs HLONG.out
      rw [← HQQ.out] at hq
      subst hq
      have HPERM := Lib.hid hperm
      have HORD := Lib.hid hord
      have hml : ms.length = n := by rw [hperm.length_eq, List.length_map]; exact HR.out.len
      obtain rfl : m = n := by rw [← HM.out.len, List.length_map]; exact hml
      have HML := Lib.hid hml
      have hne : ((m : Int) != (m : Int)) = false := by simp
      clear hperm hord hml HQQ
      simp only [errV]
      go_wp2_with fail
      clear hne
      go_loopg [13] m (fun kx s13 wr => ∃ i : Nat, s13 = .int .i64 i ∧ kx + i = m ∧ Hid (Below wc.heap.size wc wr))
      case atStart => exact ⟨0, rfl, rfl, Lib.hid (Below.refl _ _)⟩
      case round =>
        obtain ⟨i, rfl, hki, I⟩ := hrel
        have hi9 : (i : Int) < 202 := by omega
        have hi0 : (0 : Int) ≤ (i : Int) := by omega
        obtain ⟨ko, hko⟩ : ∃ ko, ko = gk := ⟨_, rfl⟩
        have hms := Lib.hid (show i < m → ko - 1 < gk by omega)
        have HKO := Lib.hid (show ko + i = m by omega)
        by_cases hi : i < m
        · have hiz : (i : Int) < (m : Int) := by omega
          obtain ⟨x, hx⟩ : ∃ x, ms[i]? = some x := ⟨_, List.getElem?_eq_getElem (by rw [HML.out]; exact hi)⟩
          obtain ⟨mb, mo, xB, xBo, xc, rfl, hxb, hxB, x0, v0, v1, v2, v3⟩ := (HM.out.below I.out).one_at hx
          have HX := Lib.hid hx
          clear hx
          rcases Nat.eq_zero_or_pos i with h0 | h0
          · subst h0
            have hm0 : (0 : Int) < (m : Int) := by omega
            simp only [Nat.add_zero] at x0
            go_upto_region 24 with fail
            have BZ := Lib.hid (show Below wc.heap.size wc wr from I.out)
            obtain ⟨wz, hwz⟩ : ∃ y, y = wr := ⟨_, rfl⟩
            rw [← hwz] at BZ ⊢
            clear I x0 v0 v1 v2 v3 hwz hxb hxB
            go_wp2_with fail
            go_loopg [15, 16] m (fun kx s15 s16 wr => ∃ q t : Nat, s15 = .int .i64 t ∧ s16 = .int .i64 q ∧ kx + q = m ∧ t ≤ q ∧ Hid (t = ((rs.take q).map (valK k)).countP (Val.eqB · x)) ∧ Hid (Below wc.heap.size wc wr))
            case atStart => exact ⟨0, 0, rfl, rfl, by omega, by omega, Lib.hid rfl, BZ⟩
            case round =>
              obtain ⟨q, t, rfl, rfl, hkq, htq, HT, BR⟩ := hrel
              have hq9 : (q : Int) < 202 := by omega
              have hq0 : (0 : Int) ≤ (q : Int) := by omega
              have ht9 : (t : Int) < 202 := by omega
              by_cases hq : q < m
              · have hqz : (q : Int) < (m : Int) := by omega
                obtain ⟨r, hr⟩ : ∃ r, rs[q]? = some r := ⟨_, List.getElem?_eq_getElem (by rw [HR.out.len]; exact hq)⟩
                obtain ⟨rb, off, VA, vn, vc, rfl, hb, p0, p1, hv, -⟩ := (HR.out.below (bt BR.out BQ.out)).at_ q r hr
                have hkr : k < r.2.length := HLONG.out r (List.mem_of_getElem? hr)
                obtain ⟨u, hu⟩ : ∃ u, r.2[k]? = some u := ⟨_, List.getElem?_eq_getElem hkr⟩
                obtain rfl : r.2.length = vn := hv.len
                obtain ⟨vb, vo, rfl, hvb, u0, u1, u2, u3⟩ := hv.at_ k u hu
                obtain ⟨xb, xo, xB, xBo, xc, e1, hxb, hxB, x0, v0, v1, v2, v3⟩ := (HM.out.below BR.out).one_at HX.out
                injection e1 with e1
                injection e1 with e1 e2
                subst e1 e2
                simp only [Nat.add_zero] at x0
                obtain ⟨rl, hrl⟩ : ∃ x, x = r.2.length := ⟨_, rfl⟩
                rw [← hrl] at p1 hkr
                have hkz : (k : Int) < (rl : Int) := by omega
                obtain ⟨qb, hqb⟩ : ∃ y, y = Val.eqB u x := ⟨_, rfl⟩
                have HE := Lib.hid (show ∀ W, (binOp BinOp.eql 23 (.agg #[.int .i64 u.kind, .int .i64 u.int, .string u.text, .bool u.bool]) (.agg #[.int .i64 x.kind, .int .i64 x.int, .string x.text, .bool x.bool])).run Try.prog W = .ok (.bool qb) W from fun W => by rw [eql23, hqb])
                have NT := Lib.hid (show (if qb = true then t + 1 else t) = ((rs.take (q + 1)).map (valK k)).countP (Val.eqB · x) by
                  rw [List.take_add_one, hr, List.map_append, List.countP_append, ← HT.out]
                  have e : valK k r = u := by
                    unfold valK
                    rw [List.getD_eq_getElem?_getD, hu]; rfl
                  simp only [Option.toList, List.map_cons, List.map_nil, List.countP_cons, List.countP_nil, e, ← hqb, Nat.zero_add]
                  cases qb <;> rfl)
                have HRL := Lib.hid hrl
                clear hr p0 hv hu hqb HT hrl
                cases qb with
                | true =>
                  have he := HE.out
                  go_wp2_with fail
                  go_quiet (fail)
                  clear p1 u0 u1 u2 u3 x0 v0 v1 v2 v3 he
                  go_wp2_with fail
                  go_roundg (gk - 1)
                  case measure => omega
                  case rel => exact ⟨q + 1, t + 1, by first | rfl | (simp; done), by first | rfl | (simp; done), by omega, by omega, NT, Lib.hid (bt (below_drewN _ _) BR.out)⟩
                | false =>
                  have he := HE.out
                  go_wp2_with fail
                  go_quiet (fail)
                  clear p1 u0 u1 u2 u3 x0 v0 v1 v2 v3 he
                  go_wp2_with fail
                  go_roundg (gk - 1)
                  case measure => omega
                  case rel => exact ⟨q + 1, t, by first | rfl | (simp; done), by first | rfl | (simp; done), by omega, by omega, NT, Lib.hid (bt (below_drewN _ _) BR.out)⟩
              · have hqz : ¬ (q : Int) < (m : Int) := by omega
                obtain rfl : q = m := by omega
                have HT2 := Lib.hid (show t = (rs.map (valK k)).countP (Val.eqB · x) by rw [HT.out, List.take_of_length_le (by rw [HR.out.len]; exact Nat.le_refl _)])
                clear HT hqz hq
                obtain ⟨m, rfl⟩ : ∃ y, y = q := ⟨_, rfl⟩
                go_wp2_with fail
                go_loopg [15, 17] m (fun kx s15 s17 wr => ∃ (q : Nat) (z : Int), s15 = .int .i64 z ∧ s17 = .int .i64 q ∧ kx + q = m ∧ -(q : Int) ≤ z ∧ z ≤ 201 ∧ Hid (z = (t : Int) - ((ms.take q).countP (Val.eqB · x) : Nat)) ∧ Hid (Below wc.heap.size wc wr))
                case atStart => exact ⟨0, t, rfl, rfl, by omega, by omega, by omega, Lib.hid (by simp), BR⟩
                case round =>
                  obtain ⟨q, z, rfl, rfl, hkq, hzq, hz9, HT, BS⟩ := hrel
                  have hq9 : (q : Int) < 202 := by omega
                  have hq0 : (0 : Int) ≤ (q : Int) := by omega
                  have hz8 : -202 ≤ z := by omega
                  by_cases hq : q < m
                  · have hqz : (q : Int) < (m : Int) := by omega
                    obtain ⟨u, hu⟩ : ∃ u, ms[q]? = some u := ⟨_, List.getElem?_eq_getElem (by rw [HML.out]; exact hq)⟩
                    obtain ⟨ub, uo, uB, uBo, uc, e0, hub, huB, y0, u0, u1, u2, u3⟩ := (HM.out.below BS.out).one_at hu
                    injection e0 with e0
                    injection e0 with e0 e3
                    subst e0 e3
                    obtain ⟨xb, xo, xB, xBo, xc, e1, hxb, hxB, x0, v0, v1, v2, v3⟩ := (HM.out.below BS.out).one_at HX.out
                    injection e1 with e1
                    injection e1 with e1 e2
                    subst e1 e2
                    simp only [Nat.add_zero] at x0
                    obtain ⟨qb, hqb⟩ : ∃ y, y = Val.eqB u x := ⟨_, rfl⟩
                    have HE := Lib.hid (show ∀ W, (binOp BinOp.eql 23 (.agg #[.int .i64 u.kind, .int .i64 u.int, .string u.text, .bool u.bool]) (.agg #[.int .i64 x.kind, .int .i64 x.int, .string x.text, .bool x.bool])).run Try.prog W = .ok (.bool qb) W from fun W => by rw [eql23, hqb])
                    have NT := Lib.hid (show (if qb = true then z - 1 else z) = (t : Int) - ((ms.take (q + 1)).countP (Val.eqB · x) : Nat) by
                      rw [List.take_add_one, hu, List.countP_append, HT.out]
                      simp only [Option.toList, List.countP_cons, List.countP_nil, ← hqb, Nat.zero_add]
                      cases qb
                      · simp
                      · simp; omega)
                    clear hu hqb HT
                    cases qb with
                    | true =>
                      have he := HE.out
                      go_wp2_with fail
                      go_quiet (fail)
                      clear y0 u0 u1 u2 u3 x0 v0 v1 v2 v3 he
                      go_wp2_with fail
                      go_roundg (gk - 1)
                      case measure => omega
                      case rel => exact ⟨q + 1, z - 1, by first | rfl | (simp; done), by first | rfl | (simp; done), by omega, by omega, by omega, NT, Lib.hid (bt (below_drewN _ _) BS.out)⟩
                    | false =>
                      have he := HE.out
                      go_wp2_with fail
                      go_quiet (fail)
                      clear y0 u0 u1 u2 u3 x0 v0 v1 v2 v3 he
                      go_wp2_with fail
                      go_roundg (gk - 1)
                      case measure => omega
                      case rel => exact ⟨q + 1, z, by first | rfl | (simp; done), by first | rfl | (simp; done), by omega, by omega, by omega, NT, Lib.hid (bt (below_drewN _ _) BS.out)⟩
                  · have hqz : ¬ (q : Int) < (m : Int) := by omega
                    obtain rfl : q = m := by omega
                    have hz0 : z = 0 := by
                      rw [HT.out, List.take_of_length_le (by rw [HML.out]; exact Nat.le_refl _), HT2.out, HPERM.out.countP_eq]
                      omega
                    subst hz0
                    clear HT
                    go_wp2_with fail
                    go_roundg (ko - 1)
                    case measure => exact hms.out hi
                    case rel => exact ⟨0 + 1, by first | rfl | (simp; done), by have := HKO.out; omega, BS⟩
          · obtain ⟨p, rfl⟩ : ∃ p, i = p + 1 := ⟨i - 1, by omega⟩
            have hp9 : (p : Int) < 202 := by omega
            have hz0 : (0 : Int) < ((p + 1 : Nat) : Int) := by omega
            obtain ⟨y, hy⟩ : ∃ y, ms[p]? = some y := ⟨_, List.getElem?_eq_getElem (by rw [HML.out]; omega)⟩
            obtain ⟨yb, yo, yB, yBo, yc, e1, hyb, hyB, y0, w0, w1, w2, w3⟩ := (HM.out.below I.out).one_at hy
            injection e1 with e1
            injection e1 with e1 e2
            subst e1 e2
            have HLE := Lib.hid (HORD.out p y x hy HX.out)
            clear hy
            have X0 : ∀ pw : BelowW wr, pw.w.cell? ⟨mb, mo + (p + 1), none⟩ = some (.slice (some ⟨xB, xBo, none⟩) 1 xc) := fun pw => (pw.h.cell (p := ⟨mb, mo + (p + 1), none⟩) hxb).trans x0
            have V0 : ∀ pw : BelowW wr, pw.w.cell? ⟨xB, xBo, none⟩ = some (.int .i64 x.kind) := fun pw => (pw.h.cell (p := ⟨xB, xBo, none⟩) hxB).trans v0
            have V1 : ∀ pw : BelowW wr, pw.w.cell? ⟨xB, xBo + 1, none⟩ = some (.int .i64 x.int) := fun pw => (pw.h.cell (p := ⟨xB, xBo + 1, none⟩) hxB).trans v1
            have V2 : ∀ pw : BelowW wr, pw.w.cell? ⟨xB, xBo + 2, none⟩ = some (.string x.text) := fun pw => (pw.h.cell (p := ⟨xB, xBo + 2, none⟩) hxB).trans v2
            have V3 : ∀ pw : BelowW wr, pw.w.cell? ⟨xB, xBo + 3, none⟩ = some (.bool x.bool) := fun pw => (pw.h.cell (p := ⟨xB, xBo + 3, none⟩) hxB).trans v3
            have Y0 : ∀ pw : BelowW wr, pw.w.cell? ⟨mb, mo + p, none⟩ = some (.slice (some ⟨yB, yBo, none⟩) 1 yc) := fun pw => (pw.h.cell (p := ⟨mb, mo + p, none⟩) hyb).trans y0
            have U0 : ∀ pw : BelowW wr, pw.w.cell? ⟨yB, yBo, none⟩ = some (.int .i64 y.kind) := fun pw => (pw.h.cell (p := ⟨yB, yBo, none⟩) hyB).trans w0
            have U1 : ∀ pw : BelowW wr, pw.w.cell? ⟨yB, yBo + 1, none⟩ = some (.int .i64 y.int) := fun pw => (pw.h.cell (p := ⟨yB, yBo + 1, none⟩) hyB).trans w1
            have U2 : ∀ pw : BelowW wr, pw.w.cell? ⟨yB, yBo + 2, none⟩ = some (.string y.text) := fun pw => (pw.h.cell (p := ⟨yB, yBo + 2, none⟩) hyB).trans w2
            have U3 : ∀ pw : BelowW wr, pw.w.cell? ⟨yB, yBo + 3, none⟩ = some (.bool y.bool) := fun pw => (pw.h.cell (p := ⟨yB, yBo + 3, none⟩) hyB).trans w3
            have CC : Hid (∀ pw : BelowW wr, Calls Try.prog 16 #[.agg #[.int .i64 y.kind, .int .i64 y.int, .string y.text, .bool y.bool], .agg #[.int .i64 x.kind, .int .i64 x.int, .string x.text, .bool x.bool]] pw.w fun e w' => e = .returned (.int .i64 (compareP y x)) ∧ Hid (Below pw.w.heap.size pw.w w')) := Lib.hid (fun pw => refCompare16 pw.w y x)
            have II := Lib.hid I.out
            clear y0 w0 w1 w2 w3 v0 v1 v2 v3 I
            go_upto_region 21 with fail
            clear x0
            have k1 : (p : Int) + 1 < (m : Int) := by omega
            have k2 : (p : Int) < (m : Int) := by omega
            have k3 : (0 : Int) ≤ (p : Int) + 1 := by omega
            have k4 : ((p : Int) + 1).toNat = p + 1 := by omega
            have k5 : IntKind.i64.wrap (p : Int) = (p : Int) := by rw [IntKind.wrap_i64]; omega
            have k6 : IntKind.i64.wrap ((p : Int) + 1 - 1) = (p : Int) := by rw [IntKind.wrap_i64]; omega
            refine wp_region_quiet_below (by kernel_rfl) (by kernel_rfl) ?_
            repeat (quiet_step ((go_at_call 16; refine calls_below _ (CC.out _))))
            refine wpQuiet_nil ?_
            intro wq hw'
            have BZ := Lib.hid (show Below wc.heap.size wc wq by obtain ⟨pw, rfl⟩ := hw'; exact bt pw.h II.out)
            clear hw' k1 k2 k3 k4 k5 k6 X0 V0 V1 V2 V3 Y0 U0 U1 U2 U3 CC II hxb hxB hyb hyB hz0
            obtain ⟨c, hc⟩ : ∃ c, c = compareP y x := ⟨_, rfl⟩
            have hcs := compareP_is y x
            have hle := HLE.out
            unfold dirCmp at hle
            rw [← hc] at hcs hle ⊢
            have hcases : (c = -1 ∧ d = false) ∨ (c = 0 ∧ d = false) ∨ (c = 0 ∧ d = true) ∨ (c = 1 ∧ d = true) := by
              cases d with
              | false =>
                have h9 : c ≤ 0 := by simpa using hle
                rcases hcs with h | h | h
                · exact .inl ⟨h, rfl⟩
                · exact .inr (.inl ⟨h, rfl⟩)
                · omega
              | true =>
                have h9 : -c ≤ 0 := by simpa using hle
                rcases hcs with h | h | h
                · omega
                · exact .inr (.inr (.inl ⟨h, rfl⟩))
                · exact .inr (.inr (.inr ⟨h, rfl⟩))
            clear hc hcs hle HLE
            rcases hcases with ⟨rfl, rfl⟩ | ⟨rfl, rfl⟩ | ⟨rfl, rfl⟩ | ⟨rfl, rfl⟩
            all_goals
              go_upto_region 24 with fail
              go_wp2_with fail
              go_loopg [15, 16] m (fun kx s15 s16 wr => ∃ q t : Nat, s15 = .int .i64 t ∧ s16 = .int .i64 q ∧ kx + q = m ∧ t ≤ q ∧ Hid (t = ((rs.take q).map (valK k)).countP (Val.eqB · x)) ∧ Hid (Below wc.heap.size wc wr))
              case atStart => exact ⟨0, 0, rfl, rfl, by omega, by omega, Lib.hid rfl, BZ⟩
              case round =>
                obtain ⟨q, t, rfl, rfl, hkq, htq, HT, BR⟩ := hrel
                have hq9 : (q : Int) < 202 := by omega
                have hq0 : (0 : Int) ≤ (q : Int) := by omega
                have ht9 : (t : Int) < 202 := by omega
                by_cases hq : q < m
                · have hqz : (q : Int) < (m : Int) := by omega
                  obtain ⟨r, hr⟩ : ∃ r, rs[q]? = some r := ⟨_, List.getElem?_eq_getElem (by rw [HR.out.len]; exact hq)⟩
                  obtain ⟨rb, off, VA, vn, vc, rfl, hb, p0, p1, hv, -⟩ := (HR.out.below (bt BR.out BQ.out)).at_ q r hr
                  have hkr : k < r.2.length := HLONG.out r (List.mem_of_getElem? hr)
                  obtain ⟨u, hu⟩ : ∃ u, r.2[k]? = some u := ⟨_, List.getElem?_eq_getElem hkr⟩
                  obtain rfl : r.2.length = vn := hv.len
                  obtain ⟨vb, vo, rfl, hvb, u0, u1, u2, u3⟩ := hv.at_ k u hu
                  obtain ⟨xb, xo, xB, xBo, xc, e1, hxb, hxB, x0, v0, v1, v2, v3⟩ := (HM.out.below BR.out).one_at HX.out
                  injection e1 with e1
                  injection e1 with e1 e2
                  subst e1 e2
                  skip
                  obtain ⟨rl, hrl⟩ : ∃ x, x = r.2.length := ⟨_, rfl⟩
                  rw [← hrl] at p1 hkr
                  have hkz : (k : Int) < (rl : Int) := by omega
                  obtain ⟨qb, hqb⟩ : ∃ y, y = Val.eqB u x := ⟨_, rfl⟩
                  have HE := Lib.hid (show ∀ W, (binOp BinOp.eql 23 (.agg #[.int .i64 u.kind, .int .i64 u.int, .string u.text, .bool u.bool]) (.agg #[.int .i64 x.kind, .int .i64 x.int, .string x.text, .bool x.bool])).run Try.prog W = .ok (.bool qb) W from fun W => by rw [eql23, hqb])
                  have NT := Lib.hid (show (if qb = true then t + 1 else t) = ((rs.take (q + 1)).map (valK k)).countP (Val.eqB · x) by
                    rw [List.take_add_one, hr, List.map_append, List.countP_append, ← HT.out]
                    have e : valK k r = u := by
                      unfold valK
                      rw [List.getD_eq_getElem?_getD, hu]; rfl
                    simp only [Option.toList, List.map_cons, List.map_nil, List.countP_cons, List.countP_nil, e, ← hqb, Nat.zero_add]
                    cases qb <;> rfl)
                  have HRL := Lib.hid hrl
                  clear hr p0 hv hu hqb HT hrl
                  cases qb with
                  | true =>
                    have he := HE.out
                    go_wp2_with fail
                    go_quiet (fail)
                    clear p1 u0 u1 u2 u3 x0 v0 v1 v2 v3 he
                    go_wp2_with fail
                    go_roundg (gk - 1)
                    case measure => omega
                    case rel => exact ⟨q + 1, t + 1, by first | rfl | (simp; done), by first | rfl | (simp; done), by omega, by omega, NT, Lib.hid (bt (below_drewN _ _) BR.out)⟩
                  | false =>
                    have he := HE.out
                    go_wp2_with fail
                    go_quiet (fail)
                    clear p1 u0 u1 u2 u3 x0 v0 v1 v2 v3 he
                    go_wp2_with fail
                    go_roundg (gk - 1)
                    case measure => omega
                    case rel => exact ⟨q + 1, t, by first | rfl | (simp; done), by first | rfl | (simp; done), by omega, by omega, NT, Lib.hid (bt (below_drewN _ _) BR.out)⟩
                · have hqz : ¬ (q : Int) < (m : Int) := by omega
                  obtain rfl : q = m := by omega
                  have HT2 := Lib.hid (show t = (rs.map (valK k)).countP (Val.eqB · x) by rw [HT.out, List.take_of_length_le (by rw [HR.out.len]; exact Nat.le_refl _)])
                  clear HT hqz hq
                  obtain ⟨m, rfl⟩ : ∃ y, y = q := ⟨_, rfl⟩
                  go_wp2_with fail
                  go_loopg [15, 17] m (fun kx s15 s17 wr => ∃ (q : Nat) (z : Int), s15 = .int .i64 z ∧ s17 = .int .i64 q ∧ kx + q = m ∧ -(q : Int) ≤ z ∧ z ≤ 201 ∧ Hid (z = (t : Int) - ((ms.take q).countP (Val.eqB · x) : Nat)) ∧ Hid (Below wc.heap.size wc wr))
                  case atStart => exact ⟨0, t, rfl, rfl, by omega, by omega, by omega, Lib.hid (by simp), BR⟩
                  case round =>
                    obtain ⟨q, z, rfl, rfl, hkq, hzq, hz9, HT, BS⟩ := hrel
                    have hq9 : (q : Int) < 202 := by omega
                    have hq0 : (0 : Int) ≤ (q : Int) := by omega
                    have hz8 : -202 ≤ z := by omega
                    by_cases hq : q < m
                    · have hqz : (q : Int) < (m : Int) := by omega
                      obtain ⟨u, hu⟩ : ∃ u, ms[q]? = some u := ⟨_, List.getElem?_eq_getElem (by rw [HML.out]; exact hq)⟩
                      obtain ⟨ub, uo, uB, uBo, uc, e0, hub, huB, y0, u0, u1, u2, u3⟩ := (HM.out.below BS.out).one_at hu
                      injection e0 with e0
                      injection e0 with e0 e3
                      subst e0 e3
                      obtain ⟨xb, xo, xB, xBo, xc, e1, hxb, hxB, x0, v0, v1, v2, v3⟩ := (HM.out.below BS.out).one_at HX.out
                      injection e1 with e1
                      injection e1 with e1 e2
                      subst e1 e2
                      skip
                      obtain ⟨qb, hqb⟩ : ∃ y, y = Val.eqB u x := ⟨_, rfl⟩
                      have HE := Lib.hid (show ∀ W, (binOp BinOp.eql 23 (.agg #[.int .i64 u.kind, .int .i64 u.int, .string u.text, .bool u.bool]) (.agg #[.int .i64 x.kind, .int .i64 x.int, .string x.text, .bool x.bool])).run Try.prog W = .ok (.bool qb) W from fun W => by rw [eql23, hqb])
                      have NT := Lib.hid (show (if qb = true then z - 1 else z) = (t : Int) - ((ms.take (q + 1)).countP (Val.eqB · x) : Nat) by
                        rw [List.take_add_one, hu, List.countP_append, HT.out]
                        simp only [Option.toList, List.countP_cons, List.countP_nil, ← hqb, Nat.zero_add]
                        cases qb
                        · simp
                        · simp; omega)
                      clear hu hqb HT
                      cases qb with
                      | true =>
                        have he := HE.out
                        go_wp2_with fail
                        go_quiet (fail)
                        clear y0 u0 u1 u2 u3 x0 v0 v1 v2 v3 he
                        go_wp2_with fail
                        go_roundg (gk - 1)
                        case measure => omega
                        case rel => exact ⟨q + 1, z - 1, by first | rfl | (simp; done), by first | rfl | (simp; done), by omega, by omega, by omega, NT, Lib.hid (bt (below_drewN _ _) BS.out)⟩
                      | false =>
                        have he := HE.out
                        go_wp2_with fail
                        go_quiet (fail)
                        clear y0 u0 u1 u2 u3 x0 v0 v1 v2 v3 he
                        go_wp2_with fail
                        go_roundg (gk - 1)
                        case measure => omega
                        case rel => exact ⟨q + 1, z, by first | rfl | (simp; done), by first | rfl | (simp; done), by omega, by omega, by omega, NT, Lib.hid (bt (below_drewN _ _) BS.out)⟩
                    · have hqz : ¬ (q : Int) < (m : Int) := by omega
                      obtain rfl : q = m := by omega
                      have hz0 : z = 0 := by
                        rw [HT.out, List.take_of_length_le (by rw [HML.out]; exact Nat.le_refl _), HT2.out, HPERM.out.countP_eq]
                        omega
                      subst hz0
                      clear HT
                      go_wp2_with fail
                      go_roundg (ko - 1)
                      case measure => exact hms.out hi
                      case rel => exact ⟨(p + 1) + 1, by first | rfl | (simp; done), by have := HKO.out; omega, BS⟩
        · have hiz : ¬ (i : Int) < (m : Int) := by omega
          have BB := Lib.hid (bt I.out BQ.out)
          clear I
          go_wp2_with fail
          refine (SU.out _).mono ?_
          rintro e w4 ⟨rfl, h4⟩
          go_wp2_with fail
          go_ret
          exact ⟨rfl, Lib.hid (bt h4.out BB.out)⟩

end Go.Proofs.Ytbcmmecilheicaa

