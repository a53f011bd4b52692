/- exec's part.aggregate, of a sum. -/
import Derived.Test.YtbcmmecilheicaaArg
import Derived.Test.YtbcmmecilheicaaAgt
import Derived.Test.YtbcmmecilheicaaVal6
namespace Go.Proofs.Ytbcmmecilheicaa
open Go Go.RowKit

/-- values added up -/
noncomputable def sumL : Val → List Val → Val × Option Int
  | s, [] => (s, none)
  | s, v :: l => match reckonP 43 s v with
    | (_, some er) => (Val.null, some er)
    | (s', none) => sumL s' l
noncomputable def sumP (lb : List ByteArray) (y : Ex) (rs : List (Int × List Val)) : Val × Option Int :=
  match argsP lb y rs with
  | (_, some er) => (Val.null, some er)
  | ([], none) => (Val.null, none)
  | (v :: l, none) => sumL v l
theorem sumL_at {s : Val} {l : List Val} {i : Nat} {v : Val} (h : l[i]? = some v) : sumL s (l.drop i) = match reckonP 43 s v with
    | (_, some er) => (Val.null, some er)
    | (s', none) => sumL s' (l.drop (i + 1)) := by
  obtain ⟨h1, rfl⟩ := List.getElem?_eq_some_iff.1 h
  rw [List.drop_eq_getElem_cons h1, sumL]
theorem blk_set4 {W : World} {b : Nat} {t : TypeId} {c0 c1 c2 c3 : Value} (z : Blk W b t #[c0, c1, c2, c3]) (d0 d1 d2 d3 : Value) :
    Blk ((((W.setCell ⟨b, 0, none⟩ d0).setCell ⟨b, 1, none⟩ d1).setCell ⟨b, 2, none⟩ d2).setCell ⟨b, 3, none⟩ d3) b t #[d0, d1, d2, d3] := by
  have z0 : Blk _ b t #[d0, c1, c2, c3] := z.set_ 0 d0
  have z1 : Blk _ b t #[d0, d1, c2, c3] := z0.set_ 1 d1
  have z2 : Blk _ b t #[d0, d1, d2, c3] := z1.set_ 2 d2
  exact z2.set_ 3 d3

set_option maxRecDepth 100000 in
set_option maxHeartbeats 8000000 in
theorem sum82 (w : World) (RA : Option Addr) (rn rc : Nat) (rs : List (Int × List Val)) (hr : RowsAt w RA rn rs) (hn : rn ≤ 1000000) (htx : RowsTx rs) (i1 : Option Addr) (n1 c1 : Nat) (i2 : Option Addr) (n2 c2 : Nat) (kind col : Int) (v : Val) (b off n c : Nat) (hb : b < w.heap.size) (hn0 : (0 : Int) < n)
    (y : Ex) (Ay : Option Addr) (ny cy : Nat) (hy : ExC w b off y Ay ny cy) (hyi : ExIs w y Ay ny cy) (lb : List ByteArray) (LA : Option Addr) (ln lc : Nat) (hlb : StrsAt w LA ln lb) (hlt : ∀ z ∈ lb, z.size ≤ TB) :
    Calls Try.prog 82 #[.agg #[.slice RA rn rc, .slice i1 n1 c1, .slice i2 n2 c2], .agg #[.string ⟨#[115, 117, 109]⟩, .int .i64 kind, .int .i64 col, .int .i64 v.kind, .int .i64 v.int, .string v.text, .bool v.bool, .slice (some ⟨b, off, none⟩) n c], .slice LA ln lc] w
      fun e w' => e = .returned (resV (sumP lb y rs)) ∧ Hid (Below w.heap.size w w') := by
  obtain ⟨w1, hw1⟩ : ∃ z, z = ((w.alloc (.cells #[.slice RA rn rc, .slice i1 n1 c1, .slice i2 n2 c2] 85)).alloc (.cells #[.string ⟨#[115, 117, 109]⟩, .int .i64 kind, .int .i64 col, .int .i64 v.kind, .int .i64 v.int, .string v.text, .bool v.bool, .slice (some ⟨b, off, none⟩) n c] 37)).alloc (.cells #[.int .i64 0, .int .i64 0, .string ⟨#[]⟩, .bool false] 23) := ⟨_, rfl⟩
  have B1 := Lib.hid (show Below w.heap.size w w1 by rw [hw1]; exact bt (below_alloc _ _) (bt (below_alloc _ _) (below_alloc _ _)))
  have Z0 := Lib.hid (show Blk w1 w.heap.size 85 #[.slice RA rn rc, .slice i1 n1 c1, .slice i2 n2 c2] by rw [hw1]; exact ((Blk.new w 85 _).alloc _).alloc _)
  have Z1 := Lib.hid (show Blk w1 (w.heap.size + 1) 37 #[.string ⟨#[115, 117, 109]⟩, .int .i64 kind, .int .i64 col, .int .i64 v.kind, .int .i64 v.int, .string v.text, .bool v.bool, .slice (some ⟨b, off, none⟩) n c] by rw [hw1]; exact (blk_new' (w := w.alloc _) rfl (by simp)).alloc _)
  have Z2 := Lib.hid (show Blk w1 (w.heap.size + 1 + 1) 23 #[.int .i64 0, .int .i64 0, .string ⟨#[]⟩, .bool false] by rw [hw1]; exact blk_new' (w := (w.alloc _).alloc _) rfl (by simp))
  have CC := Lib.hid (args89 w1.drew RA rn rc rs (hr.below (bt (below_drew w1) B1.out)) hn htx (.slice i1 n1 c1) (.slice i2 n2 c2) rfl rfl y Ay ny cy (hyi.bel (bt (below_drew w1) B1.out)) lb LA ln lc (hlb.below (bt (below_drew w1) B1.out)) hlt i1 n1 c1 rfl i2 n2 c2 rfl)
  have HL := Lib.hid hr.len
  obtain ⟨x0, x1, x2, x3, x4, x5, x6, x7⟩ := hy.below hb B1.out
  obtain ⟨⟨vs, er⟩, hres⟩ : ∃ q, q = argsP lb y rs := ⟨_, rfl⟩
  have HP := Lib.hid (show sumP lb y rs = match (vs, er) with
    | (_, some er) => (Val.null, some er)
    | ([], none) => (Val.null, none)
    | (v :: l, none) => sumL v l by rw [hres]; rfl)
  unfold ArgsPost at CC
  rw [← hres] at CC
  clear hr htx hy hyi hlb hlt hres
  have z00 := Z0.out.cell 0
  have z01 := Z0.out.cell 1
  have z02 := Z0.out.cell 2
  have z10 := Z1.out.cell 0
  have z17 := Z1.out.cell 7
  have hbb := Nat.lt_of_lt_of_le hb B1.out.size
  have hs1 := Z2.out.lt
  have hn1 : 0 < n := by omega
  have hn2 : ¬ n = 0 := by omega
  have hn3 : ¬ n ≤ 0 := by omega
  go_enter Try.func82, Try.ntmps82
  go_wp2_with fail
  rw [← hw1]
  clear hw1
  go_cut [8, 9] from 20 to 29 (fun s8 s9 wx => ∃ (A' : Option Addr) (k c' : Nat), s8 = .slice A' k c' ∧ s9 = errV er ∧ k ≤ c' ∧ k ≤ rs.length ∧ Hid (ValsAt wx A' k vs) ∧ Hid (Below w1.heap.size w1 wx))
  case first =>
    go_region_law (first | (go_simp; go_at_call 89; refine CC.out.mono ?_; rintro e2 w2 ⟨A', k, c', rfl, h1, h2, h3, h4⟩))
    all_goals
      go_wp2_with fail
      go_meet
      case rel => exact ⟨A', k, c', rfl, rfl, h1, h2, h3, Lib.hid (bt h4.out (below_drew w1))⟩
  case rest =>
    obtain ⟨A', k, c', rfl, rfl, hkc, hkr, HV, HB⟩ := hcut
    clear CC z00 z01 z02 z10 z17 x0 x1 x2 x3 x4 x5 x6 x7
    have hs2 := HB.out.size
    have z10 := (Z1.out.below HB.out).cell 0
    have hs3 : w.heap.size + 1 + 1 < wc.heap.size := Nat.lt_of_lt_of_le hs1 HB.out.size
    cases er with
    | some er =>
      have EE := Lib.hid (show sumP lb y rs = (Val.null, some er) from HP.out)
      simp only [errV]
      go_wp2_with fail
      refine (null34 _).mono ?_
      rintro e w2 ⟨rfl, h2⟩
      have B2 := Lib.hid (show Below w1.heap.size w1 w2 from bt h2.out HB.out)
      have ZR := Lib.hid (Z2.out.below B2.out)
      have hfz := fun o => ZR.out.frozen o
      have q0 := ZR.out.cell 0
      have q1 := ZR.out.cell 1
      have q2 := ZR.out.cell 2
      have q3 := ZR.out.cell 3
      have BW := Lib.hid (show Below w.heap.size w w2 from bt B2.out B1.out)
      clear z10 h2
      go_wp2_with fail
      refine bodyPost_ret (results_cv (s := 6) (k := 7) rfl rfl rfl (val_set ZR.out _ _ _ _)) rfl ⟨by rw [EE.out]; rfl, Lib.hid (by have hb := BW.out; have hs := hb.size; go_grown)⟩
    | none =>
      simp only [errV]
      have hlen := HV.out.len
      cases vs with
      | nil =>
        obtain rfl : k = 0 := by simpa using hlen.symm
        have EE := Lib.hid (show sumP lb y rs = (Val.null, none) from HP.out)
        go_wp2_with fail
        refine (null34 _).mono ?_
        rintro e w2 ⟨rfl, h2⟩
        have B2 := Lib.hid (show Below w1.heap.size w1 w2 from bt h2.out HB.out)
        have ZR := Lib.hid (Z2.out.below B2.out)
        have hfz := fun o => ZR.out.frozen o
        have q0 := ZR.out.cell 0
        have q1 := ZR.out.cell 1
        have q2 := ZR.out.cell 2
        have q3 := ZR.out.cell 3
        have BW := Lib.hid (show Below w.heap.size w w2 from bt B2.out B1.out)
        clear z10 h2
        go_wp2_with fail
        refine bodyPost_ret (results_cv (s := 6) (k := 7) rfl rfl rfl (val_set ZR.out _ _ _ _)) rfl ⟨by rw [EE.out]; rfl, Lib.hid (by have hb := BW.out; have hs := hb.size; go_grown)⟩
      | cons v0 t =>
        obtain ⟨m, hm⟩ : ∃ m, m = t.length := ⟨_, rfl⟩
        obtain rfl : k = m + 1 := by rw [hm]; simpa using hlen.symm
        have EE := Lib.hid (show sumP lb y rs = sumL v0 t from HP.out)
        obtain ⟨b', off', rfl, hb', c0', c1', c2', c3'⟩ := HV.out.at_ 0 v0 rfl
        simp only [Nat.zero_mul, Nat.add_zero] at c0' c1' c2' c3'
        have HM := Lib.hid hm
        have HRL := HL.out
        have hm9 : m < 1000000 := by omega
        have hm8 : ¬ (m : Int) + 1 = 0 := by omega
        have hm7 : ((m : Int) + 1 == 0) = false := by simp; omega
        have hm6 : 1 ≤ c' := by omega
        have hm5 : m ≤ c' - 1 := by omega
        clear hlen hm HP
        have ZRc := Lib.hid (Z2.out.below HB.out)
        by_cases hc1 : c' = 1
        · subst hc1
          obtain rfl : m = 0 := by omega
          have E2 := Lib.hid (show sumP lb y rs = (v0, none) by
            rw [EE.out, List.eq_nil_of_length_eq_zero HM.out.symm]; rfl)
          go_wp2_with fail
          obtain ⟨wy, hwy⟩ : ∃ x, x = wc.alloc (.cells #[.int .i64 v0.kind, .int .i64 v0.int, .string v0.text, .bool v0.bool] 23) := ⟨_, rfl⟩
          have ZY := Lib.hid (show Blk wy wc.heap.size 23 #[.int .i64 v0.kind, .int .i64 v0.int, .string v0.text, .bool v0.bool] by rw [hwy]; exact Blk.new wc 23 _)
          have BY := Lib.hid (show Below wc.heap.size wc wy by rw [hwy]; exact below_alloc _ _)
          rw [← hwy]
          clear hwy z10
          have ZRy := Lib.hid (ZRc.out.below BY.out)
          have hfz := fun o => ZRy.out.frozen o
          have q0 := ZRy.out.cell 0
          have q1 := ZRy.out.cell 1
          have q2 := ZRy.out.cell 2
          have q3 := ZRy.out.cell 3
          have r0 := ZY.out.cell 0
          have r1 := ZY.out.cell 1
          have r2 := ZY.out.cell 2
          have r3 := ZY.out.cell 3
          have hzl := ZY.out.lt
          have BW := Lib.hid (show Below w.heap.size w wy from bt BY.out (bt HB.out B1.out))
          refine wp_loop_rounds 1 ?_
          rw [rounds_succ]
          go_wp2_with fail
          refine bodyPost_ret (results_cv (s := 6) (k := 7) rfl rfl rfl (val_set ZRy.out _ _ _ _)) rfl ⟨by rw [E2.out]; rfl, Lib.hid (by have hb := BW.out; have hs := hb.size; go_grown)⟩
        · go_wp2_with fail
          obtain ⟨wy, hwy⟩ : ∃ x, x = wc.alloc (.cells #[.int .i64 v0.kind, .int .i64 v0.int, .string v0.text, .bool v0.bool] 23) := ⟨_, rfl⟩
          have ZY := Lib.hid (show Blk wy wc.heap.size 23 #[.int .i64 v0.kind, .int .i64 v0.int, .string v0.text, .bool v0.bool] by rw [hwy]; exact Blk.new wc 23 _)
          have BY := Lib.hid (show Below wc.heap.size wc wy by rw [hwy]; exact below_alloc _ _)
          rw [← hwy]
          clear hwy z10
          go_loopg [9, 65] m (fun kx s9 s65 wr => ∃ (i : Nat) (cur : Val), s9 = .nilIface ∧ s65 = .int .i64 i ∧ kx + i = m ∧ Hid (Below wc.heap.size wc wr ∧ Blk wr wc.heap.size 23 #[.int .i64 cur.kind, .int .i64 cur.int, .string cur.text, .bool cur.bool] ∧ sumL v0 t = sumL cur (t.drop i)))
          case atStart => exact ⟨0, v0, rfl, rfl, rfl, Lib.hid ⟨BY.out, ZY.out, rfl⟩⟩
          case round =>
            obtain ⟨i, ⟨ck, ci, cs, cb⟩, rfl, rfl, hk, I⟩ := hrel
            by_cases hi : i < m
            · obtain ⟨u, hu⟩ : ∃ u, t[i]? = some u := ⟨_, List.getElem?_eq_getElem (by rw [← HM.out]; exact hi)⟩
              have hiz : (i : Int) < (m : Int) := by omega
              have hi0 : (0 : Int) ≤ (i : Int) := by omega
              have hi9 : (i : Int) < 1000000 := by omega
              obtain ⟨b2, off2, e2, hb2, d0, d1, d2, d3⟩ := (HV.out.below I.out.1).at_ (i + 1) u (by simpa using hu)
              injection e2 with e2
              injection e2 with e2 e3
              subst e2 e3
              have ea : off' + (i + 1) * 4 = off' + 4 + i * 4 := by omega
              rw [ea] at d0 d1 d2 d3
              have hs := sumL_at (s := ⟨ck, ci, cs, cb⟩) hu
              rw [← I.out.2.2] at hs
              obtain ⟨⟨⟨rk, ri, rs', rb⟩, re⟩, hre⟩ : ∃ q, q = reckonP 43 ⟨ck, ci, cs, cb⟩ u := ⟨_, rfl⟩
              have CC := Lib.hid (reckon49 (wr.alloc (.cells #[.int .i64 u.kind, .int .i64 u.int, .string u.text, .bool u.bool] 23)) 43 (.inl rfl) ⟨ck, ci, cs, cb⟩ u)
              rw [← hre] at CC hs
              have HS := Lib.hid hs
              have zr := I.out.2.1
              have hzl := zr.lt
              have r0 := zr.cell 0
              have r1 := zr.cell 1
              have r2 := zr.cell 2
              have r3 := zr.cell 3
              have II := Lib.hid I.out
              clear hu hs hre I zr
              go_wp2_with fail
              refine CC.out.mono ?_
              clear CC d0 d1 d2 d3 r0 r1 r2 r3
              rintro e w2 ⟨rfl, h2⟩
              have B2 := Lib.hid (show Below wr.heap.size wr w2 from bt h2.out (below_alloc _ _))
              have zr2 := II.out.2.1.below B2.out
              have hfz := fun o => zr2.frozen o
              have r0 := zr2.cell 0
              have r1 := zr2.cell 1
              have r2 := zr2.cell 2
              have r3 := zr2.cell 3
              have ZR2 := Lib.hid zr2
              have Bc2 := Lib.hid (show Below wc.heap.size wc w2 from bt B2.out II.out.1)
              clear h2 zr2
              simp only [resV, Val.cells]
              cases re with
              | some er =>
                have E2 := Lib.hid (show sumP lb y rs = (Val.null, some er) by rw [EE.out]; exact HS.out)
                simp only [errV]
                go_wp2_with fail
                refine (null34 _).mono ?_
                rintro e w4 ⟨rfl, h4⟩
                have B4 := Lib.hid (bt h4.out (show Below w1.heap.size w1 _ by have hb := bt Bc2.out HB.out; have hs := hb.size; go_grown))
                have ZR4 := Lib.hid (Z2.out.below B4.out)
                have hfz4 := fun o => ZR4.out.frozen o
                have q0 := ZR4.out.cell 0
                have q1 := ZR4.out.cell 1
                have q2 := ZR4.out.cell 2
                have q3 := ZR4.out.cell 3
                have BW := Lib.hid (show Below w.heap.size w w4 from bt B4.out B1.out)
                clear h4 hfz r0 r1 r2 r3
                go_wp2_with fail
                refine bodyPost_ret (results_cv (s := 6) (k := 7) rfl rfl rfl (val_set ZR4.out _ _ _ _)) rfl ⟨by rw [E2.out]; rfl, Lib.hid (by have hb := BW.out; have hs := hb.size; go_grown)⟩
              | none =>
                have NX := Lib.hid (show Below wc.heap.size wc ((((w2.setCell ⟨wc.heap.size, 0, none⟩ (.int .i64 rk)).setCell ⟨wc.heap.size, 1, none⟩ (.int .i64 ri)).setCell ⟨wc.heap.size, 2, none⟩ (.string rs')).setCell ⟨wc.heap.size, 3, none⟩ (.bool rb)) ∧ Blk ((((w2.setCell ⟨wc.heap.size, 0, none⟩ (.int .i64 rk)).setCell ⟨wc.heap.size, 1, none⟩ (.int .i64 ri)).setCell ⟨wc.heap.size, 2, none⟩ (.string rs')).setCell ⟨wc.heap.size, 3, none⟩ (.bool rb)) wc.heap.size 23 #[.int .i64 rk, .int .i64 ri, .string rs', .bool rb] ∧ sumL v0 t = sumL ⟨rk, ri, rs', rb⟩ (t.drop (i + 1)) from
                  ⟨by have hb := Bc2.out; have hs := hb.size; go_grown, blk_set4 ZR2.out _ _ _ _, HS.out⟩)
                simp only [errV]
                go_wp2_with fail
                go_roundg (gk - 1)
                case measure => omega
                case rel => exact ⟨i + 1, ⟨rk, ri, rs', rb⟩, by first | rfl | (simp; done), by first | rfl | (simp; done), by omega, NX⟩
            · obtain rfl : i = m := by omega
              have hiz : ¬ (i : Int) < (i : Int) := by omega
              have E2 := Lib.hid (show sumP lb y rs = (⟨ck, ci, cs, cb⟩, none) by
                rw [EE.out, I.out.2.2, List.drop_eq_nil_of_le (by rw [← HM.out]; exact Nat.le_refl _)]; rfl)
              have zr := I.out.2.1
              have r0 := zr.cell 0
              have r1 := zr.cell 1
              have r2 := zr.cell 2
              have r3 := zr.cell 3
              have hzl := zr.lt
              have ZR4 := Lib.hid (Z2.out.below (bt I.out.1 HB.out))
              have hfz4 := fun o => ZR4.out.frozen o
              have q0 := ZR4.out.cell 0
              have q1 := ZR4.out.cell 1
              have q2 := ZR4.out.cell 2
              have q3 := ZR4.out.cell 3
              have BW := Lib.hid (show Below w.heap.size w wr from bt I.out.1 (bt HB.out B1.out))
              clear I zr
              go_wp2_with fail
              refine bodyPost_ret (results_cv (s := 6) (k := 7) rfl rfl rfl (val_set ZR4.out _ _ _ _)) rfl ⟨by rw [E2.out]; rfl, Lib.hid (by have hb := BW.out; have hs := hb.size; go_grown)⟩

end Go.Proofs.Ytbcmmecilheicaa
