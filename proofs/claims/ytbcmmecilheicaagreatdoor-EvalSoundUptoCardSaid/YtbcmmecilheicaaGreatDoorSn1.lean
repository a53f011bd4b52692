/- EvalSound: the law. -/
import Derived.Test.YtbcmmecilheicaaGreatDoorTy5
import Derived.Test.YtbcmmecilheicaaGreatDoorVa1
import Derived.Test.YtbcmmecilheicaaGreatDoorNum5
import Derived.Test.YtbcmmecilheicaaGreatDoorFew
import Derived.Test.YtbcmmecilheicaaGreatDoorSure3
namespace Go.Proofs.YtbcmmecilheicaaGreatDoor
open Go Go.RowKit

theorem eqN (W : World) : (binOp BinOp.eql 26 (.agg #[.int .i64 0, .int .i64 0, .string ⟨#[]⟩, .bool false]) (.agg #[.int .i64 0, .int .i64 0, .string ⟨#[]⟩, .bool false])).run Tryz.prog W = .ok (.bool true) W := by kernel_rfl
/-- what the law keeps -/
def SndI (w : World) (E : Env) (VA : Option Addr) (vn vc : Nat) (LA : Option Addr) (ln lc : Nat) (p : Nat) (y : Ex) (A : Option Addr) (n c : Nat) (wr : World) : Prop :=
  Below w.heap.size w wr ∧ Blk wr (w.heap.size + 2) 35 #[.int .i64 E.at_, .slice VA vn vc, .slice LA ln lc] ∧ Blk wr p 38 #[.string y.op, .int .i64 y.kind, .int .i64 y.col, .int .i64 y.val.kind, .int .i64 y.val.int, .string y.val.text, .bool y.val.bool, .slice A n c] ∧ ExIs wr y A n c
theorem SndI.below {w : World} {E : Env} {VA : Option Addr} {vn vc : Nat} {LA : Option Addr} {ln lc : Nat} {p : Nat} {y : Ex} {A : Option Addr} {n c : Nat} {wr wx : World} (h : SndI w E VA vn vc LA ln lc p y A n c wr) (hb : Below wr.heap.size wr wx) : SndI w E VA vn vc LA ln lc p y A n c wx :=
  ⟨bt hb h.1, h.2.1.below hb, h.2.2.1.below hb, h.2.2.2.bel hb⟩

theorem one_al {W w' : World} {t : TypeId} {cs : Array Value} (h : Below (W.alloc (.cells cs t)).heap.size (W.alloc (.cells cs t)) w') : Blk w' W.heap.size t cs := (Blk.new W t cs).below h
theorem one_ald {W w' : World} {t : TypeId} {cs : Array Value} (h : Below (W.alloc (.cells cs t)).drew.heap.size (W.alloc (.cells cs t)).drew w') : Blk w' W.heap.size t cs := (show Blk (W.alloc (.cells cs t)).drew W.heap.size t cs from Blk.new W t cs).below h
set_option maxRecDepth 100000 in
set_option maxHeartbeats 16000000 in
theorem evalSound3 (w : World) (hg : ErrT w) (tn : ByteArray) (CA : Option Addr) (cn cc : Nat) (cols : List Col) (hc : ColsAt w CA cn cols) (hcn : cn ≤ 1466015503701) (x : PEx) (A : Option Addr) (n c : Nat) (hx : PExIs w x A n c) (hd : depthP x ≤ 4611686018427387904)
    (E : Env) (VA : Option Addr) (vn vc : Nat) (LA : Option Addr) (ln lc : Nat) (hE : EnvAt w E VA vn LA ln) (hvn : vn ≤ 4611686018427387904) (hln : ln ≤ 4611686018427387904) :
    Calls Tryz.prog 3 #[.agg #[.string tn, .slice CA cn cc], .agg #[.string x.op, .int .i64 x.val.kind, .int .i64 x.val.int, .string x.val.text, .bool x.val.bool, .string x.name, .slice A n c], .agg #[.int .i64 E.at_, .slice VA vn vc, .slice LA ln lc]] w fun e w' => e = .returned (.bool true) ∧ Hid (Below w.heap.size w w') := by
  obtain ⟨w1, hw1⟩ : ∃ z, z = ((w.alloc (.cells #[.string tn, .slice CA cn cc] 24)).alloc (.cells #[.string x.op, .int .i64 x.val.kind, .int .i64 x.val.int, .string x.val.text, .bool x.val.bool, .string x.name, .slice A n c] 29)).alloc (.cells #[.int .i64 E.at_, .slice VA vn vc, .slice LA ln lc] 35) := ⟨_, rfl⟩
  have B1 := Lib.hid (show Below w.heap.size w w1 by rw [hw1]; exact bt (below_alloc _ _) (bt (below_alloc _ _) (below_alloc _ _)))
  have Z0 := Lib.hid (show Blk w1 w.heap.size 24 #[.string tn, .slice CA cn cc] by rw [hw1]; exact ((Blk.new w 24 _).alloc _).alloc _)
  have Z1 := Lib.hid (show Blk w1 (w.heap.size + 1) 29 #[.string x.op, .int .i64 x.val.kind, .int .i64 x.val.int, .string x.val.text, .bool x.val.bool, .string x.name, .slice A n c] by rw [hw1]; exact (blk_new' (w := w.alloc _) rfl (by simp)).alloc _)
  have Z2 := Lib.hid (show Blk w1 (w.heap.size + 2) 35 #[.int .i64 E.at_, .slice VA vn vc, .slice LA ln lc] by rw [hw1]; exact blk_new' (w := (w.alloc _).alloc _) rfl (by simp))
  have HC := Lib.hid hc
  have HE := Lib.hid hE
  have HG := Lib.hid hg
  have CO := Lib.hid (ofExpr6 w1 tn CA cn cc cols (hc.below B1.out) hcn x A n c (hx.bel B1.out) hd false)
  have t0 := Z0.out.cell 0
  have t1 := Z0.out.cell 1
  have hl0 := Z0.out.lt
  have z0 := Z1.out.cell 0
  have z1 := Z1.out.cell 1
  have z2 := Z1.out.cell 2
  have z3 := Z1.out.cell 3
  have z4 := Z1.out.cell 4
  have z5 := Z1.out.cell 5
  have z6 := Z1.out.cell 6
  have hl1 := Z1.out.lt
  clear hc hx hE hg
  go_enter Tryz.func3, Tryz.ntmps3
  go_upto_region 1 with fail
  rw [← hw1]
  clear hw1
  go_wp2_with fail
  refine CO.out.mono ?_
  clear CO t0 t1 z0 z1 z2 z3 z4 z5 z6 hl0 hl1
  rintro e w2 ⟨y, A', n', c', er, rfl, hy, hb2⟩
  go_upto_region 2 with fail
  obtain ⟨w3, hw3⟩ : ∃ z, z = w2.alloc (.cells #[.string y.op, .int .i64 y.kind, .int .i64 y.col, .int .i64 y.val.kind, .int .i64 y.val.int, .string y.val.text, .bool y.val.bool, .slice A' n' c'] 38) := ⟨_, rfl⟩
  have B23 := Lib.hid (show Below w2.heap.size w2 w3 by rw [hw3]; exact below_alloc _ _)
  have Z7 := Lib.hid (show Blk w3 w2.heap.size 38 #[.string y.op, .int .i64 y.kind, .int .i64 y.col, .int .i64 y.val.kind, .int .i64 y.val.int, .string y.val.text, .bool y.val.bool, .slice A' n' c'] by rw [hw3]; exact Blk.new w2 38 _)
  have HY := Lib.hid (show er = 0 → Typed cols false y ∧ ExIs w3 y A' n' c' from fun h => ⟨(hy.out h).1, ((hy.out h).2.is).bel B23.out⟩)
  have B13 := Lib.hid (bt B23.out hb2.out)
  have B3 := Lib.hid (bt B13.out B1.out)
  rw [← hw3]
  clear hw3 hy hb2
  have hp3 : w2.heap.size < w3.heap.size := Z7.out.lt
  by_cases her : er = 0
  · subst her
    have IS := Lib.hid (show SndI w E VA vn vc LA ln lc w2.heap.size y A' n' c' w3 from ⟨B3.out, Z2.out.below B13.out, Z7.out, (HY.out rfl).2⟩)
    have TY := Lib.hid (HY.out rfl).1
    have Y0 := Lib.hid (Z0.out.below B13.out)
    clear HY
    have y0 := Z7.out.cell 0
    have y1 := Z7.out.cell 1
    have y2 := Z7.out.cell 2
    have y3 := Z7.out.cell 3
    have y4 := Z7.out.cell 4
    have y5 := Z7.out.cell 5
    have y6 := Z7.out.cell 6
    have y7 := Z7.out.cell 7
    have CF := Lib.hid (few6 IS.out.2.2.2 w3 0 1000 (Below.refl _ _))
    go_wp2_with fail
    refine CF.out.mono ?_
    clear CF y0 y1 y2 y3 y4 y5 y6 y7
    rintro e w4 ⟨k, rfl, hb4⟩
    have I4 := Lib.hid (IS.out.below hb4.out)
    have X0 := Lib.hid (Y0.out.below hb4.out)
    clear IS hb4 Y0
    by_cases hk : 1000 ≤ k
    · go_wp2_with fail
      refine (sure7 _).mono ?_
      rintro e wz ⟨rfl, hz⟩
      have BZ := Lib.hid (bt hz.out I4.out.1)
      clear hz
      go_wp2_with fail
      go_ret
      exact ⟨rfl, BZ⟩
    · have t0 := X0.out.cell 0
      have t1 := X0.out.cell 1
      have hl0 := X0.out.lt
      have o0 := I4.out.2.1.cell 0
      have o1 := I4.out.2.1.cell 1
      have o2 := I4.out.2.1.cell 2
      have hlo := I4.out.2.1.lt
      have CK := Lib.hid (check8 w4 tn CA cn cc cols (HC.out.below I4.out.1) hcn VA vn vc E.vals (HE.out.vals.below I4.out.1) HE.out.vtx (by omega))
      go_wp2_with fail
      refine CK.out.mono ?_
      clear CK t0 t1 hl0 o0 o1 o2 hlo
      rintro e w5 ⟨er2, rfl, hck, hb5⟩
      have I5 := Lib.hid (I4.out.below hb5.out)
      clear I4 hb5 X0
      by_cases hr2 : er2 = 0
      · subst hr2
        have FI := Lib.hid (hck.out rfl)
        clear hck
        have o0 := I5.out.2.1.cell 0
        have o1 := I5.out.2.1.cell 1
        have o2 := I5.out.2.1.cell 2
        have hlo := I5.out.2.1.lt
        by_cases ha0 : E.at_ < 0
        · go_wp2_with fail
          refine (sure7 _).mono ?_
          rintro e wz ⟨rfl, hz⟩
          have BZ := Lib.hid (bt hz.out I5.out.1)
          clear hz
          go_wp2_with fail
          go_ret
          exact ⟨rfl, BZ⟩
        · by_cases ha1 : (ln : Int) ≤ E.at_
          · go_wp2_with fail
            refine (sure7 _).mono ?_
            rintro e wz ⟨rfl, hz⟩
            have BZ := Lib.hid (bt hz.out I5.out.1)
            clear hz
            go_wp2_with fail
            go_ret
            exact ⟨rfl, BZ⟩
          · go_wp2_with fail
            have HAT := Lib.hid (And.intro (show 0 ≤ E.at_ by omega) (show E.at_ < (E.labels.length : Int) by rw [HE.out.labels.len]; omega))
            clear o0 o1 o2 hlo ha0 ha1 hk Z7 B13 B23 B3 Z0 Z1 Z2 B1 hp3
            obtain ⟨p, hp⟩ : ∃ q, q = w2.heap.size := ⟨_, rfl⟩
            rw [← hp] at I5 ⊢
            clear hp
            go_loopg [9] ln (fun kx s9 wr => ∃ i : Nat, s9 = .int .i64 i ∧ kx + i = ln ∧ Hid (SndI w E VA vn vc LA ln lc p y A' n' c' wr) ∧ Hid (∀ (j : Nat) (z : ByteArray), j < i → E.labels[j]? = some z → validV (Val.ofText z)))
            case atStart => exact ⟨0, rfl, by omega, I5, Lib.hid (fun j z h => absurd h (Nat.not_lt_zero _))⟩
            case round =>
              obtain ⟨i, rfl, hki, IR, HO⟩ := hrel
              have hi9 : (i : Int) ≤ 4611686018427387904 := by omega
              have hi0 : (0 : Int) ≤ (i : Int) := by omega
              have o2 := IR.out.2.1.cell 2
              have hlo := IR.out.2.1.lt
              by_cases hi : i < ln
              · have hiz : (i : Int) < (ln : Int) := by omega
                obtain ⟨z, hz⟩ : ∃ z, E.labels[i]? = some z := ⟨_, List.getElem?_eq_getElem (by rw [HE.out.labels.len]; exact hi)⟩
                obtain ⟨lb, lo, rfl, hlb, l0⟩ := (HE.out.labels.below IR.out.1).at_ i z hz
                have ZS := Lib.hid (HE.out.ltx z (List.mem_of_getElem? hz))
                have HZ := Lib.hid hz
                have CV := Lib.hid (valid10 wr (Val.ofText z) ZS.out)
                clear hz
                simp only [Val.ofText] at CV
                go_wp2_with fail
                refine CV.out.mono ?_
                clear CV o2 hlo l0
                rintro e w6 ⟨er, rfl, hv, hb6⟩
                have I6 := Lib.hid (IR.out.below hb6.out)
                clear hb6
                cases er with
                | some er =>
                  simp only [errV]
                  go_wp2_with fail
                  refine (sure7 _).mono ?_
                  rintro e wz ⟨rfl, hz⟩
                  have BZ := Lib.hid (bt hz.out I6.out.1)
                  clear hz
                  go_wp2_with fail
                  go_ret
                  exact ⟨rfl, BZ⟩
                | none =>
                  have NX := Lib.hid (show ∀ (j : Nat) (q : ByteArray), j < i + 1 → E.labels[j]? = some q → validV (Val.ofText q) from fun j q hj hq => by
                    rcases Nat.lt_or_ge j i with h | h
                    · exact HO.out j q h hq
                    · obtain rfl : j = i := by omega
                      obtain rfl := Option.some.inj (hq.symm.trans HZ.out)
                      exact hv.out.1 rfl)
                  clear hv HO
                  simp only [errV]
                  go_wp2_with fail
                  go_roundg (gk - 1)
                  case measure => omega
                  case rel => exact ⟨i + 1, by first | rfl | (simp; done), by omega, I6, NX⟩
              · have hiz : ¬ (i : Int) < (ln : Int) := by omega
                have HL := Lib.hid (show ∀ z ∈ E.labels, validV (Val.ofText z) from fun z hz => by
                  obtain ⟨j, hj⟩ := List.getElem?_of_mem hz
                  exact HO.out j z (by have := (List.getElem?_eq_some_iff.1 hj).1; rw [HE.out.labels.len] at this; omega) hj)
                obtain ⟨⟨⟨rk, ri, rs, rb⟩, re⟩, hR⟩ : ∃ r, evalP E y = r := ⟨_, rfl⟩
                have SO := Lib.hid (show SoundR y.kind (⟨rk, ri, rs, rb⟩, re) by rw [← hR]; exact typed_sound E FI.out HL.out HAT.out.1 HAT.out.2 TY.out rfl)
                have RS := Lib.hid (show rs.size ≤ TB from by
                  have := IR.out.2.2.2.size E HE.out.vtx HE.out.ltx
                  rw [hR] at this
                  exact this)
                have HR := Lib.hid hR
                clear hR HO
                go_upto_region 9 with fail
                clear o2 hlo hiz hi hki hi9 hi0
                rename World => wl
                have cG : Hid (∀ W, Below wl.heap.size wl W → Calls Tryz.prog 12 #[exAgg y A' n' c'] W (GivePost y n' W)) := Lib.hid (fun W h => give8 IR.out.2.2.2 W h)
                have cE := Lib.hid (fun (W0 W : World) (A2 : Option Addr) (c2 : Nat) (h : ExIs W0 y A2 n' c2) (hb0 : Below wl.heap.size wl W0) (hb : Below W0.heap.size W0 W) => by
                  have q := of9 E VA vn vc LA ln lc ((HE.out.below IR.out.1).below (bt hb hb0)) (h.bel hb)
                  rw [HR.out] at q
                  exact q)
                have KD := Lib.hid (fun (W : World) (h : Below wl.heap.size wl W) => (show W.cell? ⟨p, 0, none⟩ = some (.string y.op) ∧ W.cell? ⟨p, 1, none⟩ = some (.int .i64 y.kind) ∧ W.cell? ⟨p, 2, none⟩ = some (.int .i64 y.col) ∧ W.cell? ⟨p, 3, none⟩ = some (.int .i64 y.val.kind) ∧ W.cell? ⟨p, 4, none⟩ = some (.int .i64 y.val.int) ∧ W.cell? ⟨p, 5, none⟩ = some (.string y.val.text) ∧ W.cell? ⟨p, 6, none⟩ = some (.bool y.val.bool) ∧ W.cell? ⟨p, 7, none⟩ = some (.slice A' n' c') ∧ W.cell? ⟨w.heap.size + 2, 0, none⟩ = some (.int .i64 E.at_) ∧ W.cell? ⟨w.heap.size + 2, 1, none⟩ = some (.slice VA vn vc) ∧ W.cell? ⟨w.heap.size + 2, 2, none⟩ = some (.slice LA ln lc) from by
                  have zp := (IR.out.below h).2.2.1
                  have zo := (IR.out.below h).2.1
                  exact ⟨zp.cell 0, zp.cell 1, zp.cell 2, zp.cell 3, zp.cell 4, zp.cell 5, zp.cell 6, zp.cell 7, zo.cell 0, zo.cell 1, zo.cell 2⟩))
                go_cut [10, 11] from 66 to 75 (fun s10 s11 wx => ∃ p8 : Nat, s10 = .pointer (some ⟨p8, 0, none⟩) ∧ s11 = errV re ∧ Hid (Below wl.heap.size wl wx ∧ p8 < wx.heap.size ∧ ValC wx p8 0 ⟨rk, ri, rs, rb⟩))
                case first =>
                  have hb := below_drew wl
                  have hs3 := hb.size
                  go_region_held3 (fun W : World => W.cell? ⟨p, 0, none⟩ = some (.string y.op) ∧ W.cell? ⟨p, 1, none⟩ = some (.int .i64 y.kind) ∧ W.cell? ⟨p, 2, none⟩ = some (.int .i64 y.col) ∧ W.cell? ⟨p, 3, none⟩ = some (.int .i64 y.val.kind) ∧ W.cell? ⟨p, 4, none⟩ = some (.int .i64 y.val.int) ∧ W.cell? ⟨p, 5, none⟩ = some (.string y.val.text) ∧ W.cell? ⟨p, 6, none⟩ = some (.bool y.val.bool) ∧ W.cell? ⟨p, 7, none⟩ = some (.slice A' n' c') ∧ W.cell? ⟨w.heap.size + 2, 0, none⟩ = some (.int .i64 E.at_) ∧ W.cell? ⟨w.heap.size + 2, 1, none⟩ = some (.slice VA vn vc) ∧ W.cell? ⟨w.heap.size + 2, 2, none⟩ = some (.slice LA ln lc))
                    ((first | (refine KD.out _ ?_; go_grown; done) | trivial))
                    (first
                      | (go_at_call 12; (with_reducible refine (cG.out _ ?_).mono ?_); · go_grown
                         rintro e w5 ⟨A2, c2, rfl, hin, h5⟩; have hb5 := bt h5.out (show Below wl.heap.size wl _ by go_grown); have hs5 := hb5.size; have hin2 := Lib.hid hin.out.is; (first | (with_reducible have pz := one_ald h5.out) | (with_reducible have pz := one_al h5.out) | skip))
                      | (go_at_call 11; (with_reducible refine (cE.out _ _ A2 c2 hin2.out hb5 ?_).mono ?_); · go_grown
                         rintro e w6 ⟨rfl, h6⟩; simp only [resV, Val.cells]; have hb6 := bt h6.out (show Below w5.heap.size w5 _ by go_grown); have hs6 := hb6.size; have hb7 := bt hb6 hb5; have hs7 := hb7.size; (first | ((with_reducible have pq := one_al h6.out); have hfz := (fun o => pq.frozen o); have q0 := pq.cell 0; have q1 := pq.cell 1; have q2 := pq.cell 2; have q3 := pq.cell 3) | (have pq := pz.below hb6; have hfz := (fun o => pq.frozen o); have q0 := pq.cell 0; have q1 := pq.cell 1; have q2 := pq.cell 2; have q3 := pq.cell 3) | skip)))
                  all_goals
                    go_wp2_with fail
                    go_meet
                    case rel =>
                      refine ⟨_, rfl, rfl, Lib.hid ⟨?_, ?_, ?_⟩⟩
                      · go_grown
                      · first
                          | (have hpq := pq.lt; simp only [World.size_setCell]; exact hpq)
                          | (simp only [World.size_alloc]; omega)
                      · first
                          | exact val_set pq _ _ _ _
                          | exact ⟨(Blk.new _ _ _).cell 0, (Blk.new _ _ _).cell 1, (Blk.new _ _ _).cell 2, (Blk.new _ _ _).cell 3⟩
                case rest =>
                  obtain ⟨p8, rfl, rfl, HW⟩ := hcut
                  have IW := Lib.hid (IR.out.below HW.out.1)
                  have hp8 := HW.out.2.1
                  obtain ⟨v0, v1, v2, v3⟩ := HW.out.2.2
                  simp only [Nat.zero_add] at v1 v2 v3
                  clear cG cE KD IR
                  cases re with
                  | some er =>
                    obtain ⟨her, hnull⟩ := SO.out
                    injection hnull with e0 e1 e2 e3
                    subst e0 e1 e2 e3
                    have CN := Lib.hid (num13 wc (HG.out.below IW.out.1) er)
                    simp only [errV]
                    go_wp2_with fail
                    refine CN.out.mono ?_
                    clear CN v0 v1 v2 v3
                    rintro e w9 ⟨rfl, hb9⟩
                    have I9 := Lib.hid (bt hb9.out IW.out.1)
                    obtain ⟨v0, v1, v2, v3⟩ := HW.out.2.2.below hp8 hb9.out
                    simp only [Nat.zero_add] at v1 v2 v3
                    have hp9 := Nat.lt_of_lt_of_le hp8 hb9.out.size
                    have hn := fun W => eqN W
                    clear hb9 hp8 SO
                    rcases her with rfl | rfl | rfl
                    · go_wp2_with fail
                      refine (sure7 _).mono ?_
                      rintro e wz ⟨rfl, hz⟩
                      have BZ := Lib.hid (bt hz.out I9.out)
                      clear hz
                      go_wp2_with fail
                      go_ret
                      exact ⟨rfl, BZ⟩
                    · go_wp2_with fail
                      refine (sure7 _).mono ?_
                      rintro e wz ⟨rfl, hz⟩
                      have BZ := Lib.hid (bt hz.out I9.out)
                      clear hz
                      go_wp2_with fail
                      go_ret
                      exact ⟨rfl, BZ⟩
                    · go_wp2_with fail
                      refine (sure7 _).mono ?_
                      rintro e wz ⟨rfl, hz⟩
                      have BZ := Lib.hid (bt hz.out I9.out)
                      clear hz
                      go_wp2_with fail
                      go_ret
                      exact ⟨rfl, BZ⟩
                  | none =>
                    obtain ⟨hvv, hkd⟩ := SO.out
                    have VV := Lib.hid hvv
                    have CV := Lib.hid (valid10 wc ⟨rk, ri, rs, rb⟩ RS.out)
                    clear hvv SO
                    simp only [errV]
                    go_wp2_with fail
                    refine CV.out.mono ?_
                    clear CV v0 v1 v2 v3
                    rintro e w9 ⟨er, rfl, hv, hb9⟩
                    have I9 := Lib.hid (IW.out.below hb9.out)
                    obtain ⟨v0, v1, v2, v3⟩ := HW.out.2.2.below hp8 hb9.out
                    simp only [Nat.zero_add] at v1 v2 v3
                    have hp9 := Nat.lt_of_lt_of_le hp8 hb9.out.size
                    obtain rfl : er = none := hv.out.2 VV.out
                    have y1 := I9.out.2.2.1.cell 1
                    have hly := I9.out.2.2.1.lt
                    clear hb9 hp8 hv
                    simp only [errV]
                    simp only at hkd v0
                    by_cases k0 : rk = 0
                    · subst k0
                      go_wp2_with fail
                      refine (sure7 _).mono ?_
                      rintro e wz ⟨rfl, hz⟩
                      have BZ := Lib.hid (bt hz.out I9.out.1)
                      clear hz
                      go_wp2_with fail
                      go_ret
                      exact ⟨rfl, BZ⟩
                    · have k1 : (rk == 0) = false := by simpa using k0
                      obtain rfl : rk = y.kind := by rcases hkd with h | h; exact absurd h k0; exact h
                      have k2 : (y.kind == y.kind) = true := by simp
                      go_wp2_with fail
                      refine (sure7 _).mono ?_
                      rintro e wz ⟨rfl, hz⟩
                      have BZ := Lib.hid (bt hz.out I9.out.1)
                      clear hz
                      go_wp2_with fail
                      go_ret
                      exact ⟨rfl, BZ⟩
      · have r1 : (er2 != 0) = true := by simpa using hr2
        have r2 : (er2 == 0) = false := by simpa using hr2
        clear hck hr2
        go_wp2_with fail
        refine (sure7 _).mono ?_
        rintro e wz ⟨rfl, hz⟩
        have BZ := Lib.hid (bt hz.out I5.out.1)
        clear hz
        go_wp2_with fail
        go_ret
        exact ⟨rfl, BZ⟩
  · have r1 : (er != 0) = true := by simpa using her
    have r2 : (er == 0) = false := by simpa using her
    clear her
    go_wp2_with fail
    refine (sure7 _).mono ?_
    rintro e wz ⟨rfl, hz⟩
    have BZ := Lib.hid (bt hz.out B3.out)
    clear hz
    go_wp2_with fail
    go_ret
    exact ⟨rfl, BZ⟩

end Go.Proofs.YtbcmmecilheicaaGreatDoor
