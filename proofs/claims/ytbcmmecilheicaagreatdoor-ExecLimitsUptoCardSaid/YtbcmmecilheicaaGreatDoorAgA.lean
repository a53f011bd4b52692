/- The least and the greatest of values. Printed by mkag1.py. exec's part.aggregate, at rows, count, min, max; all of them. Printed by mkag2.py. check.Aggregates, of every expression. -/
import Derived.Test.YtbcmmecilheicaaGreatDoorSumA

/- The least and the greatest of values. Printed by mkag1.py. -/
namespace Go.Proofs.YtbcmmecilheicaaGreatDoor
open Go Go.RowKit

def minL : Val → List Val → Val
 | m, [] => m
 | m, v :: l => minL (if compareP v m < 0 then v else m) l
def maxL : Val → List Val → Val
 | m, [] => m
 | m, v :: l => maxL (if 0 < compareP v m then v else m) l
theorem val_setB {W : World} {b : Nat} {t : TypeId} {c0 c1 c2 c3 : Value} (z : Blk W b t #[c0, c1, c2, c3]) (d0 d1 d2 d3 : Value) : Blk ((((W.setCell ⟨b, 0, none⟩ d0).setCell ⟨b, 1, none⟩ d1).setCell ⟨b, 2, none⟩ d2).setCell ⟨b, 3, none⟩ d3) b t #[d0, d1, d2, d3] := by
 have z0 : Blk _ b t #[d0, c1, c2, c3] := z.set_ 0 d0
 have z1 : Blk _ b t #[d0, d1, c2, c3] := z0.set_ 1 d1
 have z2 : Blk _ b t #[d0, d1, d2, c3] := z1.set_ 2 d2
 exact z2.set_ 3 d3
theorem results_v1 {fn : Func} {s : Nat} (h : fn.results = #[.cell s 26]) {tmps : Array Value} {W : World} {b : Nat} {c0 c1 c2 c3 : Value} (hs : tmps[s]? = some (.pointer (some ⟨b, 0, none⟩))) (z : Blk W b 26 #[c0, c1, c2, c3]) :
  (results fn tmps).run Tryz.prog W = .ok (.agg #[c0, c1, c2, c3]) W := by
 have q0 := z.cell 0
 have q1 := z.cell 1
 have q2 := z.cell 2
 have q3 := z.cell 3
 simp [results, h, hs, go_sem, q0, q1, q2, q3]
/-- what the search keeps -/
structure MmI (w wr : World) (m : Val) : Prop where
 old : Below w.heap.size w wr
 res : Blk wr w.heap.size 26 #[.int .i64 0, .int .i64 0, .string ⟨#[]⟩, .bool false]
 m : Blk wr (w.heap.size + 1) 26 #[.int .i64 m.kind, .int .i64 m.int, .string m.text, .bool m.bool]
theorem MmI.below {w wr wx : World} {m : Val} (I : MmI w wr m) (h : Below wr.heap.size wr wx) : MmI w wx m := ⟨bt h I.old, I.res.below h, I.m.below h⟩
theorem MmI.put {w wr : World} {m : Val} (I : MmI w wr m) (v : Val) : MmI w ((((wr.setCell ⟨w.heap.size + 1, 0, none⟩ (.int .i64 v.kind)).setCell ⟨w.heap.size + 1, 1, none⟩ (.int .i64 v.int)).setCell ⟨w.heap.size + 1, 2, none⟩ (.string v.text)).setCell ⟨w.heap.size + 1, 3, none⟩ (.bool v.bool)) v := by
 have ho := I.old
 have hs := ho.size
 have hl := I.m.lt
 refine ⟨by go_grown, ?_, val_setB I.m _ _ _ _⟩
 have hr := I.res
 unfold Blk at hr ⊢
 rw [Below.heap_setCell _ _ _ _ (by show w.heap.size ≠ w.heap.size + 1; omega), Below.heap_setCell _ _ _ _ (by show w.heap.size ≠ w.heap.size + 1; omega), Below.heap_setCell _ _ _ _ (by show w.heap.size ≠ w.heap.size + 1; omega), Below.heap_setCell _ _ _ _ (by show w.heap.size ≠ w.heap.size + 1; omega)]
 exact hr

set_option maxRecDepth 100000 in
set_option maxHeartbeats 16000000 in
theorem minFunc177 (w : World) (A : Option Addr) (n c : Nat) (v0 : Val) (l : List Val) (hv : ValsAt w A n (v0 :: l)) (hn : n ≤ 1000000) : Calls Tryz.prog 177 #[.slice A n c, .func (.func 95) #[] #[]] w fun e w' => e = .returned (.agg (minL v0 l).cells) ∧ Hid (Below w.heap.size w w') := by
 have HV := Lib.hid hv
 have hlen := hv.len
 have hn1 : 0 < n := by rw [← hlen]; exact Nat.succ_pos _
 have hn2 : ¬ (n : Int) < 1 := by omega
 have hn3 : decide ((n : Int) < 1) = false := decide_eq_false hn2
 have hz0 : (0 : Int) < (n : Int) := by omega
 obtain ⟨b0, o0, rfl, hb0, f0, f1, f2, f3⟩ := hv.at_ 0 v0 rfl
 simp only [Nat.zero_mul, Nat.add_zero] at f0 f1 f2 f3
 clear hv
 obtain ⟨w1, hw1⟩ : ∃ z, z = (w.alloc (.cells #[.int .i64 0, .int .i64 0, .string ⟨#[]⟩, .bool false] 26)).alloc (.cells #[.int .i64 v0.kind, .int .i64 v0.int, .string v0.text, .bool v0.bool] 26) := ⟨_, rfl⟩
 have I1 := Lib.hid (show MmI w w1 v0 by
  rw [hw1]
  exact ⟨bt (below_alloc _ _) (below_alloc _ _), (Blk.new w 26 _).alloc _, blk_new' (w := w.alloc _) rfl (by simp)⟩)
 go_enter Tryz.func177, Tryz.ntmps177
 go_upto_region 4 with fail
 rw [← hw1]
 clear hw1 f0 f1 f2 f3
 go_wp2_with fail
 go_loopg [6] (n - 1) (fun kx s6 wr => ∃ (i : Nat) (m : Val), s6 = .int .i64 i ∧ kx + i = n ∧ 1 ≤ i ∧ Hid (MmI w wr m) ∧ Hid (minL v0 l = minL m (l.drop (i - 1))))
 case atStart => exact ⟨1, v0, rfl, by omega, by omega, I1, Lib.hid rfl⟩
 case round =>
  obtain ⟨i, m, rfl, hki, hi1, I, HL⟩ := hrel
  have hi9 : (i : Int) ≤ 1000000 := by omega
  have hi0 : (0 : Int) ≤ (i : Int) := by omega
  by_cases hi : i < n
  ·have hiz : (i : Int) < (n : Int) := by omega
   obtain ⟨v, hvi⟩ : ∃ v, (v0 :: l)[i]? = some v := ⟨_, List.getElem?_eq_getElem (by rw [hlen]; exact hi)⟩
   obtain ⟨b, off, e1, hb, g0, g1, g2, g3⟩ := HV.out.at_ i v hvi
   injection e1 with e1
   injection e1 with e1 e2
   subst e1 e2
   have HD := Lib.hid (show l.drop (i - 1) = v :: l.drop i by
    obtain ⟨j, rfl⟩ : ∃ j, i = j + 1 := ⟨i - 1, by omega⟩
    simp only [List.getElem?_cons_succ] at hvi
    obtain ⟨hj, rfl⟩ := List.getElem?_eq_some_iff.1 hvi
    rw [show j + 1 - 1 = j by omega]
    exact List.drop_eq_getElem_cons hj)
   have k0 := (I.out.old.cell (p := ⟨b0, o0 + i * 4, none⟩) hb0).trans g0
   have k1 := (I.out.old.cell (p := ⟨b0, o0 + i * 4 + 1, none⟩) hb0).trans g1
   have k2 := (I.out.old.cell (p := ⟨b0, o0 + i * 4 + 2, none⟩) hb0).trans g2
   have k3 := (I.out.old.cell (p := ⟨b0, o0 + i * 4 + 3, none⟩) hb0).trans g3
   have hbr := Nat.lt_of_lt_of_le hb0 I.out.old.size
   have m0 := I.out.m.cell 0
   have m1 := I.out.m.cell 1
   have m2 := I.out.m.cell 2
   have m3 := I.out.m.cell 3
   have hlm := I.out.m.lt
   have CC := Lib.hid (compare43 wr.drew v m)
   obtain ⟨cm, hcm⟩ : ∃ q, compareP v m = q := ⟨_, rfl⟩
   rw [hcm] at CC
   have HCM := Lib.hid hcm
   clear hvi g0 g1 g2 g3 hcm
   go_upto_region 7 with fail
   obtain ⟨q, hq⟩ : ∃ q, decide (cm < 0) = q := ⟨_, rfl⟩
   have HQ := Lib.hid hq
   go_cut [27] from 14 to 31 (fun s27 wx => s27 = .bool q ∧ Hid (Below wr.heap.size wr wx))
   case first =>
    clear hq
    go_region_law (first | (go_simp; go_at_call 95; refine CC.out.mono ?_; rintro e w5 ⟨rfl, hb5⟩))
    all_goals
     go_wp2_with fail
     go_meet
     case rel => exact ⟨congrArg Value.bool HQ.out, Lib.hid (bt hb5.out (below_drew wr))⟩
   case rest =>
    obtain ⟨rfl, HB⟩ := hcut
    have IX := Lib.hid (I.out.below HB.out)
    clear hq CC m0 m1 m2 m3 hlm I
    cases q with
    | false =>
     have NX := Lib.hid (show minL v0 l = minL m (l.drop (i + 1 - 1)) by
      rw [HL.out, HD.out, Nat.add_sub_cancel]
      unfold minL
      rw [if_neg (by rw [HCM.out]; exact of_decide_eq_false HQ.out)]
      cases l.drop i <;> rfl)
     clear k0 k1 k2 k3 hbr
     go_wp2_with fail
     go_roundg (gk - 1)
     case measure => omega
     case rel => exact ⟨i + 1, m, by first | rfl | (simp; done), by omega, by omega, IX, NX⟩
    | true =>
     have NX := Lib.hid (show minL v0 l = minL v (l.drop (i + 1 - 1)) by
      rw [HL.out, HD.out, Nat.add_sub_cancel]
      conv => lhs; unfold minL
      rw [if_pos (by rw [HCM.out]; exact of_decide_eq_true HQ.out)])
     have k0 := (HB.out.cell (p := ⟨b0, o0 + i * 4, none⟩) hbr).trans k0
     have k1 := (HB.out.cell (p := ⟨b0, o0 + i * 4 + 1, none⟩) hbr).trans k1
     have k2 := (HB.out.cell (p := ⟨b0, o0 + i * 4 + 2, none⟩) hbr).trans k2
     have k3 := (HB.out.cell (p := ⟨b0, o0 + i * 4 + 3, none⟩) hbr).trans k3
     have hbc := Nat.lt_of_lt_of_le hbr HB.out.size
     have m0 := IX.out.m.cell 0
     have m1 := IX.out.m.cell 1
     have m2 := IX.out.m.cell 2
     have m3 := IX.out.m.cell 3
     have hfz := fun o => IX.out.m.frozen o
     have hlm := IX.out.m.lt
     have IP := Lib.hid (IX.out.put v)
     go_wp2_with fail
     go_roundg (gk - 1)
     case measure => omega
     case rel => exact ⟨i + 1, v, by first | rfl | (simp; done), by omega, by omega, IP, NX⟩
  ·have hiz : ¬ (i : Int) < (n : Int) := by omega
   have hin : i = n := by omega
   have FE := Lib.hid (show minL v0 l = m by
    rw [HL.out, List.drop_of_length_le (by have : l.length + 1 = n := hlen; omega)]
    rfl)
   have m0 := I.out.m.cell 0
   have m1 := I.out.m.cell 1
   have m2 := I.out.m.cell 2
   have m3 := I.out.m.cell 3
   have hlm := I.out.m.lt
   have q0 := I.out.res.cell 0
   have q1 := I.out.res.cell 1
   have q2 := I.out.res.cell 2
   have q3 := I.out.res.cell 3
   have hfz := fun o => I.out.res.frozen o
   have hlr := I.out.res.lt
   have RZ := Lib.hid I.out.res
   have BB := Lib.hid I.out.old
   clear I HL hin
   go_wp2_with fail
   refine bodyPost_ret (results_v1 (s := 4) rfl rfl (val_setB RZ.out _ _ _ _)) rfl ⟨by rw [FE.out]; rfl, Lib.hid (by have hb := BB.out; have hs := hb.size; go_grown)⟩

set_option maxRecDepth 100000 in
set_option maxHeartbeats 16000000 in
theorem maxFunc178 (w : World) (A : Option Addr) (n c : Nat) (v0 : Val) (l : List Val) (hv : ValsAt w A n (v0 :: l)) (hn : n ≤ 1000000) : Calls Tryz.prog 178 #[.slice A n c, .func (.func 95) #[] #[]] w fun e w' => e = .returned (.agg (maxL v0 l).cells) ∧ Hid (Below w.heap.size w w') := by
 have HV := Lib.hid hv
 have hlen := hv.len
 have hn1 : 0 < n := by rw [← hlen]; exact Nat.succ_pos _
 have hn2 : ¬ (n : Int) < 1 := by omega
 have hn3 : decide ((n : Int) < 1) = false := decide_eq_false hn2
 have hz0 : (0 : Int) < (n : Int) := by omega
 obtain ⟨b0, o0, rfl, hb0, f0, f1, f2, f3⟩ := hv.at_ 0 v0 rfl
 simp only [Nat.zero_mul, Nat.add_zero] at f0 f1 f2 f3
 clear hv
 obtain ⟨w1, hw1⟩ : ∃ z, z = (w.alloc (.cells #[.int .i64 0, .int .i64 0, .string ⟨#[]⟩, .bool false] 26)).alloc (.cells #[.int .i64 v0.kind, .int .i64 v0.int, .string v0.text, .bool v0.bool] 26) := ⟨_, rfl⟩
 have I1 := Lib.hid (show MmI w w1 v0 by
  rw [hw1]
  exact ⟨bt (below_alloc _ _) (below_alloc _ _), (Blk.new w 26 _).alloc _, blk_new' (w := w.alloc _) rfl (by simp)⟩)
 go_enter Tryz.func178, Tryz.ntmps178
 go_upto_region 4 with fail
 rw [← hw1]
 clear hw1 f0 f1 f2 f3
 go_wp2_with fail
 go_loopg [6] (n - 1) (fun kx s6 wr => ∃ (i : Nat) (m : Val), s6 = .int .i64 i ∧ kx + i = n ∧ 1 ≤ i ∧ Hid (MmI w wr m) ∧ Hid (maxL v0 l = maxL m (l.drop (i - 1))))
 case atStart => exact ⟨1, v0, rfl, by omega, by omega, I1, Lib.hid rfl⟩
 case round =>
  obtain ⟨i, m, rfl, hki, hi1, I, HL⟩ := hrel
  have hi9 : (i : Int) ≤ 1000000 := by omega
  have hi0 : (0 : Int) ≤ (i : Int) := by omega
  by_cases hi : i < n
  ·have hiz : (i : Int) < (n : Int) := by omega
   obtain ⟨v, hvi⟩ : ∃ v, (v0 :: l)[i]? = some v := ⟨_, List.getElem?_eq_getElem (by rw [hlen]; exact hi)⟩
   obtain ⟨b, off, e1, hb, g0, g1, g2, g3⟩ := HV.out.at_ i v hvi
   injection e1 with e1
   injection e1 with e1 e2
   subst e1 e2
   have HD := Lib.hid (show l.drop (i - 1) = v :: l.drop i by
    obtain ⟨j, rfl⟩ : ∃ j, i = j + 1 := ⟨i - 1, by omega⟩
    simp only [List.getElem?_cons_succ] at hvi
    obtain ⟨hj, rfl⟩ := List.getElem?_eq_some_iff.1 hvi
    rw [show j + 1 - 1 = j by omega]
    exact List.drop_eq_getElem_cons hj)
   have k0 := (I.out.old.cell (p := ⟨b0, o0 + i * 4, none⟩) hb0).trans g0
   have k1 := (I.out.old.cell (p := ⟨b0, o0 + i * 4 + 1, none⟩) hb0).trans g1
   have k2 := (I.out.old.cell (p := ⟨b0, o0 + i * 4 + 2, none⟩) hb0).trans g2
   have k3 := (I.out.old.cell (p := ⟨b0, o0 + i * 4 + 3, none⟩) hb0).trans g3
   have hbr := Nat.lt_of_lt_of_le hb0 I.out.old.size
   have m0 := I.out.m.cell 0
   have m1 := I.out.m.cell 1
   have m2 := I.out.m.cell 2
   have m3 := I.out.m.cell 3
   have hlm := I.out.m.lt
   have CC := Lib.hid (compare43 wr.drew v m)
   obtain ⟨cm, hcm⟩ : ∃ q, compareP v m = q := ⟨_, rfl⟩
   rw [hcm] at CC
   have HCM := Lib.hid hcm
   clear hvi g0 g1 g2 g3 hcm
   go_upto_region 7 with fail
   obtain ⟨q, hq⟩ : ∃ q, decide (0 < cm) = q := ⟨_, rfl⟩
   have HQ := Lib.hid hq
   go_cut [27] from 14 to 31 (fun s27 wx => s27 = .bool q ∧ Hid (Below wr.heap.size wr wx))
   case first =>
    clear hq
    go_region_law (first | (go_simp; go_at_call 95; refine CC.out.mono ?_; rintro e w5 ⟨rfl, hb5⟩))
    all_goals
     go_wp2_with fail
     go_meet
     case rel => exact ⟨congrArg Value.bool HQ.out, Lib.hid (bt hb5.out (below_drew wr))⟩
   case rest =>
    obtain ⟨rfl, HB⟩ := hcut
    have IX := Lib.hid (I.out.below HB.out)
    clear hq CC m0 m1 m2 m3 hlm I
    cases q with
    | false =>
     have NX := Lib.hid (show maxL v0 l = maxL m (l.drop (i + 1 - 1)) by
      rw [HL.out, HD.out, Nat.add_sub_cancel]
      unfold maxL
      rw [if_neg (by rw [HCM.out]; exact of_decide_eq_false HQ.out)]
      cases l.drop i <;> rfl)
     clear k0 k1 k2 k3 hbr
     go_wp2_with fail
     go_roundg (gk - 1)
     case measure => omega
     case rel => exact ⟨i + 1, m, by first | rfl | (simp; done), by omega, by omega, IX, NX⟩
    | true =>
     have NX := Lib.hid (show maxL v0 l = maxL v (l.drop (i + 1 - 1)) by
      rw [HL.out, HD.out, Nat.add_sub_cancel]
      conv => lhs; unfold maxL
      rw [if_pos (by rw [HCM.out]; exact of_decide_eq_true HQ.out)])
     have k0 := (HB.out.cell (p := ⟨b0, o0 + i * 4, none⟩) hbr).trans k0
     have k1 := (HB.out.cell (p := ⟨b0, o0 + i * 4 + 1, none⟩) hbr).trans k1
     have k2 := (HB.out.cell (p := ⟨b0, o0 + i * 4 + 2, none⟩) hbr).trans k2
     have k3 := (HB.out.cell (p := ⟨b0, o0 + i * 4 + 3, none⟩) hbr).trans k3
     have hbc := Nat.lt_of_lt_of_le hbr HB.out.size
     have m0 := IX.out.m.cell 0
     have m1 := IX.out.m.cell 1
     have m2 := IX.out.m.cell 2
     have m3 := IX.out.m.cell 3
     have hfz := fun o => IX.out.m.frozen o
     have hlm := IX.out.m.lt
     have IP := Lib.hid (IX.out.put v)
     go_wp2_with fail
     go_roundg (gk - 1)
     case measure => omega
     case rel => exact ⟨i + 1, v, by first | rfl | (simp; done), by omega, by omega, IP, NX⟩
  ·have hiz : ¬ (i : Int) < (n : Int) := by omega
   have hin : i = n := by omega
   have FE := Lib.hid (show maxL v0 l = m by
    rw [HL.out, List.drop_of_length_le (by have : l.length + 1 = n := hlen; omega)]
    rfl)
   have m0 := I.out.m.cell 0
   have m1 := I.out.m.cell 1
   have m2 := I.out.m.cell 2
   have m3 := I.out.m.cell 3
   have hlm := I.out.m.lt
   have q0 := I.out.res.cell 0
   have q1 := I.out.res.cell 1
   have q2 := I.out.res.cell 2
   have q3 := I.out.res.cell 3
   have hfz := fun o => I.out.res.frozen o
   have hlr := I.out.res.lt
   have RZ := Lib.hid I.out.res
   have BB := Lib.hid I.out.old
   clear I HL hin
   go_wp2_with fail
   refine bodyPost_ret (results_v1 (s := 4) rfl rfl (val_setB RZ.out _ _ _ _)) rfl ⟨by rw [FE.out]; rfl, Lib.hid (by have hb := BB.out; have hs := hb.size; go_grown)⟩

end Go.Proofs.YtbcmmecilheicaaGreatDoor

/- exec's part.aggregate, at rows, count, min, max; all of them. Printed by mkag2.py. -/
namespace Go.Proofs.YtbcmmecilheicaaGreatDoor
open Go Go.RowKit

noncomputable def cntP (lb : List ByteArray) (y : Ex) (rs : List (Int × List Val)) : Val × Option Int :=
 match argsP lb y rs with
 | (_, some er) => (Val.null, some er)
 | (l, none) => (Val.ofInt l.length, none)
noncomputable def minP (lb : List ByteArray) (y : Ex) (rs : List (Int × List Val)) : Val × Option Int :=
 match argsP lb y rs with
 | (_, some er) => (Val.null, some er)
 | ([], none) => (Val.null, none)
 | (v :: l, none) => (minL v l, none)
noncomputable def maxP (lb : List ByteArray) (y : Ex) (rs : List (Int × List Val)) : Val × Option Int :=
 match argsP lb y rs with
 | (_, some er) => (Val.null, some er)
 | ([], none) => (Val.null, none)
 | (v :: l, none) => (maxL v l, none)

set_option maxRecDepth 100000 in
set_option maxHeartbeats 8000000 in
theorem cnt82 (w : World) (RA : Option Addr) (rn rc : Nat) (rs : List (Int × List Val)) (hr : RowsAt w RA rn rs) (hn : rn ≤ 1000000) (htx : RowsTx rs) (i1 : Option Addr) (n1 c1 : Nat) (i2 : Option Addr) (n2 c2 : Nat) (kind col : Int) (v : Val) (b off n c : Nat) (hb : b < w.heap.size) (hn0 : (0 : Int) < n)
  (y : Ex) (Ay : Option Addr) (ny cy : Nat) (hy : ExC w b off y Ay ny cy) (hyi : ExIs w y Ay ny cy) (lb : List ByteArray) (LA : Option Addr) (ln lc : Nat) (hlb : StrsAt w LA ln lb) (hlt : ∀ z ∈ lb, z.size ≤ TB) :
  Calls Tryz.prog 160 #[.agg #[.slice RA rn rc, .slice i1 n1 c1, .slice i2 n2 c2], .agg #[.string ⟨#[99, 111, 117, 110, 116]⟩, .int .i64 kind, .int .i64 col, .int .i64 v.kind, .int .i64 v.int, .string v.text, .bool v.bool, .slice (some ⟨b, off, none⟩) n c], .slice LA ln lc] w
   fun e w' => e = .returned (resV (cntP lb y rs)) ∧ Hid (Below w.heap.size w w') := by
 obtain ⟨w1, hw1⟩ : ∃ z, z = ((w.alloc (.cells #[.slice RA rn rc, .slice i1 n1 c1, .slice i2 n2 c2] 147)).alloc (.cells #[.string ⟨#[99, 111, 117, 110, 116]⟩, .int .i64 kind, .int .i64 col, .int .i64 v.kind, .int .i64 v.int, .string v.text, .bool v.bool, .slice (some ⟨b, off, none⟩) n c] 51)).alloc (.cells #[.int .i64 0, .int .i64 0, .string ⟨#[]⟩, .bool false] 26) := ⟨_, rfl⟩
 have B1 := Lib.hid (show Below w.heap.size w w1 by rw [hw1]; exact bt (below_alloc _ _) (bt (below_alloc _ _) (below_alloc _ _)))
 have Z0 := Lib.hid (show Blk w1 w.heap.size 147 #[.slice RA rn rc, .slice i1 n1 c1, .slice i2 n2 c2] by rw [hw1]; exact ((Blk.new w 147 _).alloc _).alloc _)
 have Z1 := Lib.hid (show Blk w1 (w.heap.size + 1) 51 #[.string ⟨#[99, 111, 117, 110, 116]⟩, .int .i64 kind, .int .i64 col, .int .i64 v.kind, .int .i64 v.int, .string v.text, .bool v.bool, .slice (some ⟨b, off, none⟩) n c] by rw [hw1]; exact (blk_new' (w := w.alloc _) rfl (by simp)).alloc _)
 have Z2 := Lib.hid (show Blk w1 (w.heap.size + 1 + 1) 26 #[.int .i64 0, .int .i64 0, .string ⟨#[]⟩, .bool false] by rw [hw1]; exact blk_new' (w := (w.alloc _).alloc _) rfl (by simp))
 have CC := Lib.hid (args89 w1.drew RA rn rc rs (hr.below (bt (below_drew w1) B1.out)) hn htx (.slice i1 n1 c1) (.slice i2 n2 c2) rfl rfl y Ay ny cy (hyi.bel (bt (below_drew w1) B1.out)) lb LA ln lc (hlb.below (bt (below_drew w1) B1.out)) hlt i1 n1 c1 rfl i2 n2 c2 rfl)
 have HL := Lib.hid hr.len
 obtain ⟨x0, x1, x2, x3, x4, x5, x6, x7⟩ := hy.below hb B1.out
 obtain ⟨⟨vs, er⟩, hres⟩ : ∃ q, q = argsP lb y rs := ⟨_, rfl⟩
 have HP := Lib.hid (show cntP lb y rs = match (vs, er) with
  | (_, some er) => (Val.null, some er)
  | (l, none) => (Val.ofInt l.length, none) by rw [hres]; rfl)
 unfold ArgsPost at CC
 rw [← hres] at CC
 clear hr htx hy hyi hlb hlt hres
 have z00 := Z0.out.cell 0
 have z01 := Z0.out.cell 1
 have z02 := Z0.out.cell 2
 have z10 := Z1.out.cell 0
 have z17 := Z1.out.cell 7
 have hbb := Nat.lt_of_lt_of_le hb B1.out.size
 have hs1 := Z2.out.lt
 have hn1 : 0 < n := by omega
 have hn2 : ¬ n = 0 := by omega
 have hn3 : ¬ n ≤ 0 := by omega
 go_enter Tryz.func160, Tryz.ntmps160
 go_wp2_with fail
 rw [← hw1]
 clear hw1
 go_cut [8, 9] from 20 to 29 (fun s8 s9 wx => ∃ (A' : Option Addr) (k c' : Nat), s8 = .slice A' k c' ∧ s9 = errV er ∧ k ≤ c' ∧ k ≤ rs.length ∧ Hid (ValsAt wx A' k vs) ∧ Hid (Below w1.heap.size w1 wx))
 case first =>
  go_region_law (first | (go_simp; go_at_call 176; refine CC.out.mono ?_; rintro e2 w2 ⟨A', k, c', rfl, h1, h2, h3, h4⟩))
  all_goals
   go_wp2_with fail
   go_meet
   case rel => exact ⟨A', k, c', rfl, rfl, h1, h2, h3, Lib.hid (bt h4.out (below_drew w1))⟩
 case rest =>
  obtain ⟨A', k, c', rfl, rfl, hkc, hkr, HV, HB⟩ := hcut
  clear CC z00 z01 z02 z10 z17 x0 x1 x2 x3 x4 x5 x6 x7
  have hs2 := HB.out.size
  have z10 := (Z1.out.below HB.out).cell 0
  have hs3 : w.heap.size + 1 + 1 < wc.heap.size := Nat.lt_of_lt_of_le hs1 HB.out.size
  cases er with
  | some er =>
   have EE := Lib.hid (show cntP lb y rs = (Val.null, some er) from HP.out)
   simp only [errV]
   go_wp2_with fail
   refine (null34 _).mono ?_
   rintro e w2 ⟨rfl, h2⟩
   have B2 := Lib.hid (show Below w1.heap.size w1 w2 from bt h2.out HB.out)
   have ZR := Lib.hid (Z2.out.below B2.out)
   have hfz := fun o => ZR.out.frozen o
   have q0 := ZR.out.cell 0
   have q1 := ZR.out.cell 1
   have q2 := ZR.out.cell 2
   have q3 := ZR.out.cell 3
   have BW := Lib.hid (show Below w.heap.size w w2 from bt B2.out B1.out)
   clear z10 h2
   go_wp2_with fail
   refine bodyPost_ret (results_cv (s := 6) (k := 7) rfl rfl rfl (val_set ZR.out _ _ _ _)) rfl ⟨by rw [EE.out]; rfl, Lib.hid (by have hb := BW.out; have hs := hb.size; go_grown)⟩
  | none =>
   simp only [errV]
   have hlen := HV.out.len
   have EE := Lib.hid (show cntP lb y rs = (Val.ofInt k, none) by rw [← hlen]; exact HP.out)
   clear hlen HP
   go_wp2_with fail
   refine (int50 _ _).mono ?_
   rintro e w2 ⟨rfl, h2⟩
   have B2 := Lib.hid (show Below w1.heap.size w1 w2 from bt h2.out HB.out)
   have ZR := Lib.hid (Z2.out.below B2.out)
   have hfz := fun o => ZR.out.frozen o
   have q0 := ZR.out.cell 0
   have q1 := ZR.out.cell 1
   have q2 := ZR.out.cell 2
   have q3 := ZR.out.cell 3
   have BW := Lib.hid (show Below w.heap.size w w2 from bt B2.out B1.out)
   clear z10 h2
   go_wp2_with fail
   refine bodyPost_ret (results_cv (s := 6) (k := 7) rfl rfl rfl (val_set ZR.out _ _ _ _)) rfl ⟨by rw [EE.out]; rfl, Lib.hid (by have hb := BW.out; have hs := hb.size; go_grown)⟩

set_option maxRecDepth 100000 in
set_option maxHeartbeats 8000000 in
theorem min82 (w : World) (RA : Option Addr) (rn rc : Nat) (rs : List (Int × List Val)) (hr : RowsAt w RA rn rs) (hn : rn ≤ 1000000) (htx : RowsTx rs) (i1 : Option Addr) (n1 c1 : Nat) (i2 : Option Addr) (n2 c2 : Nat) (kind col : Int) (v : Val) (b off n c : Nat) (hb : b < w.heap.size) (hn0 : (0 : Int) < n)
  (y : Ex) (Ay : Option Addr) (ny cy : Nat) (hy : ExC w b off y Ay ny cy) (hyi : ExIs w y Ay ny cy) (lb : List ByteArray) (LA : Option Addr) (ln lc : Nat) (hlb : StrsAt w LA ln lb) (hlt : ∀ z ∈ lb, z.size ≤ TB) :
  Calls Tryz.prog 160 #[.agg #[.slice RA rn rc, .slice i1 n1 c1, .slice i2 n2 c2], .agg #[.string ⟨#[109, 105, 110]⟩, .int .i64 kind, .int .i64 col, .int .i64 v.kind, .int .i64 v.int, .string v.text, .bool v.bool, .slice (some ⟨b, off, none⟩) n c], .slice LA ln lc] w
   fun e w' => e = .returned (resV (minP lb y rs)) ∧ Hid (Below w.heap.size w w') := by
 obtain ⟨w1, hw1⟩ : ∃ z, z = ((w.alloc (.cells #[.slice RA rn rc, .slice i1 n1 c1, .slice i2 n2 c2] 147)).alloc (.cells #[.string ⟨#[109, 105, 110]⟩, .int .i64 kind, .int .i64 col, .int .i64 v.kind, .int .i64 v.int, .string v.text, .bool v.bool, .slice (some ⟨b, off, none⟩) n c] 51)).alloc (.cells #[.int .i64 0, .int .i64 0, .string ⟨#[]⟩, .bool false] 26) := ⟨_, rfl⟩
 have B1 := Lib.hid (show Below w.heap.size w w1 by rw [hw1]; exact bt (below_alloc _ _) (bt (below_alloc _ _) (below_alloc _ _)))
 have Z0 := Lib.hid (show Blk w1 w.heap.size 147 #[.slice RA rn rc, .slice i1 n1 c1, .slice i2 n2 c2] by rw [hw1]; exact ((Blk.new w 147 _).alloc _).alloc _)
 have Z1 := Lib.hid (show Blk w1 (w.heap.size + 1) 51 #[.string ⟨#[109, 105, 110]⟩, .int .i64 kind, .int .i64 col, .int .i64 v.kind, .int .i64 v.int, .string v.text, .bool v.bool, .slice (some ⟨b, off, none⟩) n c] by rw [hw1]; exact (blk_new' (w := w.alloc _) rfl (by simp)).alloc _)
 have Z2 := Lib.hid (show Blk w1 (w.heap.size + 1 + 1) 26 #[.int .i64 0, .int .i64 0, .string ⟨#[]⟩, .bool false] by rw [hw1]; exact blk_new' (w := (w.alloc _).alloc _) rfl (by simp))
 have CC := Lib.hid (args89 w1.drew RA rn rc rs (hr.below (bt (below_drew w1) B1.out)) hn htx (.slice i1 n1 c1) (.slice i2 n2 c2) rfl rfl y Ay ny cy (hyi.bel (bt (below_drew w1) B1.out)) lb LA ln lc (hlb.below (bt (below_drew w1) B1.out)) hlt i1 n1 c1 rfl i2 n2 c2 rfl)
 have HL := Lib.hid hr.len
 obtain ⟨x0, x1, x2, x3, x4, x5, x6, x7⟩ := hy.below hb B1.out
 obtain ⟨⟨vs, er⟩, hres⟩ : ∃ q, q = argsP lb y rs := ⟨_, rfl⟩
 have HP := Lib.hid (show minP lb y rs = match (vs, er) with
  | (_, some er) => (Val.null, some er)
  | ([], none) => (Val.null, none)
  | (v :: l, none) => (minL v l, none) by rw [hres]; rfl)
 unfold ArgsPost at CC
 rw [← hres] at CC
 clear hr htx hy hyi hlb hlt hres
 have z00 := Z0.out.cell 0
 have z01 := Z0.out.cell 1
 have z02 := Z0.out.cell 2
 have z10 := Z1.out.cell 0
 have z17 := Z1.out.cell 7
 have hbb := Nat.lt_of_lt_of_le hb B1.out.size
 have hs1 := Z2.out.lt
 have hn1 : 0 < n := by omega
 have hn2 : ¬ n = 0 := by omega
 have hn3 : ¬ n ≤ 0 := by omega
 go_enter Tryz.func160, Tryz.ntmps160
 go_wp2_with fail
 rw [← hw1]
 clear hw1
 go_cut [8, 9] from 20 to 29 (fun s8 s9 wx => ∃ (A' : Option Addr) (k c' : Nat), s8 = .slice A' k c' ∧ s9 = errV er ∧ k ≤ c' ∧ k ≤ rs.length ∧ Hid (ValsAt wx A' k vs) ∧ Hid (Below w1.heap.size w1 wx))
 case first =>
  go_region_law (first | (go_simp; go_at_call 176; refine CC.out.mono ?_; rintro e2 w2 ⟨A', k, c', rfl, h1, h2, h3, h4⟩))
  all_goals
   go_wp2_with fail
   go_meet
   case rel => exact ⟨A', k, c', rfl, rfl, h1, h2, h3, Lib.hid (bt h4.out (below_drew w1))⟩
 case rest =>
  obtain ⟨A', k, c', rfl, rfl, hkc, hkr, HV, HB⟩ := hcut
  clear CC z00 z01 z02 z10 z17 x0 x1 x2 x3 x4 x5 x6 x7
  have hs2 := HB.out.size
  have z10 := (Z1.out.below HB.out).cell 0
  have hs3 : w.heap.size + 1 + 1 < wc.heap.size := Nat.lt_of_lt_of_le hs1 HB.out.size
  cases er with
  | some er =>
   have EE := Lib.hid (show minP lb y rs = (Val.null, some er) from HP.out)
   simp only [errV]
   go_wp2_with fail
   refine (null34 _).mono ?_
   rintro e w2 ⟨rfl, h2⟩
   have B2 := Lib.hid (show Below w1.heap.size w1 w2 from bt h2.out HB.out)
   have ZR := Lib.hid (Z2.out.below B2.out)
   have hfz := fun o => ZR.out.frozen o
   have q0 := ZR.out.cell 0
   have q1 := ZR.out.cell 1
   have q2 := ZR.out.cell 2
   have q3 := ZR.out.cell 3
   have BW := Lib.hid (show Below w.heap.size w w2 from bt B2.out B1.out)
   clear z10 h2
   go_wp2_with fail
   refine bodyPost_ret (results_cv (s := 6) (k := 7) rfl rfl rfl (val_set ZR.out _ _ _ _)) rfl ⟨by rw [EE.out]; rfl, Lib.hid (by have hb := BW.out; have hs := hb.size; go_grown)⟩
  | none =>
   simp only [errV]
   have hlen := HV.out.len
   cases vs with
   | nil =>
    obtain rfl : k = 0 := by simpa using hlen.symm
    have EE := Lib.hid (show minP lb y rs = (Val.null, none) from HP.out)
    go_wp2_with fail
    refine (null34 _).mono ?_
    rintro e w2 ⟨rfl, h2⟩
    have B2 := Lib.hid (show Below w1.heap.size w1 w2 from bt h2.out HB.out)
    have ZR := Lib.hid (Z2.out.below B2.out)
    have hfz := fun o => ZR.out.frozen o
    have q0 := ZR.out.cell 0
    have q1 := ZR.out.cell 1
    have q2 := ZR.out.cell 2
    have q3 := ZR.out.cell 3
    have BW := Lib.hid (show Below w.heap.size w w2 from bt B2.out B1.out)
    clear z10 h2
    go_wp2_with fail
    refine bodyPost_ret (results_cv (s := 6) (k := 7) rfl rfl rfl (val_set ZR.out _ _ _ _)) rfl ⟨by rw [EE.out]; rfl, Lib.hid (by have hb := BW.out; have hs := hb.size; go_grown)⟩
   | cons v0 t =>
    have EE := Lib.hid (show minP lb y rs = (minL v0 t, none) from HP.out)
    have HRL := HL.out
    have hk1 : 0 < k := by rw [← hlen]; exact Nat.succ_pos _
    have hk0 : ((k : Int) == 0) = false := by simp; omega
    have CM := Lib.hid (minFunc177 wc A' k c' v0 t HV.out (by omega))
    obtain ⟨mv, hmv⟩ : ∃ q, q = minL v0 t := ⟨_, rfl⟩
    rw [← hmv] at CM EE
    clear hlen HP hmv
    go_wp2_with fail
    refine CM.out.mono ?_
    clear CM
    rintro e w2 ⟨rfl, h2⟩
    simp only [Val.cells]
    have B2 := Lib.hid (show Below w1.heap.size w1 w2 from bt h2.out HB.out)
    have ZR := Lib.hid (Z2.out.below B2.out)
    have hfz := fun o => ZR.out.frozen o
    have q0 := ZR.out.cell 0
    have q1 := ZR.out.cell 1
    have q2 := ZR.out.cell 2
    have q3 := ZR.out.cell 3
    have BW := Lib.hid (show Below w.heap.size w w2 from bt B2.out B1.out)
    clear z10 h2
    go_wp2_with fail
    refine bodyPost_ret (results_cv (s := 6) (k := 7) rfl rfl rfl (val_set ZR.out _ _ _ _)) rfl ⟨by rw [EE.out]; rfl, Lib.hid (by have hb := BW.out; have hs := hb.size; go_grown)⟩

set_option maxRecDepth 100000 in
set_option maxHeartbeats 8000000 in
theorem max82 (w : World) (RA : Option Addr) (rn rc : Nat) (rs : List (Int × List Val)) (hr : RowsAt w RA rn rs) (hn : rn ≤ 1000000) (htx : RowsTx rs) (i1 : Option Addr) (n1 c1 : Nat) (i2 : Option Addr) (n2 c2 : Nat) (kind col : Int) (v : Val) (b off n c : Nat) (hb : b < w.heap.size) (hn0 : (0 : Int) < n)
  (y : Ex) (Ay : Option Addr) (ny cy : Nat) (hy : ExC w b off y Ay ny cy) (hyi : ExIs w y Ay ny cy) (lb : List ByteArray) (LA : Option Addr) (ln lc : Nat) (hlb : StrsAt w LA ln lb) (hlt : ∀ z ∈ lb, z.size ≤ TB) :
  Calls Tryz.prog 160 #[.agg #[.slice RA rn rc, .slice i1 n1 c1, .slice i2 n2 c2], .agg #[.string ⟨#[109, 97, 120]⟩, .int .i64 kind, .int .i64 col, .int .i64 v.kind, .int .i64 v.int, .string v.text, .bool v.bool, .slice (some ⟨b, off, none⟩) n c], .slice LA ln lc] w
   fun e w' => e = .returned (resV (maxP lb y rs)) ∧ Hid (Below w.heap.size w w') := by
 obtain ⟨w1, hw1⟩ : ∃ z, z = ((w.alloc (.cells #[.slice RA rn rc, .slice i1 n1 c1, .slice i2 n2 c2] 147)).alloc (.cells #[.string ⟨#[109, 97, 120]⟩, .int .i64 kind, .int .i64 col, .int .i64 v.kind, .int .i64 v.int, .string v.text, .bool v.bool, .slice (some ⟨b, off, none⟩) n c] 51)).alloc (.cells #[.int .i64 0, .int .i64 0, .string ⟨#[]⟩, .bool false] 26) := ⟨_, rfl⟩
 have B1 := Lib.hid (show Below w.heap.size w w1 by rw [hw1]; exact bt (below_alloc _ _) (bt (below_alloc _ _) (below_alloc _ _)))
 have Z0 := Lib.hid (show Blk w1 w.heap.size 147 #[.slice RA rn rc, .slice i1 n1 c1, .slice i2 n2 c2] by rw [hw1]; exact ((Blk.new w 147 _).alloc _).alloc _)
 have Z1 := Lib.hid (show Blk w1 (w.heap.size + 1) 51 #[.string ⟨#[109, 97, 120]⟩, .int .i64 kind, .int .i64 col, .int .i64 v.kind, .int .i64 v.int, .string v.text, .bool v.bool, .slice (some ⟨b, off, none⟩) n c] by rw [hw1]; exact (blk_new' (w := w.alloc _) rfl (by simp)).alloc _)
 have Z2 := Lib.hid (show Blk w1 (w.heap.size + 1 + 1) 26 #[.int .i64 0, .int .i64 0, .string ⟨#[]⟩, .bool false] by rw [hw1]; exact blk_new' (w := (w.alloc _).alloc _) rfl (by simp))
 have CC := Lib.hid (args89 w1.drew RA rn rc rs (hr.below (bt (below_drew w1) B1.out)) hn htx (.slice i1 n1 c1) (.slice i2 n2 c2) rfl rfl y Ay ny cy (hyi.bel (bt (below_drew w1) B1.out)) lb LA ln lc (hlb.below (bt (below_drew w1) B1.out)) hlt i1 n1 c1 rfl i2 n2 c2 rfl)
 have HL := Lib.hid hr.len
 obtain ⟨x0, x1, x2, x3, x4, x5, x6, x7⟩ := hy.below hb B1.out
 obtain ⟨⟨vs, er⟩, hres⟩ : ∃ q, q = argsP lb y rs := ⟨_, rfl⟩
 have HP := Lib.hid (show maxP lb y rs = match (vs, er) with
  | (_, some er) => (Val.null, some er)
  | ([], none) => (Val.null, none)
  | (v :: l, none) => (maxL v l, none) by rw [hres]; rfl)
 unfold ArgsPost at CC
 rw [← hres] at CC
 clear hr htx hy hyi hlb hlt hres
 have z00 := Z0.out.cell 0
 have z01 := Z0.out.cell 1
 have z02 := Z0.out.cell 2
 have z10 := Z1.out.cell 0
 have z17 := Z1.out.cell 7
 have hbb := Nat.lt_of_lt_of_le hb B1.out.size
 have hs1 := Z2.out.lt
 have hn1 : 0 < n := by omega
 have hn2 : ¬ n = 0 := by omega
 have hn3 : ¬ n ≤ 0 := by omega
 go_enter Tryz.func160, Tryz.ntmps160
 go_wp2_with fail
 rw [← hw1]
 clear hw1
 go_cut [8, 9] from 20 to 29 (fun s8 s9 wx => ∃ (A' : Option Addr) (k c' : Nat), s8 = .slice A' k c' ∧ s9 = errV er ∧ k ≤ c' ∧ k ≤ rs.length ∧ Hid (ValsAt wx A' k vs) ∧ Hid (Below w1.heap.size w1 wx))
 case first =>
  go_region_law (first | (go_simp; go_at_call 176; refine CC.out.mono ?_; rintro e2 w2 ⟨A', k, c', rfl, h1, h2, h3, h4⟩))
  all_goals
   go_wp2_with fail
   go_meet
   case rel => exact ⟨A', k, c', rfl, rfl, h1, h2, h3, Lib.hid (bt h4.out (below_drew w1))⟩
 case rest =>
  obtain ⟨A', k, c', rfl, rfl, hkc, hkr, HV, HB⟩ := hcut
  clear CC z00 z01 z02 z10 z17 x0 x1 x2 x3 x4 x5 x6 x7
  have hs2 := HB.out.size
  have z10 := (Z1.out.below HB.out).cell 0
  have hs3 : w.heap.size + 1 + 1 < wc.heap.size := Nat.lt_of_lt_of_le hs1 HB.out.size
  cases er with
  | some er =>
   have EE := Lib.hid (show maxP lb y rs = (Val.null, some er) from HP.out)
   simp only [errV]
   go_wp2_with fail
   refine (null34 _).mono ?_
   rintro e w2 ⟨rfl, h2⟩
   have B2 := Lib.hid (show Below w1.heap.size w1 w2 from bt h2.out HB.out)
   have ZR := Lib.hid (Z2.out.below B2.out)
   have hfz := fun o => ZR.out.frozen o
   have q0 := ZR.out.cell 0
   have q1 := ZR.out.cell 1
   have q2 := ZR.out.cell 2
   have q3 := ZR.out.cell 3
   have BW := Lib.hid (show Below w.heap.size w w2 from bt B2.out B1.out)
   clear z10 h2
   go_wp2_with fail
   refine bodyPost_ret (results_cv (s := 6) (k := 7) rfl rfl rfl (val_set ZR.out _ _ _ _)) rfl ⟨by rw [EE.out]; rfl, Lib.hid (by have hb := BW.out; have hs := hb.size; go_grown)⟩
  | none =>
   simp only [errV]
   have hlen := HV.out.len
   cases vs with
   | nil =>
    obtain rfl : k = 0 := by simpa using hlen.symm
    have EE := Lib.hid (show maxP lb y rs = (Val.null, none) from HP.out)
    go_wp2_with fail
    refine (null34 _).mono ?_
    rintro e w2 ⟨rfl, h2⟩
    have B2 := Lib.hid (show Below w1.heap.size w1 w2 from bt h2.out HB.out)
    have ZR := Lib.hid (Z2.out.below B2.out)
    have hfz := fun o => ZR.out.frozen o
    have q0 := ZR.out.cell 0
    have q1 := ZR.out.cell 1
    have q2 := ZR.out.cell 2
    have q3 := ZR.out.cell 3
    have BW := Lib.hid (show Below w.heap.size w w2 from bt B2.out B1.out)
    clear z10 h2
    go_wp2_with fail
    refine bodyPost_ret (results_cv (s := 6) (k := 7) rfl rfl rfl (val_set ZR.out _ _ _ _)) rfl ⟨by rw [EE.out]; rfl, Lib.hid (by have hb := BW.out; have hs := hb.size; go_grown)⟩
   | cons v0 t =>
    have EE := Lib.hid (show maxP lb y rs = (maxL v0 t, none) from HP.out)
    have HRL := HL.out
    have hk1 : 0 < k := by rw [← hlen]; exact Nat.succ_pos _
    have hk0 : ((k : Int) == 0) = false := by simp; omega
    have CM := Lib.hid (maxFunc178 wc A' k c' v0 t HV.out (by omega))
    obtain ⟨mv, hmv⟩ : ∃ q, q = maxL v0 t := ⟨_, rfl⟩
    rw [← hmv] at CM EE
    clear hlen HP hmv
    go_wp2_with fail
    refine CM.out.mono ?_
    clear CM
    rintro e w2 ⟨rfl, h2⟩
    simp only [Val.cells]
    have B2 := Lib.hid (show Below w1.heap.size w1 w2 from bt h2.out HB.out)
    have ZR := Lib.hid (Z2.out.below B2.out)
    have hfz := fun o => ZR.out.frozen o
    have q0 := ZR.out.cell 0
    have q1 := ZR.out.cell 1
    have q2 := ZR.out.cell 2
    have q3 := ZR.out.cell 3
    have BW := Lib.hid (show Below w.heap.size w w2 from bt B2.out B1.out)
    clear z10 h2
    go_wp2_with fail
    refine bodyPost_ret (results_cv (s := 6) (k := 7) rfl rfl rfl (val_set ZR.out _ _ _ _)) rfl ⟨by rw [EE.out]; rfl, Lib.hid (by have hb := BW.out; have hs := hb.size; go_grown)⟩

set_option maxRecDepth 100000 in
set_option maxHeartbeats 8000000 in
theorem rows82 (w : World) (RA : Option Addr) (rn rc : Nat) (i1 : Option Addr) (n1 c1 : Nat) (i2 : Option Addr) (n2 c2 : Nat) (kind col : Int) (v : Val) (A : Option Addr) (n c : Nat) (LA : Option Addr) (ln lc : Nat) :
  Calls Tryz.prog 160 #[.agg #[.slice RA rn rc, .slice i1 n1 c1, .slice i2 n2 c2], .agg #[.string ⟨#[114, 111, 119, 115]⟩, .int .i64 kind, .int .i64 col, .int .i64 v.kind, .int .i64 v.int, .string v.text, .bool v.bool, .slice A n c], .slice LA ln lc] w
   fun e w' => e = .returned (resV (Val.ofInt rn, none)) ∧ Hid (Below w.heap.size w w') := by
 obtain ⟨w1, hw1⟩ : ∃ z, z = ((w.alloc (.cells #[.slice RA rn rc, .slice i1 n1 c1, .slice i2 n2 c2] 147)).alloc (.cells #[.string ⟨#[114, 111, 119, 115]⟩, .int .i64 kind, .int .i64 col, .int .i64 v.kind, .int .i64 v.int, .string v.text, .bool v.bool, .slice A n c] 51)).alloc (.cells #[.int .i64 0, .int .i64 0, .string ⟨#[]⟩, .bool false] 26) := ⟨_, rfl⟩
 have B1 := Lib.hid (show Below w.heap.size w w1 by rw [hw1]; exact bt (below_alloc _ _) (bt (below_alloc _ _) (below_alloc _ _)))
 have Z0 := Lib.hid (show Blk w1 w.heap.size 147 #[.slice RA rn rc, .slice i1 n1 c1, .slice i2 n2 c2] by rw [hw1]; exact ((Blk.new w 147 _).alloc _).alloc _)
 have Z1 := Lib.hid (show Blk w1 (w.heap.size + 1) 51 #[.string ⟨#[114, 111, 119, 115]⟩, .int .i64 kind, .int .i64 col, .int .i64 v.kind, .int .i64 v.int, .string v.text, .bool v.bool, .slice A n c] by rw [hw1]; exact (blk_new' (w := w.alloc _) rfl (by simp)).alloc _)
 have Z2 := Lib.hid (show Blk w1 (w.heap.size + 1 + 1) 26 #[.int .i64 0, .int .i64 0, .string ⟨#[]⟩, .bool false] by rw [hw1]; exact blk_new' (w := (w.alloc _).alloc _) rfl (by simp))
 have z00 := Z0.out.cell 0
 have hl0 := Z0.out.lt
 have z10 := Z1.out.cell 0
 have hl1 := Z1.out.lt
 go_enter Tryz.func160, Tryz.ntmps160
 go_upto_region 1 with fail
 rw [← hw1]
 clear hw1
 go_wp2_with fail
 refine (int50 _ _).mono ?_
 rintro e w2 ⟨rfl, h2⟩
 have ZR := Lib.hid (Z2.out.below h2.out)
 have hfz := fun o => ZR.out.frozen o
 have q0 := ZR.out.cell 0
 have q1 := ZR.out.cell 1
 have q2 := ZR.out.cell 2
 have q3 := ZR.out.cell 3
 have hrl := ZR.out.lt
 have BW := Lib.hid (show Below w.heap.size w w2 from bt h2.out B1.out)
 clear z00 hl0 z10 hl1 h2
 go_wp2_with fail
 refine bodyPost_ret (results_cv (s := 6) (k := 7) rfl rfl rfl (val_set ZR.out _ _ _ _)) rfl ⟨rfl, Lib.hid (by have hb := BW.out; have hs := hb.size; go_grown)⟩

end Go.Proofs.YtbcmmecilheicaaGreatDoor

/- check.Aggregates, of every expression. -/
namespace Go.Proofs.YtbcmmecilheicaaGreatDoor
open Go Go.RowKit

mutual
/-- does an operation that goes over many rows lie in it? -/
def aggB : Ex → Bool
 | .mk op _ _ _ args => isIn op aggs || aggBL args
def aggBL : List Ex → Bool
 | [] => false
 | x :: xs => aggB x || aggBL xs
end
theorem aggB_mk (op : ByteArray) (kind col : Int) (v : Val) (args : List Ex) : aggB (.mk op kind col v args) = (isIn op aggs || aggBL args) := by rw [aggB]
theorem aggBL_nil : aggBL [] = false := by rw [aggBL]
theorem aggBL_cons (x : Ex) (xs : List Ex) : aggBL (x :: xs) = (aggB x || aggBL xs) := by rw [aggBL]
theorem aggBL_at {l : List Ex} {i : Nat} {x : Ex} (h : l[i]? = some x) : aggBL (l.drop i) = (aggB x || aggBL (l.drop (i + 1))) := by
 obtain ⟨h1, rfl⟩ := List.getElem?_eq_some_iff.1 h
 rw [List.drop_eq_getElem_cons h1, aggBL_cons]
def IdxBPost (es : List Ex) (w : World) (e : Ending) (w' : World) : Prop := ∃ r : Int, e = .returned (.int .i64 r) ∧ Hid ((0 ≤ r ∧ aggBL es = true) ∨ (r = -1 ∧ aggBL es = false)) ∧ Hid (Below w.heap.size w w')
set_option maxRecDepth 100000 in
set_option maxHeartbeats 4000000 in
theorem idxf148g (w : World) (es : List Ex) (A : Option Addr) (n c b off : Nat) (len : es.length = n) (hn9 : n ≤ 1466015503701) (hA : 0 < n → A = some ⟨b, off, none⟩ ∧ b < w.heap.size)
  (As : Nat → Option Addr) (ns cs : Nat → Nat) (cells : ∀ (j : Nat) (e : Ex), es[j]? = some e → ExC w b (off + j * 8) e (As j) (ns j) (cs j)) (calls : ∀ (j : Nat) (e : Ex), es[j]? = some e → ∀ W, Below w.heap.size w W → Calls Tryz.prog 78 #[exAgg e (As j) (ns j) (cs j)] W fun f w' => f = .returned (.bool (aggB e)) ∧ Hid (Below W.heap.size W w')) :
  Calls Tryz.prog 148 #[.slice A n c, .func (.func 78) #[] #[]] w (IdxBPost es w) := by
 have HA := Lib.hid hA
 have HC := Lib.hid cells
 have HK := Lib.hid calls
 have HL := Lib.hid len
 clear hA cells calls len
 go_enter Tryz.func148, Tryz.ntmps148
 go_wp2
 go_loopg [8] n (fun kx s8 wr => ∃ i : Nat, s8 = .int .i64 i ∧ kx + i = n ∧ Hid (Below w.heap.size w wr) ∧ Hid (aggBL es = aggBL (es.drop i)))
 case atStart => exact ⟨0, rfl, rfl, Lib.hid (Below.refl _ _), Lib.hid rfl⟩
 case round =>
  obtain ⟨i, rfl, hk, I, HD⟩ := hrel
  by_cases hi : i < n
  ·obtain ⟨x, hx⟩ : ∃ x, es[i]? = some x := ⟨_, List.getElem?_eq_getElem (by rw [HL.out]; exact hi)⟩
   obtain ⟨hAe, hbl⟩ := HA.out (by omega)
   subst hAe
   obtain ⟨c0, c1, c2, c3, c4, c5, c6, c7⟩ := (HC.out i x hx).below hbl I.out
   have hx96 : (i : Int) < 1466015503702 := by omega
   have hiz : (i : Int) < (n : Int) := by omega
   have hi0 : (0 : Int) ≤ (i : Int) := by omega
   have call := Lib.hid (HK.out i x hx wr I.out)
   obtain ⟨q, hq⟩ : ∃ q, aggB x = q := ⟨_, rfl⟩
   rw [hq] at call
   have NX := Lib.hid (aggBL_at hx)
   rw [hq, ← HD.out] at NX
   have BB := Lib.hid I.out
   clear hx I hq HD
   go_wp2_with fail
   refine call.out.mono ?_
   clear call c0 c1 c2 c3 c4 c5 c6 c7
   rintro e w2 ⟨rfl, h2⟩
   have B2 := Lib.hid (bt h2.out BB.out)
   clear h2
   cases q with
   | true =>
    go_wp2_with fail
    go_ret
    exact ⟨i, rfl, Lib.hid (.inl ⟨by omega, NX.out⟩), B2⟩
   | false =>
    rw [Bool.false_or] at NX
    go_wp2_with fail
    go_roundg (gk - 1)
    case measure => omega
    case rel => exact ⟨i + 1, by first | rfl | (simp; done), by omega, B2, NX⟩
  ·have hiz : ¬ (i : Int) < (n : Int) := by omega
   have FE := Lib.hid (show aggBL es = false by rw [HD.out, List.drop_of_length_le (by rw [HL.out]; omega), aggBL_nil])
   go_wp2_with fail
   go_ret
   exact ⟨-1, rfl, Lib.hid (.inr ⟨rfl, FE.out⟩), I⟩

set_option maxRecDepth 100000 in
set_option maxHeartbeats 4000000 in
theorem agg78g {W0 : World} {x : Ex} {A : Option Addr} {n c : Nat} (h : ExIs W0 x A n c) : ∀ W, Below W0.heap.size W0 W → Calls Tryz.prog 78 #[exAgg x A n c] W fun e w' => e = .returned (.bool (aggB x)) ∧ Hid (Below W.heap.size W w') := by
 induction h with
 | mk op kind col v args A n c len small tx b off hA As ns cs cells sub ih =>
  intro w hW
  rw [aggB_mk]
  show Calls Tryz.prog 78 #[.agg #[.string op, .int .i64 kind, .int .i64 col, .int .i64 v.kind, .int .i64 v.int, .string v.text, .bool v.bool, .slice A n c]] w _
  have hn9 : n ≤ 1466015503701 := by unfold TB at small; omega
  have HF := Lib.hid (fun (W : World) (hb : Below w.heap.size w W) => idxf148g W args A n c b off len hn9 (fun h => ⟨(hA h).1, Nat.lt_of_lt_of_le (hA h).2 (bt hb hW).size⟩) As ns cs (fun j e hj => (cells j e hj).below (hA (by have := (List.getElem?_eq_some_iff.1 hj).1; omega)).2 (bt hb hW)) (fun j e hj W2 h2 => ih j e hj W2 (bt h2 (bt hb hW))))
  have HG := Lib.hid (fun W => agg47g W op)
  obtain ⟨q, hq⟩ : ∃ q, isIn op aggs = q := ⟨_, rfl⟩
  obtain ⟨q2, hq2⟩ : ∃ q, aggBL args = q := ⟨_, rfl⟩
  rw [hq, hq2]
  rw [hq] at HG
  have HQ2 := Lib.hid hq2
  clear hq2
  clear len hA cells sub ih tx small hq
  go_enter Tryz.func78, Tryz.ntmps78
  go_wp2_with fail
  refine (HG.out _).mono ?_
  rintro e w1 ⟨rfl, h1⟩
  have zx := (Blk.new w 51 #[.string op, .int .i64 kind, .int .i64 col, .int .i64 v.kind, .int .i64 v.int, .string v.text, .bool v.bool, .slice A n c]).below h1.out
  have z7 := zx.cell 7
  have hzl := zx.lt
  have B1 := Lib.hid (show Below w.heap.size w w1 from h1.out.from1)
  clear zx h1
  cases q with
  | true =>
   go_wp2_with fail
   go_ret
   exact ⟨rfl, B1⟩
  | false =>
   have HK := Lib.hid (HF.out w1 B1.out)
   have HCF : Hid (Calls Tryz.prog 107 #[.slice A n c, .func (.func 78) #[] #[]] w1 fun e w' => e = .returned (.bool q2) ∧ Hid (Below w1.heap.size w1 w')) := Lib.hid (by
    clear z7 hzl
    go_enter Tryz.func107, Tryz.ntmps107
    go_wp2_with fail
    refine HK.out.mono ?_
    rintro e w2 ⟨r, rfl, hr, h2⟩
    by_cases h0 : 0 ≤ r
    ·have h1 : decide (0 ≤ r) = true := by simpa using h0
     have FE := Lib.hid (show q2 = true by
      rw [← HQ2.out]
      rcases hr.out with h | h
      ·exact h.2
      ·omega)
     clear hr
     go_wp2_with fail
     go_ret
     exact ⟨by rw [FE.out]; rfl, h2⟩
    ·have h1 : decide (0 ≤ r) = false := by simpa using h0
     have FE := Lib.hid (show q2 = false by
      rw [← HQ2.out]
      rcases hr.out with h | h
      ·exact absurd h.1 h0
      ·exact h.2)
     clear hr
     go_wp2_with fail
     go_ret
     exact ⟨by rw [FE.out]; rfl, h2⟩)
   go_wp2_with fail
   refine HCF.out.mono ?_
   rintro e w2 ⟨rfl, h2⟩
   have B2 := Lib.hid (bt h2.out B1.out)
   clear h2 z7
   cases q2 <;> go_wp2_with fail
   all_goals
    go_ret
    exact ⟨rfl, B2⟩

end Go.Proofs.YtbcmmecilheicaaGreatDoor
