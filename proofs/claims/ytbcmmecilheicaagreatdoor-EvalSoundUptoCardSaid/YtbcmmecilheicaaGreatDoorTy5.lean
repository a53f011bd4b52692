/- The document's check of an expression, whole: of, OfExpr. -/
import Derived.Test.YtbcmmecilheicaaGreatDoorTy4
namespace Go.Proofs.YtbcmmecilheicaaGreatDoor
open Go Go.RowKit

theorem of35 {W : World} {tn : ByteArray} {CA : Option Addr} {cn cc : Nat} {cols : List Col} (hc : ColsAt W CA cn cols) (hcn : cn ≤ 1466015503701) {x : PEx} {A : Option Addr} {n c : Nat} (h : PExIs W x A n c) : MayOk x → ∀ wh : Int, (wh = 0 ∨ wh = 1 ∨ wh = 2) → ∀ W', Below W.heap.size W W' →
    Calls Tryz.prog 35 #[.agg #[.string tn, .slice CA cn cc], .agg #[.string x.op, .int .i64 x.val.kind, .int .i64 x.val.int, .string x.val.text, .bool x.val.bool, .string x.name, .slice A n c], .int .i64 wh] W' (OfPost cols (wh == 1) W') := by
  induction h with
  | mk op v name args A n c len small t0 t1 t2 b off hA As ns cs cells sub ih =>
    intro hm wh hwh W' hW
    cases hm with
    | mk _ _ _ _ ar hv hk nm hsub =>
      exact of35_mk W' tn CA cn cc cols (hc.below hW) hcn op v name args A n c len small t1 b off (fun h0 => ⟨(hA h0).1, Nat.lt_of_lt_of_le (hA h0).2 hW.size⟩) As ns cs (fun j e hj => (cells j e hj).below (hA (by have := (List.getElem?_eq_some_iff.1 hj).1; omega)).2 hW) ar hv wh hwh (fun j e hj wh' hw' W2 h2 => ih j e hj (hsub j e hj) wh' hw' W2 (bt h2 hW))

set_option maxRecDepth 100000 in
set_option maxHeartbeats 16000000 in
theorem ofExpr6 (w : World) (tn : ByteArray) (CA : Option Addr) (cn cc : Nat) (cols : List Col) (hc : ColsAt w CA cn cols) (hcn : cn ≤ 1466015503701) (x : PEx) (A : Option Addr) (n c : Nat) (hx : PExIs w x A n c) (hd : depthP x ≤ 4611686018427387904) (agg : Bool) :
    Calls Tryz.prog 6 #[.agg #[.string tn, .slice CA cn cc], .agg #[.string x.op, .int .i64 x.val.kind, .int .i64 x.val.int, .string x.val.text, .bool x.val.bool, .string x.name, .slice A n c], .bool agg] w (OfPost cols agg w) := by
  obtain ⟨w1, hw1⟩ : ∃ z, z = ((w.alloc (.cells #[.string tn, .slice CA cn cc] 24)).alloc (.cells #[.string x.op, .int .i64 x.val.kind, .int .i64 x.val.int, .string x.val.text, .bool x.val.bool, .string x.name, .slice A n c] 29)).alloc (.cells #[.string ⟨#[]⟩, .int .i64 0, .int .i64 0, .int .i64 0, .int .i64 0, .string ⟨#[]⟩, .bool false, .slice none 0 0] 38) := ⟨_, rfl⟩
  have B1 := Lib.hid (show Below w.heap.size w w1 by rw [hw1]; exact bt (below_alloc _ _) (bt (below_alloc _ _) (below_alloc _ _)))
  have Z0 := Lib.hid (show Blk w1 w.heap.size 24 #[.string tn, .slice CA cn cc] by rw [hw1]; exact ((Blk.new w 24 _).alloc _).alloc _)
  have Z1 := Lib.hid (show Blk w1 (w.heap.size + 1) 29 #[.string x.op, .int .i64 x.val.kind, .int .i64 x.val.int, .string x.val.text, .bool x.val.bool, .string x.name, .slice A n c] by rw [hw1]; exact (blk_new' (w := w.alloc _) rfl (by simp)).alloc _)
  have Z2 := Lib.hid (show Blk w1 (w.heap.size + 2) 38 #[.string ⟨#[]⟩, .int .i64 0, .int .i64 0, .int .i64 0, .int .i64 0, .string ⟨#[]⟩, .bool false, .slice none 0 0] by rw [hw1]; exact blk_new' (w := (w.alloc _).alloc _) rfl (by simp))
  have HC := Lib.hid hc
  have HX := Lib.hid hx
  have CP := Lib.hid (printExpr34 w1 x A n c (hx.bel B1.out) hd)
  have z0 := Z1.out.cell 0
  have z1 := Z1.out.cell 1
  have z2 := Z1.out.cell 2
  have z3 := Z1.out.cell 3
  have z4 := Z1.out.cell 4
  have z5 := Z1.out.cell 5
  have z6 := Z1.out.cell 6
  have hl := Z1.out.lt
  clear hc hx
  go_enter Tryz.func6, Tryz.ntmps6
  go_upto_region 1 with fail
  rw [← hw1]
  clear hw1
  go_wp2_with fail
  refine CP.out.mono ?_
  clear CP z0 z1 z2 z3 z4 z5 z6 hl
  rintro e w2 ⟨s, er, rfl, hok, hb2⟩
  have B2 := Lib.hid (bt hb2.out B1.out)
  have Y2 := Lib.hid (Z2.out.below hb2.out)
  by_cases her : er = 0
  · subst her
    have OK := Lib.hid (hok.out rfl).1
    have Y0 := Lib.hid (Z0.out.below hb2.out)
    have Y1 := Lib.hid (Z1.out.below hb2.out)
    clear hok hb2
    have t0 := Y0.out.cell 0
    have t1 := Y0.out.cell 1
    have z0 := Y1.out.cell 0
    have z1 := Y1.out.cell 1
    have z2 := Y1.out.cell 2
    have z3 := Y1.out.cell 3
    have z4 := Y1.out.cell 4
    have z5 := Y1.out.cell 5
    have z6 := Y1.out.cell 6
    have hl0 := Y0.out.lt
    have hl1 := Y1.out.lt
    have CO := Lib.hid (fun (wh : Int) (h : wh = 0 ∨ wh = 1 ∨ wh = 2) => of35 (tn := tn) (cc := cc) HC.out hcn HX.out OK.out wh h w2 B2.out)
    cases agg with
    | true =>
      go_wp2_with fail
      refine (CO.out 1 (by omega)).mono ?_
      clear CO t0 t1 z0 z1 z2 z3 z4 z5 z6 hl0 hl1
      rintro e w3 ⟨y, Ay, ny, cy, er, rfl, hy, hb3⟩
      have B3 := Lib.hid (bt hb3.out B2.out)
      have RZ := Lib.hid (Y2.out.below hb3.out)
      have hfz := fun o => RZ.out.frozen o
      have q0 := RZ.out.cell 0
      have q1 := RZ.out.cell 1
      have q2 := RZ.out.cell 2
      have q3 := RZ.out.cell 3
      have q4 := RZ.out.cell 4
      have q5 := RZ.out.cell 5
      have q6 := RZ.out.cell 6
      have q7 := RZ.out.cell 7
      have hrl := RZ.out.lt
      have hyl := Y2.out.lt
      go_wp2_with fail
      refine bodyPost_ret (results_ei (s := 6) (k := 7) rfl rfl rfl (ex_set RZ.out _ _ _ _ _ _ _ _)) rfl ⟨y, Ay, ny, cy, er, rfl, Lib.hid (fun h => ⟨(hy.out h).1, (hy.out h).2.keep (fun b hb hl => ex_far (by omega) _ _ _ _ _ _ _ _) (fun b hb _ => by omega) (by simp [World.setCell])⟩), Lib.hid ?_⟩
      have hb := B3.out
      have hs := hb.size
      go_grown
    | false =>
      go_wp2_with fail
      refine (CO.out 0 (by omega)).mono ?_
      clear CO t0 t1 z0 z1 z2 z3 z4 z5 z6 hl0 hl1
      rintro e w3 ⟨y, Ay, ny, cy, er, rfl, hy, hb3⟩
      have B3 := Lib.hid (bt hb3.out B2.out)
      have RZ := Lib.hid (Y2.out.below hb3.out)
      have hfz := fun o => RZ.out.frozen o
      have q0 := RZ.out.cell 0
      have q1 := RZ.out.cell 1
      have q2 := RZ.out.cell 2
      have q3 := RZ.out.cell 3
      have q4 := RZ.out.cell 4
      have q5 := RZ.out.cell 5
      have q6 := RZ.out.cell 6
      have q7 := RZ.out.cell 7
      have hrl := RZ.out.lt
      have hyl := Y2.out.lt
      go_wp2_with fail
      refine bodyPost_ret (results_ei (s := 6) (k := 7) rfl rfl rfl (ex_set RZ.out _ _ _ _ _ _ _ _)) rfl ⟨y, Ay, ny, cy, er, rfl, Lib.hid (fun h => ⟨(hy.out h).1, (hy.out h).2.keep (fun b hb hl => ex_far (by omega) _ _ _ _ _ _ _ _) (fun b hb _ => by omega) (by simp [World.setCell])⟩), Lib.hid ?_⟩
      have hb := B3.out
      have hs := hb.size
      go_grown
  · have r1 : (er != 0) = true := by simpa using her
    have r2 : (er == 0) = false := by simpa using her
    have HER := Lib.hid her
    have RZ := Lib.hid Y2.out
    have hfz := fun o => RZ.out.frozen o
    have q0 := RZ.out.cell 0
    have q1 := RZ.out.cell 1
    have q2 := RZ.out.cell 2
    have q3 := RZ.out.cell 3
    have q4 := RZ.out.cell 4
    have q5 := RZ.out.cell 5
    have q6 := RZ.out.cell 6
    have q7 := RZ.out.cell 7
    have hrl := RZ.out.lt
    clear her hok
    go_wp2_with fail
    refine bodyPost_ret (results_ei (s := 6) (k := 7) rfl rfl rfl (ex_set RZ.out _ _ _ _ _ _ _ _)) rfl ⟨zeroEx, none, 0, 0, er, rfl, Lib.hid (fun h => absurd h HER.out), Lib.hid ?_⟩
    have hb := B2.out
    have hs := hb.size
    go_grown

end Go.Proofs.YtbcmmecilheicaaGreatDoor
