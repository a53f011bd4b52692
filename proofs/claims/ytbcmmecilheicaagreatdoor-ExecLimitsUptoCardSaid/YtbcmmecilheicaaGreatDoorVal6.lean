/- value.Reckon, Join. -/
import Derived.Test.YtbcmmecilheicaaGreatDoorValB
import Derived.Test.YtbcmmecilheicaaGreatDoorNumA
namespace Go.Proofs.YtbcmmecilheicaaGreatDoor
open Go Go.RowKit

theorem cf70_43 (w : World) : (callFunc 181 #[.string ⟨#[43, 45, 42, 47, 37]⟩, .int .u8 43]).run Tryz.prog w = .ok (.value (.int .i64 0)) w := by kernel_rfl
set_option maxRecDepth 20000 in
set_option maxHeartbeats 400000 in
theorem idx70_43 (w : World) : Calls Tryz.prog 149 #[.string ⟨#[43, 45, 42, 47, 37]⟩, .int .u8 43] w fun e w' => e = .returned (.int .i64 0) ∧ w = w' := by
 have h := cf70_43
 go_enter Tryz.func149, Tryz.ntmps149
 go_wp2
 go_ret
 exact ⟨rfl, rfl⟩
theorem cf70_45 (w : World) : (callFunc 181 #[.string ⟨#[43, 45, 42, 47, 37]⟩, .int .u8 45]).run Tryz.prog w = .ok (.value (.int .i64 1)) w := by kernel_rfl
set_option maxRecDepth 20000 in
set_option maxHeartbeats 400000 in
theorem idx70_45 (w : World) : Calls Tryz.prog 149 #[.string ⟨#[43, 45, 42, 47, 37]⟩, .int .u8 45] w fun e w' => e = .returned (.int .i64 1) ∧ w = w' := by
 have h := cf70_45
 go_enter Tryz.func149, Tryz.ntmps149
 go_wp2
 go_ret
 exact ⟨rfl, rfl⟩
theorem cf70_42 (w : World) : (callFunc 181 #[.string ⟨#[43, 45, 42, 47, 37]⟩, .int .u8 42]).run Tryz.prog w = .ok (.value (.int .i64 2)) w := by kernel_rfl
set_option maxRecDepth 20000 in
set_option maxHeartbeats 400000 in
theorem idx70_42 (w : World) : Calls Tryz.prog 149 #[.string ⟨#[43, 45, 42, 47, 37]⟩, .int .u8 42] w fun e w' => e = .returned (.int .i64 2) ∧ w = w' := by
 have h := cf70_42
 go_enter Tryz.func149, Tryz.ntmps149
 go_wp2
 go_ret
 exact ⟨rfl, rfl⟩
theorem cf70_47 (w : World) : (callFunc 181 #[.string ⟨#[43, 45, 42, 47, 37]⟩, .int .u8 47]).run Tryz.prog w = .ok (.value (.int .i64 3)) w := by kernel_rfl
set_option maxRecDepth 20000 in
set_option maxHeartbeats 400000 in
theorem idx70_47 (w : World) : Calls Tryz.prog 149 #[.string ⟨#[43, 45, 42, 47, 37]⟩, .int .u8 47] w fun e w' => e = .returned (.int .i64 3) ∧ w = w' := by
 have h := cf70_47
 go_enter Tryz.func149, Tryz.ntmps149
 go_wp2
 go_ret
 exact ⟨rfl, rfl⟩
theorem cf70_37 (w : World) : (callFunc 181 #[.string ⟨#[43, 45, 42, 47, 37]⟩, .int .u8 37]).run Tryz.prog w = .ok (.value (.int .i64 4)) w := by kernel_rfl
set_option maxRecDepth 20000 in
set_option maxHeartbeats 400000 in
theorem idx70_37 (w : World) : Calls Tryz.prog 149 #[.string ⟨#[43, 45, 42, 47, 37]⟩, .int .u8 37] w fun e w' => e = .returned (.int .i64 4) ∧ w = w' := by
 have h := cf70_37
 go_enter Tryz.func149, Tryz.ntmps149
 go_wp2
 go_ret
 exact ⟨rfl, rfl⟩
theorem idx70 (op : Int) (hop : op = 43 ∨ op = 45 ∨ op = 42 ∨ op = 47 ∨ op = 37) (w : World) : Calls Tryz.prog 149 #[.string ⟨#[43, 45, 42, 47, 37]⟩, .int .u8 op] w fun e w' => ∃ k : Nat, e = .returned (.int .i64 k) ∧ w = w' := by
 rcases hop with rfl | rfl | rfl | rfl | rfl
 ·exact (idx70_43 w).mono fun e w' h => ⟨0, h⟩
 ·exact (idx70_45 w).mono fun e w' h => ⟨1, h⟩
 ·exact (idx70_42 w).mono fun e w' h => ⟨2, h⟩
 ·exact (idx70_47 w).mono fun e w' h => ⟨3, h⟩
 ·exact (idx70_37 w).mono fun e w' h => ⟨4, h⟩

noncomputable def reckonP (op : Int) (a b : Val) : Res :=
 if (isK 1 a && isK 1 b) = true then (if (nullB a || nullB b) = true then (Val.null, none) else match numP op a.int b.int with | (some er, _) => (Val.null, some er) | (none, n) => (Val.ofInt n, none)) else (Val.null, some 7)
def joinP (a b : Val) : Res :=
 if (isK 2 a && isK 2 b) = true then (if (nullB a || nullB b) = true then (Val.null, none) else if 4096 < a.text.size + b.text.size then (Val.null, some 2) else (Val.ofText (a.text ++ b.text), none)) else (Val.null, some 7)
theorem is71two (kind : Int) (a b : Val) (W : World) (g : Nat) (z : Blk W g 26 #[.int .i64 a.kind, .int .i64 a.int, .string a.text, .bool a.bool, .int .i64 b.kind, .int .i64 b.int, .string b.text, .bool b.bool]) : Calls Tryz.prog 150 #[.int .i64 kind, .slice (some ⟨g, 0, none⟩) 2 2] W fun e w' => e = .returned (.bool (isK kind a && isK kind b)) ∧ Hid (Below W.heap.size W w') :=
 (is71 W kind _ 2 2 [a, b] (ValsAt.two z) (by omega)).mono fun e w' h => by simpa using h
theorem null72two (a b : Val) (W : World) (g : Nat) (z : Blk W g 26 #[.int .i64 a.kind, .int .i64 a.int, .string a.text, .bool a.bool, .int .i64 b.kind, .int .i64 b.int, .string b.text, .bool b.bool]) : Calls Tryz.prog 151 #[.slice (some ⟨g, 0, none⟩) 2 2] W fun e w' => e = .returned (.bool (nullB a || nullB b)) ∧ Hid (Below W.heap.size W w') :=
 (null72 W _ 2 2 [a, b] (ValsAt.two z) (by omega)).mono fun e w' h => by simpa using h

set_option maxRecDepth 20000 in
set_option maxHeartbeats 4000000 in
theorem reckon49 (w : World) (op : Int) (hop : op = 43 ∨ op = 45 ∨ op = 42 ∨ op = 47 ∨ op = 37) (a b : Val) : Calls Tryz.prog 108 #[.int .u8 op, .agg #[.int .i64 a.kind, .int .i64 a.int, .string a.text, .bool a.bool], .agg #[.int .i64 b.kind, .int .i64 b.int, .string b.text, .bool b.bool]] w fun e w' => e = .returned (resV (reckonP op a b)) ∧ Hid (Below w.heap.size w w') := by
 have hI := Lib.hid (is71two 1 a b)
 have hN := Lib.hid (null72two a b)
 cases h1 : isK 1 a && isK 1 b with
 | false =>
  have e : reckonP op a b = (Val.null, some 7) := by simp [reckonP, h1]
  rw [e]
  rw [h1] at hI
  clear e h1
  go_enter Tryz.func108, Tryz.ntmps108
  go_wp2_with fail
  refine (idx70 op hop _).mono ?_
  rintro e w0 ⟨kk, rfl, rfl⟩
  have hkk : ¬ (kk : Int) < 0 := by omega
  go_wp2_with fail
  refine (hI.out _ _ (blk_new' rfl (by simp))).mono ?_
  rintro e w1 ⟨rfl, h1⟩
  have H1 : Below (((w.alloc _).alloc _).alloc _).heap.size (((w.alloc _).alloc _).alloc _) w1 := h1.out.from1
  go_wp2_with fail
  refine (null34 _).mono ?_
  rintro e w2 ⟨rfl, h2⟩
  have H2 := bt h2.out H1
  have zb : Blk w2 (w.heap.size + 1 + 1) 26 #[.int .i64 0, .int .i64 0, .string ⟨#[]⟩, .bool false] := (blk_new' (w := (w.alloc _).alloc _) rfl (by simp)).below H2
  have hfz := fun o => zb.frozen o
  have q0 := zb.cell 0
  have q1 := zb.cell 1
  have q2 := zb.cell 2
  have q3 := zb.cell 3
  have hl1 := zb.lt
  have ZB := Lib.hid zb
  have HB := Lib.hid (H2).from3
  clear h1 h2 H1 H2 zb
  go_wp2
  refine bodyPost_ret (results_cv (s := 6) (k := 7) rfl rfl rfl (val_set ZB.out _ _ _ _)) rfl ⟨rfl, Lib.hid (by have hb := HB.out; have hs := hb.size; go_grown)⟩
 | true =>
  rw [h1] at hI
  cases h2 : nullB a || nullB b with
  | true =>
   have e : reckonP op a b = (Val.null, none) := by simp [reckonP, h1, h2]
   rw [e]
   rw [h2] at hN
   clear e h1 h2
   go_enter Tryz.func108, Tryz.ntmps108
   go_wp2_with fail
   refine (idx70 op hop _).mono ?_
   rintro e w0 ⟨kk, rfl, rfl⟩
   have hkk : ¬ (kk : Int) < 0 := by omega
   go_wp2_with fail
   refine (hI.out _ _ (blk_new' rfl (by simp))).mono ?_
   rintro e w1 ⟨rfl, h1⟩
   have H1 : Below (((w.alloc _).alloc _).alloc _).heap.size (((w.alloc _).alloc _).alloc _) w1 := h1.out.from1
   obtain ⟨hc, hf⟩ := bcell H1
   go_wp2_with fail
   refine (hN.out _ _ (blk_new' rfl rfl)).mono ?_
   rintro e w2 ⟨rfl, h2⟩
   have H2 := bt h2.out.from1 H1
   clear hc hf
   go_wp2_with fail
   refine (null34 _).mono ?_
   rintro e w3 ⟨rfl, h3⟩
   have H3 := bt h3.out H2
   have zb : Blk w3 (w.heap.size + 1 + 1) 26 #[.int .i64 0, .int .i64 0, .string ⟨#[]⟩, .bool false] := (blk_new' (w := (w.alloc _).alloc _) rfl (by simp)).below H3
   have hfz := fun o => zb.frozen o
   have q0 := zb.cell 0
   have q1 := zb.cell 1
   have q2 := zb.cell 2
   have q3 := zb.cell 3
   have hl1 := zb.lt
   have ZB := Lib.hid zb
   have HB := Lib.hid (H3).from3
   clear h1 h2 h3 H1 H2 H3 zb
   go_wp2
   refine bodyPost_ret (results_cv (s := 6) (k := 7) rfl rfl rfl (val_set ZB.out _ _ _ _)) rfl ⟨rfl, Lib.hid (by have hb := HB.out; have hs := hb.size; go_grown)⟩
  | false =>
   rw [h2] at hN
   obtain ⟨⟨er, n⟩, hnum⟩ : ∃ r, r = numP op a.int b.int := ⟨_, rfl⟩
   have HNUM := Lib.hid (show ∀ W, Calls Tryz.prog 152 #[.int .u8 op, .int .i64 a.int, .int .i64 b.int] W fun e w' => e = .returned (.tuple #[.int .i64 n, errV er]) ∧ W = w' from fun W => by have h := number73 op a.int b.int hop W; rw [← hnum] at h; exact h)
   cases er with
   | some er =>
    have e : reckonP op a b = (Val.null, some er) := by simp [reckonP, h1, h2, ← hnum]
    rw [e]
    clear e h1 h2 hnum
    go_enter Tryz.func108, Tryz.ntmps108
    go_wp2_with fail
    refine (idx70 op hop _).mono ?_
    rintro e w0 ⟨kk, rfl, rfl⟩
    have hkk : ¬ (kk : Int) < 0 := by omega
    go_wp2_with fail
    refine (hI.out _ _ (blk_new' rfl (by simp))).mono ?_
    rintro e w1 ⟨rfl, h1⟩
    have H1 : Below (((w.alloc _).alloc _).alloc _).heap.size (((w.alloc _).alloc _).alloc _) w1 := h1.out.from1
    obtain ⟨hc, hf⟩ := bcell H1
    go_wp2_with fail
    refine (hN.out _ _ (blk_new' rfl rfl)).mono ?_
    rintro e w2 ⟨rfl, h2⟩
    have H2 := bt h2.out.from1 H1
    clear hc hf
    obtain ⟨hc, hf⟩ := bcell H2
    go_wp2_with fail
    refine (HNUM.out _).mono ?_
    rintro e w3 ⟨rfl, rfl⟩
    simp only [errV]
    go_wp2_with fail
    refine (null34 _).mono ?_
    rintro e w4 ⟨rfl, h4⟩
    have H3 := bt h4.out H2
    have zb : Blk w4 (w.heap.size + 1 + 1) 26 #[.int .i64 0, .int .i64 0, .string ⟨#[]⟩, .bool false] := (blk_new' (w := (w.alloc _).alloc _) rfl (by simp)).below H3
    have hfz := fun o => zb.frozen o
    have q0 := zb.cell 0
    have q1 := zb.cell 1
    have q2 := zb.cell 2
    have q3 := zb.cell 3
    have hl1 := zb.lt
    have ZB := Lib.hid zb
    have HB := Lib.hid (H3).from3
    clear h1 h2 h4 H1 H2 H3 zb hc hf
    go_wp2
    refine bodyPost_ret (results_cv (s := 6) (k := 7) rfl rfl rfl (val_set ZB.out _ _ _ _)) rfl ⟨rfl, Lib.hid (by have hb := HB.out; have hs := hb.size; go_grown)⟩
   | none =>
    have e : reckonP op a b = (Val.ofInt n, none) := by simp [reckonP, h1, h2, ← hnum]
    rw [e]
    clear e h1 h2 hnum
    go_enter Tryz.func108, Tryz.ntmps108
    go_wp2_with fail
    refine (idx70 op hop _).mono ?_
    rintro e w0 ⟨kk, rfl, rfl⟩
    have hkk : ¬ (kk : Int) < 0 := by omega
    go_wp2_with fail
    refine (hI.out _ _ (blk_new' rfl (by simp))).mono ?_
    rintro e w1 ⟨rfl, h1⟩
    have H1 : Below (((w.alloc _).alloc _).alloc _).heap.size (((w.alloc _).alloc _).alloc _) w1 := h1.out.from1
    obtain ⟨hc, hf⟩ := bcell H1
    go_wp2_with fail
    refine (hN.out _ _ (blk_new' rfl rfl)).mono ?_
    rintro e w2 ⟨rfl, h2⟩
    have H2 := bt h2.out.from1 H1
    clear hc hf
    obtain ⟨hc, hf⟩ := bcell H2
    go_wp2_with fail
    refine (HNUM.out _).mono ?_
    rintro e w3 ⟨rfl, rfl⟩
    simp only [errV]
    go_wp2_with fail
    refine (int50 _ _).mono ?_
    rintro e w4 ⟨rfl, h4⟩
    have H3 := bt h4.out H2
    have zb : Blk w4 (w.heap.size + 1 + 1) 26 #[.int .i64 0, .int .i64 0, .string ⟨#[]⟩, .bool false] := (blk_new' (w := (w.alloc _).alloc _) rfl (by simp)).below H3
    have hfz := fun o => zb.frozen o
    have q0 := zb.cell 0
    have q1 := zb.cell 1
    have q2 := zb.cell 2
    have q3 := zb.cell 3
    have hl1 := zb.lt
    have ZB := Lib.hid zb
    have HB := Lib.hid (H3).from3
    clear h1 h2 h4 H1 H2 H3 zb hc hf
    go_wp2
    refine bodyPost_ret (results_cv (s := 6) (k := 7) rfl rfl rfl (val_set ZB.out _ _ _ _)) rfl ⟨rfl, Lib.hid (by have hb := HB.out; have hs := hb.size; go_grown)⟩

set_option maxRecDepth 20000 in
set_option maxHeartbeats 4000000 in
theorem join59 (w : World) (a b : Val) (hla : a.text.size ≤ 140737488355328) (hlb : b.text.size ≤ 140737488355328) : Calls Tryz.prog 117 #[.agg #[.int .i64 a.kind, .int .i64 a.int, .string a.text, .bool a.bool], .agg #[.int .i64 b.kind, .int .i64 b.int, .string b.text, .bool b.bool]] w fun e w' => e = .returned (resV (joinP a b)) ∧ Hid (Below w.heap.size w w') := by
 have hI := Lib.hid (is71two 2 a b)
 have hN := Lib.hid (null72two a b)
 cases h1 : isK 2 a && isK 2 b with
 | false =>
  have e : joinP a b = (Val.null, some 7) := by simp [joinP, h1]
  rw [e]
  rw [h1] at hI
  clear e h1
  go_enter Tryz.func117, Tryz.ntmps117
  go_wp2_with fail
  refine (hI.out _ _ (blk_new' rfl (by simp))).mono ?_
  rintro e w1 ⟨rfl, h1⟩
  have H1 : Below (((w.alloc _).alloc _).alloc _).heap.size (((w.alloc _).alloc _).alloc _) w1 := h1.out.from1
  go_wp2_with fail
  refine (null34 _).mono ?_
  rintro e w2 ⟨rfl, h2⟩
  have H2 := bt h2.out H1
  have zb : Blk w2 (w.heap.size + 1 + 1) 26 #[.int .i64 0, .int .i64 0, .string ⟨#[]⟩, .bool false] := (blk_new' (w := (w.alloc _).alloc _) rfl (by simp)).below H2
  have hfz := fun o => zb.frozen o
  have q0 := zb.cell 0
  have q1 := zb.cell 1
  have q2 := zb.cell 2
  have q3 := zb.cell 3
  have hl1 := zb.lt
  have ZB := Lib.hid zb
  have HB := Lib.hid (H2).from3
  clear h1 h2 H1 H2 zb
  go_wp2
  refine bodyPost_ret (results_cv (s := 4) (k := 5) rfl rfl rfl (val_set ZB.out _ _ _ _)) rfl ⟨rfl, Lib.hid (by have hb := HB.out; have hs := hb.size; go_grown)⟩
 | true =>
  rw [h1] at hI
  cases h2 : nullB a || nullB b with
  | true =>
   have e : joinP a b = (Val.null, none) := by simp [joinP, h1, h2]
   rw [e]
   rw [h2] at hN
   clear e h1 h2
   go_enter Tryz.func117, Tryz.ntmps117
   go_wp2_with fail
   refine (hI.out _ _ (blk_new' rfl (by simp))).mono ?_
   rintro e w1 ⟨rfl, h1⟩
   have H1 : Below (((w.alloc _).alloc _).alloc _).heap.size (((w.alloc _).alloc _).alloc _) w1 := h1.out.from1
   obtain ⟨hc, hf⟩ := bcell H1
   go_wp2_with fail
   refine (hN.out _ _ (blk_new' rfl rfl)).mono ?_
   rintro e w2 ⟨rfl, h2⟩
   have H2 := bt h2.out.from1 H1
   clear hc hf
   go_wp2_with fail
   refine (null34 _).mono ?_
   rintro e w3 ⟨rfl, h3⟩
   have H3 := bt h3.out H2
   have zb : Blk w3 (w.heap.size + 1 + 1) 26 #[.int .i64 0, .int .i64 0, .string ⟨#[]⟩, .bool false] := (blk_new' (w := (w.alloc _).alloc _) rfl (by simp)).below H3
   have hfz := fun o => zb.frozen o
   have q0 := zb.cell 0
   have q1 := zb.cell 1
   have q2 := zb.cell 2
   have q3 := zb.cell 3
   have hl1 := zb.lt
   have ZB := Lib.hid zb
   have HB := Lib.hid (H3).from3
   clear h1 h2 h3 H1 H2 H3 zb
   go_wp2
   refine bodyPost_ret (results_cv (s := 4) (k := 5) rfl rfl rfl (val_set ZB.out _ _ _ _)) rfl ⟨rfl, Lib.hid (by have hb := HB.out; have hs := hb.size; go_grown)⟩
  | false =>
   rw [h2] at hN
   by_cases h3 : 4096 < a.text.size + b.text.size
   ·have e : joinP a b = (Val.null, some 2) := by simp [joinP, h1, h2, h3]
    rw [e]
    have hz : (4096 : Int) < (a.text.size : Int) + (b.text.size : Int) := by omega
    have hs1 : (a.text.size : Int) ≤ 140737488355328 := by omega
    have hwr : wrap64 ((a.text.size : Int) + (b.text.size : Int)) = (a.text.size : Int) + (b.text.size : Int) := by unfold wrap64; omega
    clear e h1 h2 h3
    go_enter Tryz.func117, Tryz.ntmps117
    go_wp2_with fail
    refine (hI.out _ _ (blk_new' rfl (by simp))).mono ?_
    rintro e w1 ⟨rfl, h1⟩
    have H1 : Below (((w.alloc _).alloc _).alloc _).heap.size (((w.alloc _).alloc _).alloc _) w1 := h1.out.from1
    obtain ⟨hc, hf⟩ := bcell H1
    go_wp2_with fail
    refine (hN.out _ _ (blk_new' rfl rfl)).mono ?_
    rintro e w2 ⟨rfl, h2⟩
    have H2 := bt h2.out.from1 H1
    clear hc hf
    obtain ⟨hc, hf⟩ := bcell H2
    go_wp2_with fail
    refine (null34 _).mono ?_
    rintro e w4 ⟨rfl, h4⟩
    have H3 := bt h4.out H2
    have zb : Blk w4 (w.heap.size + 1 + 1) 26 #[.int .i64 0, .int .i64 0, .string ⟨#[]⟩, .bool false] := (blk_new' (w := (w.alloc _).alloc _) rfl (by simp)).below H3
    have hfz := fun o => zb.frozen o
    have q0 := zb.cell 0
    have q1 := zb.cell 1
    have q2 := zb.cell 2
    have q3 := zb.cell 3
    have hl1 := zb.lt
    have ZB := Lib.hid zb
    have HB := Lib.hid (H3).from3
    clear h1 h2 h4 H1 H2 H3 zb hc hf
    go_wp2
    refine bodyPost_ret (results_cv (s := 4) (k := 5) rfl rfl rfl (val_set ZB.out _ _ _ _)) rfl ⟨rfl, Lib.hid (by have hb := HB.out; have hs := hb.size; go_grown)⟩
   ·have e : joinP a b = (Val.ofText (a.text ++ b.text), none) := by simp [joinP, h1, h2, h3]
    rw [e]
    have hz : ¬ (4096 : Int) < (a.text.size : Int) + (b.text.size : Int) := by omega
    have hcat : ¬ 9223372036854775807 < a.text.size + b.text.size := by omega
    have hcat2 : ¬ (9223372036854775807 : Int) < (a.text.size : Int) + (b.text.size : Int) := by omega
    have hs1 : (a.text.size : Int) ≤ 4096 := by omega
    have hwr : wrap64 ((a.text.size : Int) + (b.text.size : Int)) = (a.text.size : Int) + (b.text.size : Int) := by unfold wrap64; omega
    have hcat4 : a.text.size + b.text.size ≤ 4096 := by clear hwr; omega
    clear e h1 h2 h3
    go_enter Tryz.func117, Tryz.ntmps117
    go_wp2_with fail
    refine (hI.out _ _ (blk_new' rfl (by simp))).mono ?_
    rintro e w1 ⟨rfl, h1⟩
    have H1 : Below (((w.alloc _).alloc _).alloc _).heap.size (((w.alloc _).alloc _).alloc _) w1 := h1.out.from1
    obtain ⟨hc, hf⟩ := bcell H1
    go_wp2_with fail
    refine (hN.out _ _ (blk_new' rfl rfl)).mono ?_
    rintro e w2 ⟨rfl, h2⟩
    have H2 := bt h2.out.from1 H1
    clear hc hf
    obtain ⟨hc, hf⟩ := bcell H2
    go_wp2_with fail
    refine (text35 _ _).mono ?_
    rintro e w4 ⟨rfl, h4⟩
    have H3 := bt h4.out H2
    have zb : Blk w4 (w.heap.size + 1 + 1) 26 #[.int .i64 0, .int .i64 0, .string ⟨#[]⟩, .bool false] := (blk_new' (w := (w.alloc _).alloc _) rfl (by simp)).below H3
    have hfz := fun o => zb.frozen o
    have q0 := zb.cell 0
    have q1 := zb.cell 1
    have q2 := zb.cell 2
    have q3 := zb.cell 3
    have hl1 := zb.lt
    have ZB := Lib.hid zb
    have HB := Lib.hid (H3).from3
    clear h1 h2 h4 H1 H2 H3 zb hc hf
    go_wp2
    refine bodyPost_ret (results_cv (s := 4) (k := 5) rfl rfl rfl (val_set ZB.out _ _ _ _)) rfl ⟨rfl, Lib.hid (by have hb := HB.out; have hs := hb.size; go_grown)⟩

end Go.Proofs.YtbcmmecilheicaaGreatDoor
