/- scope.of: a literal, a column, a label. -/
import Derived.Test.YtbcmmecilheicaaGreatDoorEvE
namespace Go.Proofs.YtbcmmecilheicaaGreatDoor
open Go Go.RowKit

set_option maxRecDepth 100000 in
set_option maxHeartbeats 2000000 in
theorem of_lit (W : World) (at_ : Int) (VA : Option Addr) (vn vc : Nat) (LA : Option Addr) (ln lc : Nat) (kind col : Int) (v : Val) (A : Option Addr) (n c : Nat) :
    Calls Tryz.prog 42 #[.agg #[.int .i64 at_, .slice VA vn vc, .slice LA ln lc], .agg #[.string ⟨#[108, 105, 116]⟩, .int .i64 kind, .int .i64 col, .int .i64 v.kind, .int .i64 v.int, .string v.text, .bool v.bool, .slice A n c]] W fun e w' => e = .returned (resV (v, none)) ∧ Hid (Below W.heap.size W w') := by
  go_enter Tryz.func42, Tryz.ntmps42
  go_wp2
  go_returns
  exact ⟨rfl, Lib.hid (bt (below_alloc _ _) (bt (below_alloc _ _) (below_alloc _ _)))⟩

set_option maxRecDepth 100000 in
set_option maxHeartbeats 2000000 in
theorem of_col_err (W : World) (at_ : Int) (VA : Option Addr) (vn vc : Nat) (LA : Option Addr) (ln lc : Nat) (kind col : Int) (v : Val) (A : Option Addr) (n c : Nat) (h : col < 0 ∨ (vn : Int) ≤ col) :
    Calls Tryz.prog 42 #[.agg #[.int .i64 at_, .slice VA vn vc, .slice LA ln lc], .agg #[.string ⟨#[99, 111, 108]⟩, .int .i64 kind, .int .i64 col, .int .i64 v.kind, .int .i64 v.int, .string v.text, .bool v.bool, .slice A n c]] W fun e w' => e = .returned (resV (Val.null, some 1)) ∧ Hid (Below W.heap.size W w') := by
  by_cases h0 : col < 0
  · clear h
    go_enter Tryz.func42, Tryz.ntmps42
    go_wp2_with fail
    refine (null34 _).mono ?_
    rintro e w3 ⟨rfl, h3⟩
    have zb := (blk_new' (w := (W.alloc _).alloc _) rfl (by simp) : Blk _ (W.heap.size + 1 + 1) 26 _).below h3.out
    have hfz := fun o => zb.frozen o
    have q0 := zb.cell 0
    have q1 := zb.cell 1
    have q2 := zb.cell 2
    have q3 := zb.cell 3
    have hl1 := zb.lt
    have ZB := Lib.hid zb
    have HB := Lib.hid h3.out.from3
    clear zb h3
    go_wp2
    refine bodyPost_ret (results_cv (s := 4) (k := 5) rfl rfl rfl (val_set ZB.out _ _ _ _)) rfl ⟨rfl, Lib.hid (by have hb := HB.out; have hs := hb.size; go_grown)⟩
  · have h1 : (vn : Int) ≤ col := by omega
    clear h
    go_enter Tryz.func42, Tryz.ntmps42
    go_wp2_with fail
    refine (null34 _).mono ?_
    rintro e w3 ⟨rfl, h3⟩
    have zb := (blk_new' (w := (W.alloc _).alloc _) rfl (by simp) : Blk _ (W.heap.size + 1 + 1) 26 _).below h3.out
    have hfz := fun o => zb.frozen o
    have q0 := zb.cell 0
    have q1 := zb.cell 1
    have q2 := zb.cell 2
    have q3 := zb.cell 3
    have hl1 := zb.lt
    have ZB := Lib.hid zb
    have HB := Lib.hid h3.out.from3
    clear zb h3
    go_wp2
    refine bodyPost_ret (results_cv (s := 4) (k := 5) rfl rfl rfl (val_set ZB.out _ _ _ _)) rfl ⟨rfl, Lib.hid (by have hb := HB.out; have hs := hb.size; go_grown)⟩

set_option maxRecDepth 100000 in
set_option maxHeartbeats 2000000 in
theorem of_col (W : World) (at_ : Int) (b off vn vc : Nat) (LA : Option Addr) (ln lc : Nat) (kind : Int) (i : Nat) (v : Val) (A : Option Addr) (n c : Nat) (hi : i < vn) (u : Val) (hb : b < W.heap.size) (hu : ValC W b (off + i * 4) u) :
    Calls Tryz.prog 42 #[.agg #[.int .i64 at_, .slice (some ⟨b, off, none⟩) vn vc, .slice LA ln lc], .agg #[.string ⟨#[99, 111, 108]⟩, .int .i64 kind, .int .i64 i, .int .i64 v.kind, .int .i64 v.int, .string v.text, .bool v.bool, .slice A n c]] W fun e w' => e = .returned (resV (u, none)) ∧ Hid (Below W.heap.size W w') := by
  obtain ⟨c0, c1, c2, c3⟩ := hu
  have hiz : (i : Int) < (vn : Int) := by omega
  have hi0 : (0 : Int) ≤ (i : Int) := by omega
  have hn0 : ¬ (i : Int) < 0 := by omega
  have hn1 : ¬ (vn : Int) ≤ (i : Int) := by omega
  have hb1 : b < W.heap.size + 1 := by omega
  have hb2 : b < W.heap.size + 1 + 1 := by omega
  go_enter Tryz.func42, Tryz.ntmps42
  go_wp2
  go_returns
  exact ⟨rfl, Lib.hid (bt (below_alloc _ _) (bt (below_alloc _ _) (below_alloc _ _)))⟩

set_option maxRecDepth 100000 in
set_option maxHeartbeats 2000000 in
theorem of_label_err (W : World) (at_ : Int) (VA : Option Addr) (vn vc : Nat) (LA : Option Addr) (ln lc : Nat) (kind col : Int) (v : Val) (A : Option Addr) (n c : Nat) (h : at_ < 0 ∨ (ln : Int) ≤ at_) :
    Calls Tryz.prog 42 #[.agg #[.int .i64 at_, .slice VA vn vc, .slice LA ln lc], .agg #[.string ⟨#[108, 97, 98, 101, 108]⟩, .int .i64 kind, .int .i64 col, .int .i64 v.kind, .int .i64 v.int, .string v.text, .bool v.bool, .slice A n c]] W fun e w' => e = .returned (resV (Val.null, some 1)) ∧ Hid (Below W.heap.size W w') := by
  by_cases h0 : at_ < 0
  · clear h
    go_enter Tryz.func42, Tryz.ntmps42
    go_wp2_with fail
    refine (null34 _).mono ?_
    rintro e w3 ⟨rfl, h3⟩
    have zb := (blk_new' (w := (W.alloc _).alloc _) rfl (by simp) : Blk _ (W.heap.size + 1 + 1) 26 _).below h3.out
    have hfz := fun o => zb.frozen o
    have q0 := zb.cell 0
    have q1 := zb.cell 1
    have q2 := zb.cell 2
    have q3 := zb.cell 3
    have hl1 := zb.lt
    have ZB := Lib.hid zb
    have HB := Lib.hid h3.out.from3
    clear zb h3
    go_wp2
    refine bodyPost_ret (results_cv (s := 4) (k := 5) rfl rfl rfl (val_set ZB.out _ _ _ _)) rfl ⟨rfl, Lib.hid (by have hb := HB.out; have hs := hb.size; go_grown)⟩
  · have h1 : (ln : Int) ≤ at_ := by omega
    clear h
    go_enter Tryz.func42, Tryz.ntmps42
    go_wp2_with fail
    refine (null34 _).mono ?_
    rintro e w3 ⟨rfl, h3⟩
    have zb := (blk_new' (w := (W.alloc _).alloc _) rfl (by simp) : Blk _ (W.heap.size + 1 + 1) 26 _).below h3.out
    have hfz := fun o => zb.frozen o
    have q0 := zb.cell 0
    have q1 := zb.cell 1
    have q2 := zb.cell 2
    have q3 := zb.cell 3
    have hl1 := zb.lt
    have ZB := Lib.hid zb
    have HB := Lib.hid h3.out.from3
    clear zb h3
    go_wp2
    refine bodyPost_ret (results_cv (s := 4) (k := 5) rfl rfl rfl (val_set ZB.out _ _ _ _)) rfl ⟨rfl, Lib.hid (by have hb := HB.out; have hs := hb.size; go_grown)⟩

set_option maxRecDepth 100000 in
set_option maxHeartbeats 2000000 in
theorem of_label (W : World) (i : Nat) (VA : Option Addr) (vn vc b off ln lc : Nat) (kind col : Int) (v : Val) (A : Option Addr) (n c : Nat) (hi : i < ln) (z : ByteArray) (hb : b < W.heap.size) (hu : W.cell? ⟨b, off + i, none⟩ = some (.string z)) :
    Calls Tryz.prog 42 #[.agg #[.int .i64 i, .slice VA vn vc, .slice (some ⟨b, off, none⟩) ln lc], .agg #[.string ⟨#[108, 97, 98, 101, 108]⟩, .int .i64 kind, .int .i64 col, .int .i64 v.kind, .int .i64 v.int, .string v.text, .bool v.bool, .slice A n c]] W fun e w' => e = .returned (resV (Val.ofText z, none)) ∧ Hid (Below W.heap.size W w') := by
  have hiz : (i : Int) < (ln : Int) := by omega
  have hi0 : (0 : Int) ≤ (i : Int) := by omega
  have hn0 : ¬ (i : Int) < 0 := by omega
  have hn1 : ¬ (ln : Int) ≤ (i : Int) := by omega
  have hb1 : b < W.heap.size + 1 := by omega
  have hb2 : b < W.heap.size + 1 + 1 := by omega
  go_enter Tryz.func42, Tryz.ntmps42
  go_wp2_with fail
  refine (text35 _ _).mono ?_
  rintro e w3 ⟨rfl, h3⟩
  have zb := (blk_new' (w := (W.alloc _).alloc _) rfl (by simp) : Blk _ (W.heap.size + 1 + 1) 26 _).below h3.out
  have hfz := fun o => zb.frozen o
  have q0 := zb.cell 0
  have q1 := zb.cell 1
  have q2 := zb.cell 2
  have q3 := zb.cell 3
  have hl1 := zb.lt
  have ZB := Lib.hid zb
  have HB := Lib.hid h3.out.from3
  clear zb h3 hu
  go_wp2
  refine bodyPost_ret (results_cv (s := 4) (k := 5) rfl rfl rfl (val_set ZB.out _ _ _ _)) rfl ⟨rfl, Lib.hid (by have hb := HB.out; have hs := hb.size; go_grown)⟩

end Go.Proofs.YtbcmmecilheicaaGreatDoor
