/- eval.binary, args: which function an operation is, how many Args it has. -/
import Derived.Test.YtbcmmecilheicaaGreatDoorVal6
namespace Go.Proofs.YtbcmmecilheicaaGreatDoor
open Go Go.RowKit

set_option maxHeartbeats 400000 in
theorem reckon60 (w : World) (n : Int) : Calls Tryz.prog 118 #[.int .u8 n] w fun e w' => e = .returned (.func (.func 157) #[] #[.pointer (some ⟨w.heap.size, 0, none⟩)]) ∧ w' = w.alloc (.cells #[.int .u8 n] 5) := by
  go_enter Tryz.func118, Tryz.ntmps118
  go_wp2
  go_ret
  exact ⟨rfl, rfl⟩
set_option maxRecDepth 20000 in
set_option maxHeartbeats 1000000 in
theorem bin39_and (w : World) : Calls Tryz.prog 85 #[.string ⟨#[97, 110, 100]⟩] w fun e w' => e = .returned (.func (.func 112) #[] #[]) ∧ w' = w := by
  go_enter Tryz.func85, Tryz.ntmps85
  go_wp2
  go_ret
  exact ⟨rfl, rfl⟩
theorem nf_and (W : World) : (binOp BinOp.neq 177 (.func (.func 112) #[] #[]) .nilFunc).run Tryz.prog W = .ok (.bool true) W := by kernel_rfl
set_option maxRecDepth 20000 in
set_option maxHeartbeats 1000000 in
theorem bin39_or (w : World) : Calls Tryz.prog 85 #[.string ⟨#[111, 114]⟩] w fun e w' => e = .returned (.func (.func 113) #[] #[]) ∧ w' = w := by
  go_enter Tryz.func85, Tryz.ntmps85
  go_wp2
  go_ret
  exact ⟨rfl, rfl⟩
theorem nf_or (W : World) : (binOp BinOp.neq 177 (.func (.func 113) #[] #[]) .nilFunc).run Tryz.prog W = .ok (.bool true) W := by kernel_rfl
set_option maxRecDepth 20000 in
set_option maxHeartbeats 1000000 in
theorem bin39_eq (w : World) : Calls Tryz.prog 85 #[.string ⟨#[61]⟩] w fun e w' => e = .returned (.func (.func 114) #[] #[]) ∧ w' = w := by
  go_enter Tryz.func85, Tryz.ntmps85
  go_wp2
  go_ret
  exact ⟨rfl, rfl⟩
theorem nf_eq (W : World) : (binOp BinOp.neq 177 (.func (.func 114) #[] #[]) .nilFunc).run Tryz.prog W = .ok (.bool true) W := by kernel_rfl
set_option maxRecDepth 20000 in
set_option maxHeartbeats 1000000 in
theorem bin39_ne (w : World) : Calls Tryz.prog 85 #[.string ⟨#[60, 62]⟩] w fun e w' => e = .returned (.func (.func 115) #[.func (.func 114) #[] #[]] #[]) ∧ w' = w := by
  go_enter Tryz.func85, Tryz.ntmps85
  go_wp2
  go_ret
  exact ⟨rfl, rfl⟩
theorem nf_ne (W : World) : (binOp BinOp.neq 177 (.func (.func 115) #[.func (.func 114) #[] #[]] #[]) .nilFunc).run Tryz.prog W = .ok (.bool true) W := by kernel_rfl
set_option maxRecDepth 20000 in
set_option maxHeartbeats 1000000 in
theorem bin39_lt (w : World) : Calls Tryz.prog 85 #[.string ⟨#[60]⟩] w fun e w' => e = .returned (.func (.func 111) #[] #[]) ∧ w' = w := by
  go_enter Tryz.func85, Tryz.ntmps85
  go_wp2
  go_ret
  exact ⟨rfl, rfl⟩
theorem nf_lt (W : World) : (binOp BinOp.neq 177 (.func (.func 111) #[] #[]) .nilFunc).run Tryz.prog W = .ok (.bool true) W := by kernel_rfl
set_option maxRecDepth 20000 in
set_option maxHeartbeats 1000000 in
theorem bin39_gt (w : World) : Calls Tryz.prog 85 #[.string ⟨#[62]⟩] w fun e w' => e = .returned (.func (.func 116) #[(.func (.func 111) #[] #[])] #[]) ∧ w' = w := by
  go_enter Tryz.func85, Tryz.ntmps85
  go_wp2
  go_ret
  exact ⟨rfl, rfl⟩
theorem nf_gt (W : World) : (binOp BinOp.neq 177 (.func (.func 116) #[(.func (.func 111) #[] #[])] #[]) .nilFunc).run Tryz.prog W = .ok (.bool true) W := by kernel_rfl
set_option maxRecDepth 20000 in
set_option maxHeartbeats 1000000 in
theorem bin39_le (w : World) : Calls Tryz.prog 85 #[.string ⟨#[60, 61]⟩] w fun e w' => e = .returned (.func (.func 115) #[.func (.func 116) #[(.func (.func 111) #[] #[])] #[]] #[]) ∧ w' = w := by
  go_enter Tryz.func85, Tryz.ntmps85
  go_wp2
  go_ret
  exact ⟨rfl, rfl⟩
theorem nf_le (W : World) : (binOp BinOp.neq 177 (.func (.func 115) #[.func (.func 116) #[(.func (.func 111) #[] #[])] #[]] #[]) .nilFunc).run Tryz.prog W = .ok (.bool true) W := by kernel_rfl
set_option maxRecDepth 20000 in
set_option maxHeartbeats 1000000 in
theorem bin39_ge (w : World) : Calls Tryz.prog 85 #[.string ⟨#[62, 61]⟩] w fun e w' => e = .returned (.func (.func 115) #[(.func (.func 111) #[] #[])] #[]) ∧ w' = w := by
  go_enter Tryz.func85, Tryz.ntmps85
  go_wp2
  go_ret
  exact ⟨rfl, rfl⟩
theorem nf_ge (W : World) : (binOp BinOp.neq 177 (.func (.func 115) #[(.func (.func 111) #[] #[])] #[]) .nilFunc).run Tryz.prog W = .ok (.bool true) W := by kernel_rfl
set_option maxRecDepth 20000 in
set_option maxHeartbeats 1000000 in
theorem bin39_cat (w : World) : Calls Tryz.prog 85 #[.string ⟨#[124, 124]⟩] w fun e w' => e = .returned (.func (.func 117) #[] #[]) ∧ w' = w := by
  go_enter Tryz.func85, Tryz.ntmps85
  go_wp2
  go_ret
  exact ⟨rfl, rfl⟩
theorem nf_cat (W : World) : (binOp BinOp.neq 177 (.func (.func 117) #[] #[]) .nilFunc).run Tryz.prog W = .ok (.bool true) W := by kernel_rfl
set_option maxRecDepth 20000 in
set_option maxHeartbeats 1000000 in
theorem bin39_add (w : World) : Calls Tryz.prog 85 #[.string ⟨#[43]⟩] w fun e w' => e = .returned (.func (.func 157) #[] #[.pointer (some ⟨w.heap.size, 0, none⟩)]) ∧ w' = w.alloc (.cells #[.int .u8 43] 5) := by
  go_enter Tryz.func85, Tryz.ntmps85
  go_wp2_with (go_at_call 118; refine (reckon60 _ _).mono ?_; rintro e w1 ⟨rfl, rfl⟩)
  go_ret
  exact ⟨rfl, rfl⟩
set_option maxRecDepth 20000 in
set_option maxHeartbeats 1000000 in
theorem bin39_sub (w : World) : Calls Tryz.prog 85 #[.string ⟨#[45]⟩] w fun e w' => e = .returned (.func (.func 157) #[] #[.pointer (some ⟨w.heap.size, 0, none⟩)]) ∧ w' = w.alloc (.cells #[.int .u8 45] 5) := by
  go_enter Tryz.func85, Tryz.ntmps85
  go_wp2_with (go_at_call 118; refine (reckon60 _ _).mono ?_; rintro e w1 ⟨rfl, rfl⟩)
  go_ret
  exact ⟨rfl, rfl⟩
set_option maxRecDepth 20000 in
set_option maxHeartbeats 1000000 in
theorem bin39_mul (w : World) : Calls Tryz.prog 85 #[.string ⟨#[42]⟩] w fun e w' => e = .returned (.func (.func 157) #[] #[.pointer (some ⟨w.heap.size, 0, none⟩)]) ∧ w' = w.alloc (.cells #[.int .u8 42] 5) := by
  go_enter Tryz.func85, Tryz.ntmps85
  go_wp2_with (go_at_call 118; refine (reckon60 _ _).mono ?_; rintro e w1 ⟨rfl, rfl⟩)
  go_ret
  exact ⟨rfl, rfl⟩
set_option maxRecDepth 20000 in
set_option maxHeartbeats 1000000 in
theorem bin39_div (w : World) : Calls Tryz.prog 85 #[.string ⟨#[47]⟩] w fun e w' => e = .returned (.func (.func 157) #[] #[.pointer (some ⟨w.heap.size, 0, none⟩)]) ∧ w' = w.alloc (.cells #[.int .u8 47] 5) := by
  go_enter Tryz.func85, Tryz.ntmps85
  go_wp2_with (go_at_call 118; refine (reckon60 _ _).mono ?_; rintro e w1 ⟨rfl, rfl⟩)
  go_ret
  exact ⟨rfl, rfl⟩
set_option maxRecDepth 20000 in
set_option maxHeartbeats 1000000 in
theorem bin39_rem (w : World) : Calls Tryz.prog 85 #[.string ⟨#[37]⟩] w fun e w' => e = .returned (.func (.func 157) #[] #[.pointer (some ⟨w.heap.size, 0, none⟩)]) ∧ w' = w.alloc (.cells #[.int .u8 37] 5) := by
  go_enter Tryz.func85, Tryz.ntmps85
  go_wp2_with (go_at_call 118; refine (reckon60 _ _).mono ?_; rintro e w1 ⟨rfl, rfl⟩)
  go_ret
  exact ⟨rfl, rfl⟩
theorem nf_ar (a : Addr) (W : World) : (binOp BinOp.neq 177 (.func (.func 157) #[] #[.pointer (some a)]) .nilFunc).run Tryz.prog W = .ok (.bool true) W := by kernel_rfl
theorem nf_nil (W : World) : (binOp BinOp.neq 177 .nilFunc .nilFunc).run Tryz.prog W = .ok (.bool false) W := by kernel_rfl
/-- no operation of two -/
def noBin (op : ByteArray) : Prop := (op.toList == [97, 110, 100]) = false ∧ (op.toList == [111, 114]) = false ∧ (op.toList == [61]) = false ∧ (op.toList == [60, 62]) = false ∧ (op.toList == [60]) = false ∧ (op.toList == [62]) = false ∧ (op.toList == [60, 61]) = false ∧ (op.toList == [62, 61]) = false ∧ (op.toList == [124, 124]) = false ∧ (op.toList == [43]) = false ∧ (op.toList == [45]) = false ∧ (op.toList == [42]) = false ∧ (op.toList == [47]) = false ∧ (op.toList == [37]) = false
def noUn (op : ByteArray) : Prop := (op.toList == [108, 105, 116]) = false ∧ (op.toList == [99, 111, 108]) = false ∧ (op.toList == [108, 97, 98, 101, 108]) = false ∧ (op.toList == [110, 101, 103]) = false ∧ (op.toList == [110, 111, 116]) = false ∧ (op.toList == [105, 115, 110, 117, 108, 108]) = false ∧ (op.toList == [110, 111, 116, 110, 117, 108, 108]) = false
set_option maxRecDepth 20000 in
set_option maxHeartbeats 2000000 in
theorem bin39_none (w : World) (op : ByteArray) (h : noBin op) : Calls Tryz.prog 85 #[.string op] w fun e w' => e = .returned .nilFunc ∧ w' = w := by
  obtain ⟨h0, h1, h2, h3, h4, h5, h6, h7, h8, h9, h10, h11, h12, h13⟩ := h
  go_enter Tryz.func85, Tryz.ntmps85
  go_wp2
  go_ret
  exact ⟨rfl, rfl⟩
set_option maxRecDepth 20000 in
set_option maxHeartbeats 1000000 in
theorem args36_lit (w : World) : Calls Tryz.prog 82 #[.string ⟨#[108, 105, 116]⟩] w fun e w' => e = .returned (.int .i64 0) ∧ Hid (Below w.heap.size w w') := by
  go_enter Tryz.func82, Tryz.ntmps82
  go_wp2
  go_ret
  exact ⟨rfl, Lib.hid (Below.refl _ _)⟩
set_option maxRecDepth 20000 in
set_option maxHeartbeats 1000000 in
theorem args36_col (w : World) : Calls Tryz.prog 82 #[.string ⟨#[99, 111, 108]⟩] w fun e w' => e = .returned (.int .i64 0) ∧ Hid (Below w.heap.size w w') := by
  go_enter Tryz.func82, Tryz.ntmps82
  go_wp2
  go_ret
  exact ⟨rfl, Lib.hid (Below.refl _ _)⟩
set_option maxRecDepth 20000 in
set_option maxHeartbeats 1000000 in
theorem args36_label (w : World) : Calls Tryz.prog 82 #[.string ⟨#[108, 97, 98, 101, 108]⟩] w fun e w' => e = .returned (.int .i64 0) ∧ Hid (Below w.heap.size w w') := by
  go_enter Tryz.func82, Tryz.ntmps82
  go_wp2
  go_ret
  exact ⟨rfl, Lib.hid (Below.refl _ _)⟩
set_option maxRecDepth 20000 in
set_option maxHeartbeats 1000000 in
theorem args36_neg (w : World) : Calls Tryz.prog 82 #[.string ⟨#[110, 101, 103]⟩] w fun e w' => e = .returned (.int .i64 1) ∧ Hid (Below w.heap.size w w') := by
  go_enter Tryz.func82, Tryz.ntmps82
  go_wp2
  go_ret
  exact ⟨rfl, Lib.hid (Below.refl _ _)⟩
set_option maxRecDepth 20000 in
set_option maxHeartbeats 1000000 in
theorem args36_not (w : World) : Calls Tryz.prog 82 #[.string ⟨#[110, 111, 116]⟩] w fun e w' => e = .returned (.int .i64 1) ∧ Hid (Below w.heap.size w w') := by
  go_enter Tryz.func82, Tryz.ntmps82
  go_wp2
  go_ret
  exact ⟨rfl, Lib.hid (Below.refl _ _)⟩
set_option maxRecDepth 20000 in
set_option maxHeartbeats 1000000 in
theorem args36_isnull (w : World) : Calls Tryz.prog 82 #[.string ⟨#[105, 115, 110, 117, 108, 108]⟩] w fun e w' => e = .returned (.int .i64 1) ∧ Hid (Below w.heap.size w w') := by
  go_enter Tryz.func82, Tryz.ntmps82
  go_wp2
  go_ret
  exact ⟨rfl, Lib.hid (Below.refl _ _)⟩
set_option maxRecDepth 20000 in
set_option maxHeartbeats 1000000 in
theorem args36_notnull (w : World) : Calls Tryz.prog 82 #[.string ⟨#[110, 111, 116, 110, 117, 108, 108]⟩] w fun e w' => e = .returned (.int .i64 1) ∧ Hid (Below w.heap.size w w') := by
  go_enter Tryz.func82, Tryz.ntmps82
  go_wp2
  go_ret
  exact ⟨rfl, Lib.hid (Below.refl _ _)⟩
set_option maxRecDepth 20000 in
set_option maxHeartbeats 1000000 in
theorem args36_and (w : World) : Calls Tryz.prog 82 #[.string ⟨#[97, 110, 100]⟩] w fun e w' => e = .returned (.int .i64 2) ∧ Hid (Below w.heap.size w w') := by
  have hnf := nf_and
  go_enter Tryz.func82, Tryz.ntmps82
  go_wp2_with (go_at_call 85; refine (bin39_and _).mono ?_; rintro e w1 ⟨rfl, rfl⟩)
  go_ret
  exact ⟨rfl, Lib.hid (Below.refl _ _)⟩
set_option maxRecDepth 20000 in
set_option maxHeartbeats 1000000 in
theorem args36_or (w : World) : Calls Tryz.prog 82 #[.string ⟨#[111, 114]⟩] w fun e w' => e = .returned (.int .i64 2) ∧ Hid (Below w.heap.size w w') := by
  have hnf := nf_or
  go_enter Tryz.func82, Tryz.ntmps82
  go_wp2_with (go_at_call 85; refine (bin39_or _).mono ?_; rintro e w1 ⟨rfl, rfl⟩)
  go_ret
  exact ⟨rfl, Lib.hid (Below.refl _ _)⟩
set_option maxRecDepth 20000 in
set_option maxHeartbeats 1000000 in
theorem args36_eq (w : World) : Calls Tryz.prog 82 #[.string ⟨#[61]⟩] w fun e w' => e = .returned (.int .i64 2) ∧ Hid (Below w.heap.size w w') := by
  have hnf := nf_eq
  go_enter Tryz.func82, Tryz.ntmps82
  go_wp2_with (go_at_call 85; refine (bin39_eq _).mono ?_; rintro e w1 ⟨rfl, rfl⟩)
  go_ret
  exact ⟨rfl, Lib.hid (Below.refl _ _)⟩
set_option maxRecDepth 20000 in
set_option maxHeartbeats 1000000 in
theorem args36_ne (w : World) : Calls Tryz.prog 82 #[.string ⟨#[60, 62]⟩] w fun e w' => e = .returned (.int .i64 2) ∧ Hid (Below w.heap.size w w') := by
  have hnf := nf_ne
  go_enter Tryz.func82, Tryz.ntmps82
  go_wp2_with (go_at_call 85; refine (bin39_ne _).mono ?_; rintro e w1 ⟨rfl, rfl⟩)
  go_ret
  exact ⟨rfl, Lib.hid (Below.refl _ _)⟩
set_option maxRecDepth 20000 in
set_option maxHeartbeats 1000000 in
theorem args36_lt (w : World) : Calls Tryz.prog 82 #[.string ⟨#[60]⟩] w fun e w' => e = .returned (.int .i64 2) ∧ Hid (Below w.heap.size w w') := by
  have hnf := nf_lt
  go_enter Tryz.func82, Tryz.ntmps82
  go_wp2_with (go_at_call 85; refine (bin39_lt _).mono ?_; rintro e w1 ⟨rfl, rfl⟩)
  go_ret
  exact ⟨rfl, Lib.hid (Below.refl _ _)⟩
set_option maxRecDepth 20000 in
set_option maxHeartbeats 1000000 in
theorem args36_gt (w : World) : Calls Tryz.prog 82 #[.string ⟨#[62]⟩] w fun e w' => e = .returned (.int .i64 2) ∧ Hid (Below w.heap.size w w') := by
  have hnf := nf_gt
  go_enter Tryz.func82, Tryz.ntmps82
  go_wp2_with (go_at_call 85; refine (bin39_gt _).mono ?_; rintro e w1 ⟨rfl, rfl⟩)
  go_ret
  exact ⟨rfl, Lib.hid (Below.refl _ _)⟩
set_option maxRecDepth 20000 in
set_option maxHeartbeats 1000000 in
theorem args36_le (w : World) : Calls Tryz.prog 82 #[.string ⟨#[60, 61]⟩] w fun e w' => e = .returned (.int .i64 2) ∧ Hid (Below w.heap.size w w') := by
  have hnf := nf_le
  go_enter Tryz.func82, Tryz.ntmps82
  go_wp2_with (go_at_call 85; refine (bin39_le _).mono ?_; rintro e w1 ⟨rfl, rfl⟩)
  go_ret
  exact ⟨rfl, Lib.hid (Below.refl _ _)⟩
set_option maxRecDepth 20000 in
set_option maxHeartbeats 1000000 in
theorem args36_ge (w : World) : Calls Tryz.prog 82 #[.string ⟨#[62, 61]⟩] w fun e w' => e = .returned (.int .i64 2) ∧ Hid (Below w.heap.size w w') := by
  have hnf := nf_ge
  go_enter Tryz.func82, Tryz.ntmps82
  go_wp2_with (go_at_call 85; refine (bin39_ge _).mono ?_; rintro e w1 ⟨rfl, rfl⟩)
  go_ret
  exact ⟨rfl, Lib.hid (Below.refl _ _)⟩
set_option maxRecDepth 20000 in
set_option maxHeartbeats 1000000 in
theorem args36_cat (w : World) : Calls Tryz.prog 82 #[.string ⟨#[124, 124]⟩] w fun e w' => e = .returned (.int .i64 2) ∧ Hid (Below w.heap.size w w') := by
  have hnf := nf_cat
  go_enter Tryz.func82, Tryz.ntmps82
  go_wp2_with (go_at_call 85; refine (bin39_cat _).mono ?_; rintro e w1 ⟨rfl, rfl⟩)
  go_ret
  exact ⟨rfl, Lib.hid (Below.refl _ _)⟩
set_option maxRecDepth 20000 in
set_option maxHeartbeats 1000000 in
theorem args36_add (w : World) : Calls Tryz.prog 82 #[.string ⟨#[43]⟩] w fun e w' => e = .returned (.int .i64 2) ∧ Hid (Below w.heap.size w w') := by
  have hnf := nf_ar ⟨w.heap.size, 0, none⟩
  go_enter Tryz.func82, Tryz.ntmps82
  go_wp2_with (go_at_call 85; refine (bin39_add _).mono ?_; rintro e w1 ⟨rfl, rfl⟩)
  go_ret
  exact ⟨rfl, Lib.hid (below_alloc _ _)⟩
set_option maxRecDepth 20000 in
set_option maxHeartbeats 1000000 in
theorem args36_sub (w : World) : Calls Tryz.prog 82 #[.string ⟨#[45]⟩] w fun e w' => e = .returned (.int .i64 2) ∧ Hid (Below w.heap.size w w') := by
  have hnf := nf_ar ⟨w.heap.size, 0, none⟩
  go_enter Tryz.func82, Tryz.ntmps82
  go_wp2_with (go_at_call 85; refine (bin39_sub _).mono ?_; rintro e w1 ⟨rfl, rfl⟩)
  go_ret
  exact ⟨rfl, Lib.hid (below_alloc _ _)⟩
set_option maxRecDepth 20000 in
set_option maxHeartbeats 1000000 in
theorem args36_mul (w : World) : Calls Tryz.prog 82 #[.string ⟨#[42]⟩] w fun e w' => e = .returned (.int .i64 2) ∧ Hid (Below w.heap.size w w') := by
  have hnf := nf_ar ⟨w.heap.size, 0, none⟩
  go_enter Tryz.func82, Tryz.ntmps82
  go_wp2_with (go_at_call 85; refine (bin39_mul _).mono ?_; rintro e w1 ⟨rfl, rfl⟩)
  go_ret
  exact ⟨rfl, Lib.hid (below_alloc _ _)⟩
set_option maxRecDepth 20000 in
set_option maxHeartbeats 1000000 in
theorem args36_div (w : World) : Calls Tryz.prog 82 #[.string ⟨#[47]⟩] w fun e w' => e = .returned (.int .i64 2) ∧ Hid (Below w.heap.size w w') := by
  have hnf := nf_ar ⟨w.heap.size, 0, none⟩
  go_enter Tryz.func82, Tryz.ntmps82
  go_wp2_with (go_at_call 85; refine (bin39_div _).mono ?_; rintro e w1 ⟨rfl, rfl⟩)
  go_ret
  exact ⟨rfl, Lib.hid (below_alloc _ _)⟩
set_option maxRecDepth 20000 in
set_option maxHeartbeats 1000000 in
theorem args36_rem (w : World) : Calls Tryz.prog 82 #[.string ⟨#[37]⟩] w fun e w' => e = .returned (.int .i64 2) ∧ Hid (Below w.heap.size w w') := by
  have hnf := nf_ar ⟨w.heap.size, 0, none⟩
  go_enter Tryz.func82, Tryz.ntmps82
  go_wp2_with (go_at_call 85; refine (bin39_rem _).mono ?_; rintro e w1 ⟨rfl, rfl⟩)
  go_ret
  exact ⟨rfl, Lib.hid (below_alloc _ _)⟩
set_option maxRecDepth 20000 in
set_option maxHeartbeats 2000000 in
theorem args36_none (w : World) (op : ByteArray) (h : noBin op) (hu : noUn op) : Calls Tryz.prog 82 #[.string op] w fun e w' => e = .returned (.int .i64 (-1)) ∧ Hid (Below w.heap.size w w') := by
  have hnf := nf_nil
  have HB := Lib.hid h
  obtain ⟨u0, u1, u2, u3, u4, u5, u6⟩ := hu
  clear h
  go_enter Tryz.func82, Tryz.ntmps82
  go_wp2_with (go_at_call 85; refine (bin39_none _ op HB.out).mono ?_; rintro e w1 ⟨rfl, rfl⟩)
  go_ret
  exact ⟨rfl, Lib.hid (Below.refl _ _)⟩

end Go.Proofs.YtbcmmecilheicaaGreatDoor
