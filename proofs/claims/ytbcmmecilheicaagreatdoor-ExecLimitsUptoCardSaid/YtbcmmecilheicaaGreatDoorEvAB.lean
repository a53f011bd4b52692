/- eval.binary, args: which function an operation is, how many Args it has. eval.two.turned, not; eval.reckon's closure; eval.unary. -/
import Derived.Test.YtbcmmecilheicaaGreatDoorVal6

/- eval.binary, args: which function an operation is, how many Args it has. -/
namespace Go.Proofs.YtbcmmecilheicaaGreatDoor
open Go Go.RowKit

set_option maxHeartbeats 400000 in
theorem reckon60 (w : World) (n : Int) : Calls Tryz.prog 118 #[.int .u8 n] w fun e w' => e = .returned (.func (.func 157) #[] #[.pointer (some ⟨w.heap.size, 0, none⟩)]) ∧ w' = w.alloc (.cells #[.int .u8 n] 5) := by
 go_enter Tryz.func118, Tryz.ntmps118
 go_wp2
 go_ret
 exact ⟨rfl, rfl⟩
set_option maxRecDepth 20000 in
set_option maxHeartbeats 1000000 in
theorem bin39_and (w : World) : Calls Tryz.prog 85 #[.string ⟨#[97, 110, 100]⟩] w fun e w' => e = .returned (.func (.func 112) #[] #[]) ∧ w' = w := by
 go_enter Tryz.func85, Tryz.ntmps85
 go_wp2
 go_ret
 exact ⟨rfl, rfl⟩
theorem nf_and (W : World) : (binOp BinOp.neq 177 (.func (.func 112) #[] #[]) .nilFunc).run Tryz.prog W = .ok (.bool true) W := by kernel_rfl
set_option maxRecDepth 20000 in
set_option maxHeartbeats 1000000 in
theorem bin39_or (w : World) : Calls Tryz.prog 85 #[.string ⟨#[111, 114]⟩] w fun e w' => e = .returned (.func (.func 113) #[] #[]) ∧ w' = w := by
 go_enter Tryz.func85, Tryz.ntmps85
 go_wp2
 go_ret
 exact ⟨rfl, rfl⟩
theorem nf_or (W : World) : (binOp BinOp.neq 177 (.func (.func 113) #[] #[]) .nilFunc).run Tryz.prog W = .ok (.bool true) W := by kernel_rfl
set_option maxRecDepth 20000 in
set_option maxHeartbeats 1000000 in
theorem bin39_eq (w : World) : Calls Tryz.prog 85 #[.string ⟨#[61]⟩] w fun e w' => e = .returned (.func (.func 114) #[] #[]) ∧ w' = w := by
 go_enter Tryz.func85, Tryz.ntmps85
 go_wp2
 go_ret
 exact ⟨rfl, rfl⟩
theorem nf_eq (W : World) : (binOp BinOp.neq 177 (.func (.func 114) #[] #[]) .nilFunc).run Tryz.prog W = .ok (.bool true) W := by kernel_rfl
set_option maxRecDepth 20000 in
set_option maxHeartbeats 1000000 in
theorem bin39_ne (w : World) : Calls Tryz.prog 85 #[.string ⟨#[60, 62]⟩] w fun e w' => e = .returned (.func (.func 115) #[.func (.func 114) #[] #[]] #[]) ∧ w' = w := by
 go_enter Tryz.func85, Tryz.ntmps85
 go_wp2
 go_ret
 exact ⟨rfl, rfl⟩
theorem nf_ne (W : World) : (binOp BinOp.neq 177 (.func (.func 115) #[.func (.func 114) #[] #[]] #[]) .nilFunc).run Tryz.prog W = .ok (.bool true) W := by kernel_rfl
set_option maxRecDepth 20000 in
set_option maxHeartbeats 1000000 in
theorem bin39_lt (w : World) : Calls Tryz.prog 85 #[.string ⟨#[60]⟩] w fun e w' => e = .returned (.func (.func 111) #[] #[]) ∧ w' = w := by
 go_enter Tryz.func85, Tryz.ntmps85
 go_wp2
 go_ret
 exact ⟨rfl, rfl⟩
theorem nf_lt (W : World) : (binOp BinOp.neq 177 (.func (.func 111) #[] #[]) .nilFunc).run Tryz.prog W = .ok (.bool true) W := by kernel_rfl
set_option maxRecDepth 20000 in
set_option maxHeartbeats 1000000 in
theorem bin39_gt (w : World) : Calls Tryz.prog 85 #[.string ⟨#[62]⟩] w fun e w' => e = .returned (.func (.func 116) #[(.func (.func 111) #[] #[])] #[]) ∧ w' = w := by
 go_enter Tryz.func85, Tryz.ntmps85
 go_wp2
 go_ret
 exact ⟨rfl, rfl⟩
theorem nf_gt (W : World) : (binOp BinOp.neq 177 (.func (.func 116) #[(.func (.func 111) #[] #[])] #[]) .nilFunc).run Tryz.prog W = .ok (.bool true) W := by kernel_rfl
set_option maxRecDepth 20000 in
set_option maxHeartbeats 1000000 in
theorem bin39_le (w : World) : Calls Tryz.prog 85 #[.string ⟨#[60, 61]⟩] w fun e w' => e = .returned (.func (.func 115) #[.func (.func 116) #[(.func (.func 111) #[] #[])] #[]] #[]) ∧ w' = w := by
 go_enter Tryz.func85, Tryz.ntmps85
 go_wp2
 go_ret
 exact ⟨rfl, rfl⟩
theorem nf_le (W : World) : (binOp BinOp.neq 177 (.func (.func 115) #[.func (.func 116) #[(.func (.func 111) #[] #[])] #[]] #[]) .nilFunc).run Tryz.prog W = .ok (.bool true) W := by kernel_rfl
set_option maxRecDepth 20000 in
set_option maxHeartbeats 1000000 in
theorem bin39_ge (w : World) : Calls Tryz.prog 85 #[.string ⟨#[62, 61]⟩] w fun e w' => e = .returned (.func (.func 115) #[(.func (.func 111) #[] #[])] #[]) ∧ w' = w := by
 go_enter Tryz.func85, Tryz.ntmps85
 go_wp2
 go_ret
 exact ⟨rfl, rfl⟩
theorem nf_ge (W : World) : (binOp BinOp.neq 177 (.func (.func 115) #[(.func (.func 111) #[] #[])] #[]) .nilFunc).run Tryz.prog W = .ok (.bool true) W := by kernel_rfl
set_option maxRecDepth 20000 in
set_option maxHeartbeats 1000000 in
theorem bin39_cat (w : World) : Calls Tryz.prog 85 #[.string ⟨#[124, 124]⟩] w fun e w' => e = .returned (.func (.func 117) #[] #[]) ∧ w' = w := by
 go_enter Tryz.func85, Tryz.ntmps85
 go_wp2
 go_ret
 exact ⟨rfl, rfl⟩
theorem nf_cat (W : World) : (binOp BinOp.neq 177 (.func (.func 117) #[] #[]) .nilFunc).run Tryz.prog W = .ok (.bool true) W := by kernel_rfl
set_option maxRecDepth 20000 in
set_option maxHeartbeats 1000000 in
theorem bin39_add (w : World) : Calls Tryz.prog 85 #[.string ⟨#[43]⟩] w fun e w' => e = .returned (.func (.func 157) #[] #[.pointer (some ⟨w.heap.size, 0, none⟩)]) ∧ w' = w.alloc (.cells #[.int .u8 43] 5) := by
 go_enter Tryz.func85, Tryz.ntmps85
 go_wp2_with (go_at_call 118; refine (reckon60 _ _).mono ?_; rintro e w1 ⟨rfl, rfl⟩)
 go_ret
 exact ⟨rfl, rfl⟩
set_option maxRecDepth 20000 in
set_option maxHeartbeats 1000000 in
theorem bin39_sub (w : World) : Calls Tryz.prog 85 #[.string ⟨#[45]⟩] w fun e w' => e = .returned (.func (.func 157) #[] #[.pointer (some ⟨w.heap.size, 0, none⟩)]) ∧ w' = w.alloc (.cells #[.int .u8 45] 5) := by
 go_enter Tryz.func85, Tryz.ntmps85
 go_wp2_with (go_at_call 118; refine (reckon60 _ _).mono ?_; rintro e w1 ⟨rfl, rfl⟩)
 go_ret
 exact ⟨rfl, rfl⟩
set_option maxRecDepth 20000 in
set_option maxHeartbeats 1000000 in
theorem bin39_mul (w : World) : Calls Tryz.prog 85 #[.string ⟨#[42]⟩] w fun e w' => e = .returned (.func (.func 157) #[] #[.pointer (some ⟨w.heap.size, 0, none⟩)]) ∧ w' = w.alloc (.cells #[.int .u8 42] 5) := by
 go_enter Tryz.func85, Tryz.ntmps85
 go_wp2_with (go_at_call 118; refine (reckon60 _ _).mono ?_; rintro e w1 ⟨rfl, rfl⟩)
 go_ret
 exact ⟨rfl, rfl⟩
set_option maxRecDepth 20000 in
set_option maxHeartbeats 1000000 in
theorem bin39_div (w : World) : Calls Tryz.prog 85 #[.string ⟨#[47]⟩] w fun e w' => e = .returned (.func (.func 157) #[] #[.pointer (some ⟨w.heap.size, 0, none⟩)]) ∧ w' = w.alloc (.cells #[.int .u8 47] 5) := by
 go_enter Tryz.func85, Tryz.ntmps85
 go_wp2_with (go_at_call 118; refine (reckon60 _ _).mono ?_; rintro e w1 ⟨rfl, rfl⟩)
 go_ret
 exact ⟨rfl, rfl⟩
set_option maxRecDepth 20000 in
set_option maxHeartbeats 1000000 in
theorem bin39_rem (w : World) : Calls Tryz.prog 85 #[.string ⟨#[37]⟩] w fun e w' => e = .returned (.func (.func 157) #[] #[.pointer (some ⟨w.heap.size, 0, none⟩)]) ∧ w' = w.alloc (.cells #[.int .u8 37] 5) := by
 go_enter Tryz.func85, Tryz.ntmps85
 go_wp2_with (go_at_call 118; refine (reckon60 _ _).mono ?_; rintro e w1 ⟨rfl, rfl⟩)
 go_ret
 exact ⟨rfl, rfl⟩
theorem nf_ar (a : Addr) (W : World) : (binOp BinOp.neq 177 (.func (.func 157) #[] #[.pointer (some a)]) .nilFunc).run Tryz.prog W = .ok (.bool true) W := by kernel_rfl
theorem nf_nil (W : World) : (binOp BinOp.neq 177 .nilFunc .nilFunc).run Tryz.prog W = .ok (.bool false) W := by kernel_rfl
/-- no operation of two -/
def noBin (op : ByteArray) : Prop := (op.toList == [97, 110, 100]) = false ∧ (op.toList == [111, 114]) = false ∧ (op.toList == [61]) = false ∧ (op.toList == [60, 62]) = false ∧ (op.toList == [60]) = false ∧ (op.toList == [62]) = false ∧ (op.toList == [60, 61]) = false ∧ (op.toList == [62, 61]) = false ∧ (op.toList == [124, 124]) = false ∧ (op.toList == [43]) = false ∧ (op.toList == [45]) = false ∧ (op.toList == [42]) = false ∧ (op.toList == [47]) = false ∧ (op.toList == [37]) = false
def noUn (op : ByteArray) : Prop := (op.toList == [108, 105, 116]) = false ∧ (op.toList == [99, 111, 108]) = false ∧ (op.toList == [108, 97, 98, 101, 108]) = false ∧ (op.toList == [110, 101, 103]) = false ∧ (op.toList == [110, 111, 116]) = false ∧ (op.toList == [105, 115, 110, 117, 108, 108]) = false ∧ (op.toList == [110, 111, 116, 110, 117, 108, 108]) = false
set_option maxRecDepth 20000 in
set_option maxHeartbeats 2000000 in
theorem bin39_none (w : World) (op : ByteArray) (h : noBin op) : Calls Tryz.prog 85 #[.string op] w fun e w' => e = .returned .nilFunc ∧ w' = w := by
 obtain ⟨h0, h1, h2, h3, h4, h5, h6, h7, h8, h9, h10, h11, h12, h13⟩ := h
 go_enter Tryz.func85, Tryz.ntmps85
 go_wp2
 go_ret
 exact ⟨rfl, rfl⟩
set_option maxRecDepth 20000 in
set_option maxHeartbeats 1000000 in
theorem args36_neg (w : World) : Calls Tryz.prog 82 #[.string ⟨#[110, 101, 103]⟩] w fun e w' => e = .returned (.int .i64 1) ∧ Hid (Below w.heap.size w w') := by
 go_enter Tryz.func82, Tryz.ntmps82
 go_wp2
 go_ret
 exact ⟨rfl, Lib.hid (Below.refl _ _)⟩
set_option maxRecDepth 20000 in
set_option maxHeartbeats 1000000 in
theorem args36_not (w : World) : Calls Tryz.prog 82 #[.string ⟨#[110, 111, 116]⟩] w fun e w' => e = .returned (.int .i64 1) ∧ Hid (Below w.heap.size w w') := by
 go_enter Tryz.func82, Tryz.ntmps82
 go_wp2
 go_ret
 exact ⟨rfl, Lib.hid (Below.refl _ _)⟩
set_option maxRecDepth 20000 in
set_option maxHeartbeats 1000000 in
theorem args36_isnull (w : World) : Calls Tryz.prog 82 #[.string ⟨#[105, 115, 110, 117, 108, 108]⟩] w fun e w' => e = .returned (.int .i64 1) ∧ Hid (Below w.heap.size w w') := by
 go_enter Tryz.func82, Tryz.ntmps82
 go_wp2
 go_ret
 exact ⟨rfl, Lib.hid (Below.refl _ _)⟩
set_option maxRecDepth 20000 in
set_option maxHeartbeats 1000000 in
theorem args36_notnull (w : World) : Calls Tryz.prog 82 #[.string ⟨#[110, 111, 116, 110, 117, 108, 108]⟩] w fun e w' => e = .returned (.int .i64 1) ∧ Hid (Below w.heap.size w w') := by
 go_enter Tryz.func82, Tryz.ntmps82
 go_wp2
 go_ret
 exact ⟨rfl, Lib.hid (Below.refl _ _)⟩
set_option maxRecDepth 20000 in
set_option maxHeartbeats 1000000 in
theorem args36_and (w : World) : Calls Tryz.prog 82 #[.string ⟨#[97, 110, 100]⟩] w fun e w' => e = .returned (.int .i64 2) ∧ Hid (Below w.heap.size w w') := by
 have hnf := nf_and
 go_enter Tryz.func82, Tryz.ntmps82
 go_wp2_with (go_at_call 85; refine (bin39_and _).mono ?_; rintro e w1 ⟨rfl, rfl⟩)
 go_ret
 exact ⟨rfl, Lib.hid (Below.refl _ _)⟩
set_option maxRecDepth 20000 in
set_option maxHeartbeats 1000000 in
theorem args36_or (w : World) : Calls Tryz.prog 82 #[.string ⟨#[111, 114]⟩] w fun e w' => e = .returned (.int .i64 2) ∧ Hid (Below w.heap.size w w') := by
 have hnf := nf_or
 go_enter Tryz.func82, Tryz.ntmps82
 go_wp2_with (go_at_call 85; refine (bin39_or _).mono ?_; rintro e w1 ⟨rfl, rfl⟩)
 go_ret
 exact ⟨rfl, Lib.hid (Below.refl _ _)⟩
set_option maxRecDepth 20000 in
set_option maxHeartbeats 1000000 in
theorem args36_eq (w : World) : Calls Tryz.prog 82 #[.string ⟨#[61]⟩] w fun e w' => e = .returned (.int .i64 2) ∧ Hid (Below w.heap.size w w') := by
 have hnf := nf_eq
 go_enter Tryz.func82, Tryz.ntmps82
 go_wp2_with (go_at_call 85; refine (bin39_eq _).mono ?_; rintro e w1 ⟨rfl, rfl⟩)
 go_ret
 exact ⟨rfl, Lib.hid (Below.refl _ _)⟩
set_option maxRecDepth 20000 in
set_option maxHeartbeats 1000000 in
theorem args36_ne (w : World) : Calls Tryz.prog 82 #[.string ⟨#[60, 62]⟩] w fun e w' => e = .returned (.int .i64 2) ∧ Hid (Below w.heap.size w w') := by
 have hnf := nf_ne
 go_enter Tryz.func82, Tryz.ntmps82
 go_wp2_with (go_at_call 85; refine (bin39_ne _).mono ?_; rintro e w1 ⟨rfl, rfl⟩)
 go_ret
 exact ⟨rfl, Lib.hid (Below.refl _ _)⟩
set_option maxRecDepth 20000 in
set_option maxHeartbeats 1000000 in
theorem args36_lt (w : World) : Calls Tryz.prog 82 #[.string ⟨#[60]⟩] w fun e w' => e = .returned (.int .i64 2) ∧ Hid (Below w.heap.size w w') := by
 have hnf := nf_lt
 go_enter Tryz.func82, Tryz.ntmps82
 go_wp2_with (go_at_call 85; refine (bin39_lt _).mono ?_; rintro e w1 ⟨rfl, rfl⟩)
 go_ret
 exact ⟨rfl, Lib.hid (Below.refl _ _)⟩
set_option maxRecDepth 20000 in
set_option maxHeartbeats 1000000 in
theorem args36_gt (w : World) : Calls Tryz.prog 82 #[.string ⟨#[62]⟩] w fun e w' => e = .returned (.int .i64 2) ∧ Hid (Below w.heap.size w w') := by
 have hnf := nf_gt
 go_enter Tryz.func82, Tryz.ntmps82
 go_wp2_with (go_at_call 85; refine (bin39_gt _).mono ?_; rintro e w1 ⟨rfl, rfl⟩)
 go_ret
 exact ⟨rfl, Lib.hid (Below.refl _ _)⟩
set_option maxRecDepth 20000 in
set_option maxHeartbeats 1000000 in
theorem args36_le (w : World) : Calls Tryz.prog 82 #[.string ⟨#[60, 61]⟩] w fun e w' => e = .returned (.int .i64 2) ∧ Hid (Below w.heap.size w w') := by
 have hnf := nf_le
 go_enter Tryz.func82, Tryz.ntmps82
 go_wp2_with (go_at_call 85; refine (bin39_le _).mono ?_; rintro e w1 ⟨rfl, rfl⟩)
 go_ret
 exact ⟨rfl, Lib.hid (Below.refl _ _)⟩
set_option maxRecDepth 20000 in
set_option maxHeartbeats 1000000 in
theorem args36_ge (w : World) : Calls Tryz.prog 82 #[.string ⟨#[62, 61]⟩] w fun e w' => e = .returned (.int .i64 2) ∧ Hid (Below w.heap.size w w') := by
 have hnf := nf_ge
 go_enter Tryz.func82, Tryz.ntmps82
 go_wp2_with (go_at_call 85; refine (bin39_ge _).mono ?_; rintro e w1 ⟨rfl, rfl⟩)
 go_ret
 exact ⟨rfl, Lib.hid (Below.refl _ _)⟩
set_option maxRecDepth 20000 in
set_option maxHeartbeats 1000000 in
theorem args36_cat (w : World) : Calls Tryz.prog 82 #[.string ⟨#[124, 124]⟩] w fun e w' => e = .returned (.int .i64 2) ∧ Hid (Below w.heap.size w w') := by
 have hnf := nf_cat
 go_enter Tryz.func82, Tryz.ntmps82
 go_wp2_with (go_at_call 85; refine (bin39_cat _).mono ?_; rintro e w1 ⟨rfl, rfl⟩)
 go_ret
 exact ⟨rfl, Lib.hid (Below.refl _ _)⟩
set_option maxRecDepth 20000 in
set_option maxHeartbeats 1000000 in
theorem args36_add (w : World) : Calls Tryz.prog 82 #[.string ⟨#[43]⟩] w fun e w' => e = .returned (.int .i64 2) ∧ Hid (Below w.heap.size w w') := by
 have hnf := nf_ar ⟨w.heap.size, 0, none⟩
 go_enter Tryz.func82, Tryz.ntmps82
 go_wp2_with (go_at_call 85; refine (bin39_add _).mono ?_; rintro e w1 ⟨rfl, rfl⟩)
 go_ret
 exact ⟨rfl, Lib.hid (below_alloc _ _)⟩
set_option maxRecDepth 20000 in
set_option maxHeartbeats 1000000 in
theorem args36_sub (w : World) : Calls Tryz.prog 82 #[.string ⟨#[45]⟩] w fun e w' => e = .returned (.int .i64 2) ∧ Hid (Below w.heap.size w w') := by
 have hnf := nf_ar ⟨w.heap.size, 0, none⟩
 go_enter Tryz.func82, Tryz.ntmps82
 go_wp2_with (go_at_call 85; refine (bin39_sub _).mono ?_; rintro e w1 ⟨rfl, rfl⟩)
 go_ret
 exact ⟨rfl, Lib.hid (below_alloc _ _)⟩
set_option maxRecDepth 20000 in
set_option maxHeartbeats 1000000 in
theorem args36_mul (w : World) : Calls Tryz.prog 82 #[.string ⟨#[42]⟩] w fun e w' => e = .returned (.int .i64 2) ∧ Hid (Below w.heap.size w w') := by
 have hnf := nf_ar ⟨w.heap.size, 0, none⟩
 go_enter Tryz.func82, Tryz.ntmps82
 go_wp2_with (go_at_call 85; refine (bin39_mul _).mono ?_; rintro e w1 ⟨rfl, rfl⟩)
 go_ret
 exact ⟨rfl, Lib.hid (below_alloc _ _)⟩
set_option maxRecDepth 20000 in
set_option maxHeartbeats 1000000 in
theorem args36_div (w : World) : Calls Tryz.prog 82 #[.string ⟨#[47]⟩] w fun e w' => e = .returned (.int .i64 2) ∧ Hid (Below w.heap.size w w') := by
 have hnf := nf_ar ⟨w.heap.size, 0, none⟩
 go_enter Tryz.func82, Tryz.ntmps82
 go_wp2_with (go_at_call 85; refine (bin39_div _).mono ?_; rintro e w1 ⟨rfl, rfl⟩)
 go_ret
 exact ⟨rfl, Lib.hid (below_alloc _ _)⟩
set_option maxRecDepth 20000 in
set_option maxHeartbeats 1000000 in
theorem args36_rem (w : World) : Calls Tryz.prog 82 #[.string ⟨#[37]⟩] w fun e w' => e = .returned (.int .i64 2) ∧ Hid (Below w.heap.size w w') := by
 have hnf := nf_ar ⟨w.heap.size, 0, none⟩
 go_enter Tryz.func82, Tryz.ntmps82
 go_wp2_with (go_at_call 85; refine (bin39_rem _).mono ?_; rintro e w1 ⟨rfl, rfl⟩)
 go_ret
 exact ⟨rfl, Lib.hid (below_alloc _ _)⟩
set_option maxRecDepth 20000 in
set_option maxHeartbeats 2000000 in
theorem args36_none (w : World) (op : ByteArray) (h : noBin op) (hu : noUn op) : Calls Tryz.prog 82 #[.string op] w fun e w' => e = .returned (.int .i64 (-1)) ∧ Hid (Below w.heap.size w w') := by
 have hnf := nf_nil
 have HB := Lib.hid h
 obtain ⟨u0, u1, u2, u3, u4, u5, u6⟩ := hu
 clear h
 go_enter Tryz.func82, Tryz.ntmps82
 go_wp2_with (go_at_call 85; refine (bin39_none _ op HB.out).mono ?_; rintro e w1 ⟨rfl, rfl⟩)
 go_ret
 exact ⟨rfl, Lib.hid (Below.refl _ _)⟩

end Go.Proofs.YtbcmmecilheicaaGreatDoor

/- eval.two.turned, not; eval.reckon's closure; eval.unary. -/
namespace Go.Proofs.YtbcmmecilheicaaGreatDoor
open Go Go.RowKit

def not2 : Res → Res
 | (_, some e) => (Val.null, some e)
 | (v, none) => notP v
def gtP (a b : Val) : Res := lessP b a
def neP (a b : Val) : Res := not2 (equalP a b)
def geP (a b : Val) : Res := not2 (lessP a b)
def leP (a b : Val) : Res := not2 (gtP a b)

set_option maxRecDepth 20000 in
set_option maxHeartbeats 2000000 in
theorem turned58 (w : World) (a b : Val) : Calls Tryz.prog 116 #[(.func (.func 111) #[] #[]), .agg #[.int .i64 a.kind, .int .i64 a.int, .string a.text, .bool a.bool], .agg #[.int .i64 b.kind, .int .i64 b.int, .string b.text, .bool b.bool]] w fun e w' => e = .returned (resV (gtP a b)) ∧ Hid (Below w.heap.size w w') := by
 have HC := Lib.hid (less53 (((w.alloc (.cells #[.int .i64 a.kind, .int .i64 a.int, .string a.text, .bool a.bool] 26)).alloc (.cells #[.int .i64 b.kind, .int .i64 b.int, .string b.text, .bool b.bool] 26)).alloc (.cells #[.int .i64 0, .int .i64 0, .string ⟨#[]⟩, .bool false] 26)) b a)
 obtain ⟨r, hr⟩ : ∃ r, r = gtP a b := ⟨_, rfl⟩
 rw [show lessP b a = r from hr.symm] at HC
 rw [← hr]
 clear hr
 obtain ⟨⟨rk, ri, rs, rb⟩, re⟩ := r
 go_enter Tryz.func116, Tryz.ntmps116
 go_wp2_with fail
 refine HC.out.mono ?_
 clear HC
 rintro e w1 ⟨rfl, h1⟩
 have zb : Blk w1 (w.heap.size + 1 + 1) 26 #[.int .i64 0, .int .i64 0, .string ⟨#[]⟩, .bool false] := (blk_new' (w := (w.alloc _).alloc _) rfl (by simp)).below h1.out
 have hfz := fun o => zb.frozen o
 have q0 := zb.cell 0
 have q1 := zb.cell 1
 have q2 := zb.cell 2
 have q3 := zb.cell 3
 have hl1 := zb.lt
 have ZB := Lib.hid zb
 have HB := Lib.hid (h1.out).from3
 clear h1 zb
 simp only [resV, Val.cells]
 go_wp2
 refine bodyPost_ret (results_cv (s := 6) (k := 7) rfl rfl rfl (val_set ZB.out _ _ _ _)) rfl ⟨rfl, Lib.hid (by have hb := HB.out; have hs := hb.size; go_grown)⟩

set_option maxRecDepth 20000 in
set_option maxHeartbeats 4000000 in
theorem not57_ne (w : World) (a b : Val) : Calls Tryz.prog 115 #[.func (.func 114) #[] #[], .agg #[.int .i64 a.kind, .int .i64 a.int, .string a.text, .bool a.bool], .agg #[.int .i64 b.kind, .int .i64 b.int, .string b.text, .bool b.bool]] w fun e w' => e = .returned (resV (neP a b)) ∧ Hid (Below w.heap.size w w') := by
 have HC := Lib.hid (equal56 (((w.alloc (.cells #[.int .i64 a.kind, .int .i64 a.int, .string a.text, .bool a.bool] 26)).alloc (.cells #[.int .i64 b.kind, .int .i64 b.int, .string b.text, .bool b.bool] 26)).alloc (.cells #[.int .i64 0, .int .i64 0, .string ⟨#[]⟩, .bool false] 26)) a b)
 obtain ⟨r, hr⟩ : ∃ r, r = equalP a b := ⟨_, rfl⟩
 have e : neP a b = not2 r := by rw [hr]; rfl
 rw [e]
 rw [← hr] at HC
 clear hr e
 obtain ⟨⟨rk, ri, rs, rb⟩, re⟩ := r
 cases re with
 | some er =>
  have e : not2 (⟨rk, ri, rs, rb⟩, some er) = (Val.null, some er) := rfl
  rw [e]
  clear e
  go_enter Tryz.func115, Tryz.ntmps115
  go_wp2_with fail
  refine HC.out.mono ?_
  clear HC
  rintro e w1 ⟨rfl, h1⟩
  simp only [resV, Val.cells, errV]
  go_wp2_with fail
  refine (null34 _).mono ?_
  rintro e w2 ⟨rfl, h2⟩
  have H2 := bt h2.out.from1 h1.out
  have zb : Blk w2 (w.heap.size + 1 + 1) 26 #[.int .i64 0, .int .i64 0, .string ⟨#[]⟩, .bool false] := (blk_new' (w := (w.alloc _).alloc _) rfl (by simp)).below H2
  have hfz := fun o => zb.frozen o
  have q0 := zb.cell 0
  have q1 := zb.cell 1
  have q2 := zb.cell 2
  have q3 := zb.cell 3
  have hl1 := zb.lt
  have ZB := Lib.hid zb
  have HB := Lib.hid (H2).from3
  clear h1 h2 H2 zb
  go_wp2
  refine bodyPost_ret (results_cv (s := 6) (k := 7) rfl rfl rfl (val_set ZB.out _ _ _ _)) rfl ⟨rfl, Lib.hid (by have hb := HB.out; have hs := hb.size; go_grown)⟩
 | none =>
  obtain ⟨r, hr⟩ : ∃ r, r = notP ⟨rk, ri, rs, rb⟩ := ⟨_, rfl⟩
  have e : not2 (⟨rk, ri, rs, rb⟩, none) = r := hr.symm
  rw [e]
  have HN := Lib.hid (show ∀ W, Calls Tryz.prog 110 #[.agg #[.int .i64 rk, .int .i64 ri, .string rs, .bool rb]] W fun e w' => e = .returned (resV r) ∧ Hid (Below W.heap.size W w') from fun W => by rw [hr]; exact not51 W ⟨rk, ri, rs, rb⟩)
  clear e hr
  obtain ⟨⟨sk, si, ss, sb⟩, se⟩ := r
  go_enter Tryz.func115, Tryz.ntmps115
  go_wp2_with fail
  refine HC.out.mono ?_
  clear HC
  rintro e w1 ⟨rfl, h1⟩
  simp only [resV, Val.cells, errV]
  go_wp2_with fail
  refine (HN.out _).mono ?_
  rintro e w2 ⟨rfl, h2⟩
  have H2 := bt h2.out.from1 h1.out
  simp only [resV, Val.cells]
  have zb : Blk w2 (w.heap.size + 1 + 1) 26 #[.int .i64 0, .int .i64 0, .string ⟨#[]⟩, .bool false] := (blk_new' (w := (w.alloc _).alloc _) rfl (by simp)).below H2
  have hfz := fun o => zb.frozen o
  have q0 := zb.cell 0
  have q1 := zb.cell 1
  have q2 := zb.cell 2
  have q3 := zb.cell 3
  have hl1 := zb.lt
  have ZB := Lib.hid zb
  have HB := Lib.hid (H2).from3
  clear h1 h2 H2 zb
  go_wp2
  refine bodyPost_ret (results_cv (s := 6) (k := 7) rfl rfl rfl (val_set ZB.out _ _ _ _)) rfl ⟨rfl, Lib.hid (by have hb := HB.out; have hs := hb.size; go_grown)⟩

set_option maxRecDepth 20000 in
set_option maxHeartbeats 4000000 in
theorem not57_le (w : World) (a b : Val) : Calls Tryz.prog 115 #[.func (.func 116) #[(.func (.func 111) #[] #[])] #[], .agg #[.int .i64 a.kind, .int .i64 a.int, .string a.text, .bool a.bool], .agg #[.int .i64 b.kind, .int .i64 b.int, .string b.text, .bool b.bool]] w fun e w' => e = .returned (resV (leP a b)) ∧ Hid (Below w.heap.size w w') := by
 have HC := Lib.hid (turned58 (((w.alloc (.cells #[.int .i64 a.kind, .int .i64 a.int, .string a.text, .bool a.bool] 26)).alloc (.cells #[.int .i64 b.kind, .int .i64 b.int, .string b.text, .bool b.bool] 26)).alloc (.cells #[.int .i64 0, .int .i64 0, .string ⟨#[]⟩, .bool false] 26)) a b)
 obtain ⟨r, hr⟩ : ∃ r, r = gtP a b := ⟨_, rfl⟩
 have e : leP a b = not2 r := by rw [hr]; rfl
 rw [e]
 rw [← hr] at HC
 clear hr e
 obtain ⟨⟨rk, ri, rs, rb⟩, re⟩ := r
 cases re with
 | some er =>
  have e : not2 (⟨rk, ri, rs, rb⟩, some er) = (Val.null, some er) := rfl
  rw [e]
  clear e
  go_enter Tryz.func115, Tryz.ntmps115
  go_wp2_with fail
  refine HC.out.mono ?_
  clear HC
  rintro e w1 ⟨rfl, h1⟩
  simp only [resV, Val.cells, errV]
  go_wp2_with fail
  refine (null34 _).mono ?_
  rintro e w2 ⟨rfl, h2⟩
  have H2 := bt h2.out.from1 h1.out
  have zb : Blk w2 (w.heap.size + 1 + 1) 26 #[.int .i64 0, .int .i64 0, .string ⟨#[]⟩, .bool false] := (blk_new' (w := (w.alloc _).alloc _) rfl (by simp)).below H2
  have hfz := fun o => zb.frozen o
  have q0 := zb.cell 0
  have q1 := zb.cell 1
  have q2 := zb.cell 2
  have q3 := zb.cell 3
  have hl1 := zb.lt
  have ZB := Lib.hid zb
  have HB := Lib.hid (H2).from3
  clear h1 h2 H2 zb
  go_wp2
  refine bodyPost_ret (results_cv (s := 6) (k := 7) rfl rfl rfl (val_set ZB.out _ _ _ _)) rfl ⟨rfl, Lib.hid (by have hb := HB.out; have hs := hb.size; go_grown)⟩
 | none =>
  obtain ⟨r, hr⟩ : ∃ r, r = notP ⟨rk, ri, rs, rb⟩ := ⟨_, rfl⟩
  have e : not2 (⟨rk, ri, rs, rb⟩, none) = r := hr.symm
  rw [e]
  have HN := Lib.hid (show ∀ W, Calls Tryz.prog 110 #[.agg #[.int .i64 rk, .int .i64 ri, .string rs, .bool rb]] W fun e w' => e = .returned (resV r) ∧ Hid (Below W.heap.size W w') from fun W => by rw [hr]; exact not51 W ⟨rk, ri, rs, rb⟩)
  clear e hr
  obtain ⟨⟨sk, si, ss, sb⟩, se⟩ := r
  go_enter Tryz.func115, Tryz.ntmps115
  go_wp2_with fail
  refine HC.out.mono ?_
  clear HC
  rintro e w1 ⟨rfl, h1⟩
  simp only [resV, Val.cells, errV]
  go_wp2_with fail
  refine (HN.out _).mono ?_
  rintro e w2 ⟨rfl, h2⟩
  have H2 := bt h2.out.from1 h1.out
  simp only [resV, Val.cells]
  have zb : Blk w2 (w.heap.size + 1 + 1) 26 #[.int .i64 0, .int .i64 0, .string ⟨#[]⟩, .bool false] := (blk_new' (w := (w.alloc _).alloc _) rfl (by simp)).below H2
  have hfz := fun o => zb.frozen o
  have q0 := zb.cell 0
  have q1 := zb.cell 1
  have q2 := zb.cell 2
  have q3 := zb.cell 3
  have hl1 := zb.lt
  have ZB := Lib.hid zb
  have HB := Lib.hid (H2).from3
  clear h1 h2 H2 zb
  go_wp2
  refine bodyPost_ret (results_cv (s := 6) (k := 7) rfl rfl rfl (val_set ZB.out _ _ _ _)) rfl ⟨rfl, Lib.hid (by have hb := HB.out; have hs := hb.size; go_grown)⟩

set_option maxRecDepth 20000 in
set_option maxHeartbeats 4000000 in
theorem not57_ge (w : World) (a b : Val) : Calls Tryz.prog 115 #[.func (.func 111) #[] #[], .agg #[.int .i64 a.kind, .int .i64 a.int, .string a.text, .bool a.bool], .agg #[.int .i64 b.kind, .int .i64 b.int, .string b.text, .bool b.bool]] w fun e w' => e = .returned (resV (geP a b)) ∧ Hid (Below w.heap.size w w') := by
 have HC := Lib.hid (less53 (((w.alloc (.cells #[.int .i64 a.kind, .int .i64 a.int, .string a.text, .bool a.bool] 26)).alloc (.cells #[.int .i64 b.kind, .int .i64 b.int, .string b.text, .bool b.bool] 26)).alloc (.cells #[.int .i64 0, .int .i64 0, .string ⟨#[]⟩, .bool false] 26)) a b)
 obtain ⟨r, hr⟩ : ∃ r, r = lessP a b := ⟨_, rfl⟩
 have e : geP a b = not2 r := by rw [hr]; rfl
 rw [e]
 rw [← hr] at HC
 clear hr e
 obtain ⟨⟨rk, ri, rs, rb⟩, re⟩ := r
 cases re with
 | some er =>
  have e : not2 (⟨rk, ri, rs, rb⟩, some er) = (Val.null, some er) := rfl
  rw [e]
  clear e
  go_enter Tryz.func115, Tryz.ntmps115
  go_wp2_with fail
  refine HC.out.mono ?_
  clear HC
  rintro e w1 ⟨rfl, h1⟩
  simp only [resV, Val.cells, errV]
  go_wp2_with fail
  refine (null34 _).mono ?_
  rintro e w2 ⟨rfl, h2⟩
  have H2 := bt h2.out.from1 h1.out
  have zb : Blk w2 (w.heap.size + 1 + 1) 26 #[.int .i64 0, .int .i64 0, .string ⟨#[]⟩, .bool false] := (blk_new' (w := (w.alloc _).alloc _) rfl (by simp)).below H2
  have hfz := fun o => zb.frozen o
  have q0 := zb.cell 0
  have q1 := zb.cell 1
  have q2 := zb.cell 2
  have q3 := zb.cell 3
  have hl1 := zb.lt
  have ZB := Lib.hid zb
  have HB := Lib.hid (H2).from3
  clear h1 h2 H2 zb
  go_wp2
  refine bodyPost_ret (results_cv (s := 6) (k := 7) rfl rfl rfl (val_set ZB.out _ _ _ _)) rfl ⟨rfl, Lib.hid (by have hb := HB.out; have hs := hb.size; go_grown)⟩
 | none =>
  obtain ⟨r, hr⟩ : ∃ r, r = notP ⟨rk, ri, rs, rb⟩ := ⟨_, rfl⟩
  have e : not2 (⟨rk, ri, rs, rb⟩, none) = r := hr.symm
  rw [e]
  have HN := Lib.hid (show ∀ W, Calls Tryz.prog 110 #[.agg #[.int .i64 rk, .int .i64 ri, .string rs, .bool rb]] W fun e w' => e = .returned (resV r) ∧ Hid (Below W.heap.size W w') from fun W => by rw [hr]; exact not51 W ⟨rk, ri, rs, rb⟩)
  clear e hr
  obtain ⟨⟨sk, si, ss, sb⟩, se⟩ := r
  go_enter Tryz.func115, Tryz.ntmps115
  go_wp2_with fail
  refine HC.out.mono ?_
  clear HC
  rintro e w1 ⟨rfl, h1⟩
  simp only [resV, Val.cells, errV]
  go_wp2_with fail
  refine (HN.out _).mono ?_
  rintro e w2 ⟨rfl, h2⟩
  have H2 := bt h2.out.from1 h1.out
  simp only [resV, Val.cells]
  have zb : Blk w2 (w.heap.size + 1 + 1) 26 #[.int .i64 0, .int .i64 0, .string ⟨#[]⟩, .bool false] := (blk_new' (w := (w.alloc _).alloc _) rfl (by simp)).below H2
  have hfz := fun o => zb.frozen o
  have q0 := zb.cell 0
  have q1 := zb.cell 1
  have q2 := zb.cell 2
  have q3 := zb.cell 3
  have hl1 := zb.lt
  have ZB := Lib.hid zb
  have HB := Lib.hid (H2).from3
  clear h1 h2 H2 zb
  go_wp2
  refine bodyPost_ret (results_cv (s := 6) (k := 7) rfl rfl rfl (val_set ZB.out _ _ _ _)) rfl ⟨rfl, Lib.hid (by have hb := HB.out; have hs := hb.size; go_grown)⟩

set_option maxRecDepth 20000 in
set_option maxHeartbeats 4000000 in
theorem clo78 (w : World) (g : Nat) (op : Int) (hop : op = 43 ∨ op = 45 ∨ op = 42 ∨ op = 47 ∨ op = 37) (hg : w.cell? ⟨g, 0, none⟩ = some (.int .u8 op)) (a b : Val) : Calls Tryz.prog 157 #[.agg #[.int .i64 a.kind, .int .i64 a.int, .string a.text, .bool a.bool], .agg #[.int .i64 b.kind, .int .i64 b.int, .string b.text, .bool b.bool], .pointer (some ⟨g, 0, none⟩)] w fun e w' => e = .returned (resV (reckonP op a b)) ∧ Hid (Below w.heap.size w w') := by
 have HC := Lib.hid (reckon49 (((w.alloc (.cells #[.int .i64 a.kind, .int .i64 a.int, .string a.text, .bool a.bool] 26)).alloc (.cells #[.int .i64 b.kind, .int .i64 b.int, .string b.text, .bool b.bool] 26)).alloc (.cells #[.int .i64 0, .int .i64 0, .string ⟨#[]⟩, .bool false] 26)) op hop a b)
 obtain ⟨r, hr⟩ : ∃ r, r = reckonP op a b := ⟨_, rfl⟩
 rw [← hr] at HC
 rw [← hr]
 have hgl : g < w.heap.size := World.block_lt_of_cell? _ _ hg
 have hgl1 : g < w.heap.size + 1 := by omega
 have hgl2 : g < w.heap.size + 1 + 1 := by omega
 clear hr hop
 obtain ⟨⟨rk, ri, rs, rb⟩, re⟩ := r
 go_enter Tryz.func157, Tryz.ntmps157
 go_wp2_with fail
 refine HC.out.mono ?_
 clear HC
 rintro e w1 ⟨rfl, h1⟩
 have zb : Blk w1 (w.heap.size + 1 + 1) 26 #[.int .i64 0, .int .i64 0, .string ⟨#[]⟩, .bool false] := (blk_new' (w := (w.alloc _).alloc _) rfl (by simp)).below h1.out
 have hfz := fun o => zb.frozen o
 have q0 := zb.cell 0
 have q1 := zb.cell 1
 have q2 := zb.cell 2
 have q3 := zb.cell 3
 have hl1 := zb.lt
 have ZB := Lib.hid zb
 have HB := Lib.hid (h1.out).from3
 clear h1 zb hg hgl hgl1 hgl2
 simp only [resV, Val.cells]
 go_wp2
 refine bodyPost_ret (results_cv (s := 5) (k := 6) rfl rfl rfl (val_set ZB.out _ _ _ _)) rfl ⟨rfl, Lib.hid (by have hb := HB.out; have hs := hb.size; go_grown)⟩

/-- what comes of one Arg -/
noncomputable def unaryP (op : ByteArray) (v : Val) : Res :=
 if op.toList = [110, 101, 103] then reckonP 45 (Val.ofInt 0) v else if op.toList = [110, 111, 116] then notP v
 else if op.toList = [105, 115, 110, 117, 108, 108] then (Val.ofBool (decide (v.kind = 0)), none) else (Val.ofBool (!decide (v.kind = 0)), none)

set_option maxRecDepth 20000 in
set_option maxHeartbeats 4000000 in
theorem un38_not (w : World) (a : Val) : Calls Tryz.prog 84 #[.string ⟨#[110, 111, 116]⟩, .agg #[.int .i64 a.kind, .int .i64 a.int, .string a.text, .bool a.bool]] w fun e w' => e = .returned (resV (notP a)) ∧ Hid (Below w.heap.size w w') := by
 have HC := Lib.hid (not51 ((w.alloc (.cells #[.int .i64 a.kind, .int .i64 a.int, .string a.text, .bool a.bool] 26)).alloc (.cells #[.int .i64 0, .int .i64 0, .string ⟨#[]⟩, .bool false] 26)) a)
 obtain ⟨r, hr⟩ : ∃ r, r = notP a := ⟨_, rfl⟩
 rw [← hr] at HC
 rw [← hr]
 clear hr
 obtain ⟨⟨rk, ri, rs, rb⟩, re⟩ := r
 go_enter Tryz.func84, Tryz.ntmps84
 go_wp2_with fail
 refine HC.out.mono ?_
 clear HC
 rintro e w1 ⟨rfl, h1⟩
 have zb : Blk w1 (w.heap.size + 1) 26 #[.int .i64 0, .int .i64 0, .string ⟨#[]⟩, .bool false] := (blk_new' (w := w.alloc _) rfl (by simp)).below h1.out
 have hfz := fun o => zb.frozen o
 have q0 := zb.cell 0
 have q1 := zb.cell 1
 have q2 := zb.cell 2
 have q3 := zb.cell 3
 have hl1 := zb.lt
 have ZB := Lib.hid zb
 have HB := Lib.hid (h1.out).from2
 clear h1 zb
 simp only [resV, Val.cells]
 go_wp2
 refine bodyPost_ret (results_cv (s := 4) (k := 5) rfl rfl rfl (val_set ZB.out _ _ _ _)) rfl ⟨rfl, Lib.hid (by have hb := HB.out; have hs := hb.size; go_grown)⟩

set_option maxRecDepth 20000 in
set_option maxHeartbeats 4000000 in
theorem un38_isnull (w : World) (a : Val) : Calls Tryz.prog 84 #[.string ⟨#[105, 115, 110, 117, 108, 108]⟩, .agg #[.int .i64 a.kind, .int .i64 a.int, .string a.text, .bool a.bool]] w fun e w' => e = .returned (resV (Val.ofBool (decide (a.kind = 0)), none)) ∧ Hid (Below w.heap.size w w') := by
 obtain ⟨bb, hbb⟩ : ∃ bb, bb = (a.kind == 0) := ⟨_, rfl⟩
 have e : (decide (a.kind = 0)) = bb := by rw [hbb]; by_cases h : a.kind = 0 <;> simp [h]
 rw [e]
 have hb2 := hbb.symm
 have HBB := Lib.hid hbb
 clear e hbb
 go_enter Tryz.func84, Tryz.ntmps84
 go_wp2_with fail
 refine (bool52 _ _).mono ?_
 rintro e w1 ⟨rfl, h1⟩
 have zb : Blk w1 (w.heap.size + 1) 26 #[.int .i64 0, .int .i64 0, .string ⟨#[]⟩, .bool false] := (blk_new' (w := w.alloc _) rfl (by simp)).below h1.out
 have hfz := fun o => zb.frozen o
 have q0 := zb.cell 0
 have q1 := zb.cell 1
 have q2 := zb.cell 2
 have q3 := zb.cell 3
 have hl1 := zb.lt
 have ZB := Lib.hid zb
 have HB := Lib.hid (h1.out).from2
 clear h1 zb
 go_wp2
 refine bodyPost_ret (results_cv (s := 4) (k := 5) rfl rfl rfl (val_set ZB.out _ _ _ _)) rfl ⟨rfl, Lib.hid (by have hb := HB.out; have hs := hb.size; go_grown)⟩

set_option maxRecDepth 20000 in
set_option maxHeartbeats 4000000 in
theorem un38_notnull (w : World) (a : Val) : Calls Tryz.prog 84 #[.string ⟨#[110, 111, 116, 110, 117, 108, 108]⟩, .agg #[.int .i64 a.kind, .int .i64 a.int, .string a.text, .bool a.bool]] w fun e w' => e = .returned (resV (Val.ofBool (!decide (a.kind = 0)), none)) ∧ Hid (Below w.heap.size w w') := by
 obtain ⟨bb, hbb⟩ : ∃ bb, bb = (a.kind != 0) := ⟨_, rfl⟩
 have e : (!decide (a.kind = 0)) = bb := by rw [hbb]; by_cases h : a.kind = 0 <;> simp [h]
 rw [e]
 have hb2 := hbb.symm
 have HBB := Lib.hid hbb
 clear e hbb
 go_enter Tryz.func84, Tryz.ntmps84
 go_wp2_with fail
 refine (bool52 _ _).mono ?_
 rintro e w1 ⟨rfl, h1⟩
 have zb : Blk w1 (w.heap.size + 1) 26 #[.int .i64 0, .int .i64 0, .string ⟨#[]⟩, .bool false] := (blk_new' (w := w.alloc _) rfl (by simp)).below h1.out
 have hfz := fun o => zb.frozen o
 have q0 := zb.cell 0
 have q1 := zb.cell 1
 have q2 := zb.cell 2
 have q3 := zb.cell 3
 have hl1 := zb.lt
 have ZB := Lib.hid zb
 have HB := Lib.hid (h1.out).from2
 clear h1 zb
 go_wp2
 refine bodyPost_ret (results_cv (s := 4) (k := 5) rfl rfl rfl (val_set ZB.out _ _ _ _)) rfl ⟨rfl, Lib.hid (by have hb := HB.out; have hs := hb.size; go_grown)⟩

set_option maxRecDepth 20000 in
set_option maxHeartbeats 4000000 in
theorem un38_neg (w : World) (a : Val) : Calls Tryz.prog 84 #[.string ⟨#[110, 101, 103]⟩, .agg #[.int .i64 a.kind, .int .i64 a.int, .string a.text, .bool a.bool]] w fun e w' => e = .returned (resV (reckonP 45 (Val.ofInt 0) a)) ∧ Hid (Below w.heap.size w w') := by
 have HR := Lib.hid (fun W => reckon49 W 45 (by omega) (Val.ofInt 0) a)
 obtain ⟨r, hr⟩ : ∃ r, r = reckonP 45 (Val.ofInt 0) a := ⟨_, rfl⟩
 rw [← hr] at HR
 rw [← hr]
 clear hr
 obtain ⟨⟨rk, ri, rs, rb⟩, re⟩ := r
 simp only [Val.ofInt] at HR
 go_enter Tryz.func84, Tryz.ntmps84
 go_wp2_with fail
 obtain ⟨W, hW⟩ : ∃ W, W = (w.alloc (.cells #[.int .i64 a.kind, .int .i64 a.int, .string a.text, .bool a.bool] 26)).alloc (.cells #[.int .i64 0, .int .i64 0, .string ⟨#[]⟩, .bool false] 26) := ⟨_, rfl⟩
 have za : Blk W w.heap.size 26 #[.int .i64 a.kind, .int .i64 a.int, .string a.text, .bool a.bool] := by rw [hW]; exact (blk_new' (w := w) rfl rfl).alloc _
 have zr : Blk W (w.heap.size + 1) 26 #[.int .i64 0, .int .i64 0, .string ⟨#[]⟩, .bool false] := by rw [hW]; exact blk_new' (w := w.alloc _) rfl (by simp)
 have bW : Below w.heap.size w W := by rw [hW]; exact (below_alloc _ _).trans ((below_alloc _ _).mono (by simp))
 have ZA := Lib.hid za
 have ZR := Lib.hid zr
 have BW := Lib.hid bW
 rw [← hW]
 clear za zr bW hW
 have hb := below_drew W
 have hs3 := hb.size
 have KC := Lib.hid (fun (W' : World) (h : Below W.heap.size W W') => val_at ZA.out h)
 go_region_held3 (fun W' : World => (W'.cell? ⟨w.heap.size, 0, none⟩ = some (.int .i64 a.kind) ∧ W'.cell? ⟨w.heap.size, 1, none⟩ = some (.int .i64 a.int) ∧ W'.cell? ⟨w.heap.size, 2, none⟩ = some (.string a.text) ∧ W'.cell? ⟨w.heap.size, 3, none⟩ = some (.bool a.bool)))
  ((first | (refine KC.out _ ?_; go_grown; done) | (have q := KC.out _ hb3; simpa [World.cell?_setCell_far] using q)))
  (first
   | (go_at_call 109; refine (int50 _ _).mono ?_; rintro e w2 ⟨rfl, h2⟩; have hb2 := bt h2.out (show Below W.heap.size W _ by go_grown); have hs2 := hb2.size)
   | (go_at_call 108; refine (HR.out _).mono ?_; rintro e w3 ⟨rfl, h3⟩; simp only [resV, Val.cells]; have hb3 := bt h3.out hb2; have hs4 := hb3.size; have zb := ZR.out.below hb3; have hfz := fun o => zb.frozen o; have q0 := zb.cell 0; have q1 := zb.cell 1; have q2 := zb.cell 2; have q3 := zb.cell 3))
 have HB := Lib.hid (bt hb3 BW.out)
 have ZB := Lib.hid zb
 go_wp2_with fail
 refine bodyPost_ret (results_cv (s := 4) (k := 5) rfl rfl rfl (val_set ZB.out _ _ _ _)) rfl ⟨rfl, Lib.hid (by have hb := HB.out; have hs := hb.size; have hl := BW.out.size; go_grown)⟩

end Go.Proofs.YtbcmmecilheicaaGreatDoor
