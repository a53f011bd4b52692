/- scope.of: a literal, a column, a label. scope.of: every expression; eval.Of. -/
import Derived.Test.YtbcmmecilheicaaGreatDoorEvCE
import Derived.Test.YtbcmmecilheicaaGreatDoorEvFG
import Derived.Laws.Strings

/- scope.of: a literal, a column, a label. -/
namespace Go.Proofs.YtbcmmecilheicaaGreatDoor
open Go Go.RowKit

set_option maxRecDepth 100000 in
set_option maxHeartbeats 2000000 in
theorem of_lit (W : World) (at_ : Int) (VA : Option Addr) (vn vc : Nat) (LA : Option Addr) (ln lc : Nat) (kind col : Int) (v : Val) (A : Option Addr) (n c : Nat) :
  Calls Tryz.prog 42 #[.agg #[.int .i64 at_, .slice VA vn vc, .slice LA ln lc], .agg #[.string ⟨#[108, 105, 116]⟩, .int .i64 kind, .int .i64 col, .int .i64 v.kind, .int .i64 v.int, .string v.text, .bool v.bool, .slice A n c]] W fun e w' => e = .returned (resV (v, none)) ∧ Hid (Below W.heap.size W w') := by
 go_enter Tryz.func42, Tryz.ntmps42
 go_wp2
 go_returns
 exact ⟨rfl, Lib.hid (bt (below_alloc _ _) (bt (below_alloc _ _) (below_alloc _ _)))⟩

set_option maxRecDepth 100000 in
set_option maxHeartbeats 2000000 in
theorem of_col_err (W : World) (at_ : Int) (VA : Option Addr) (vn vc : Nat) (LA : Option Addr) (ln lc : Nat) (kind col : Int) (v : Val) (A : Option Addr) (n c : Nat) (h : col < 0 ∨ (vn : Int) ≤ col) :
  Calls Tryz.prog 42 #[.agg #[.int .i64 at_, .slice VA vn vc, .slice LA ln lc], .agg #[.string ⟨#[99, 111, 108]⟩, .int .i64 kind, .int .i64 col, .int .i64 v.kind, .int .i64 v.int, .string v.text, .bool v.bool, .slice A n c]] W fun e w' => e = .returned (resV (Val.null, some 1)) ∧ Hid (Below W.heap.size W w') := by
 by_cases h0 : col < 0
 ·clear h
  go_enter Tryz.func42, Tryz.ntmps42
  go_wp2_with fail
  refine (null34 _).mono ?_
  rintro e w3 ⟨rfl, h3⟩
  have zb := (blk_new' (w := (W.alloc _).alloc _) rfl (by simp) : Blk _ (W.heap.size + 1 + 1) 26 _).below h3.out
  have hfz := fun o => zb.frozen o
  have q0 := zb.cell 0
  have q1 := zb.cell 1
  have q2 := zb.cell 2
  have q3 := zb.cell 3
  have hl1 := zb.lt
  have ZB := Lib.hid zb
  have HB := Lib.hid h3.out.from3
  clear zb h3
  go_wp2
  refine bodyPost_ret (results_cv (s := 4) (k := 5) rfl rfl rfl (val_set ZB.out _ _ _ _)) rfl ⟨rfl, Lib.hid (by have hb := HB.out; have hs := hb.size; go_grown)⟩
 ·have h1 : (vn : Int) ≤ col := by omega
  clear h
  go_enter Tryz.func42, Tryz.ntmps42
  go_wp2_with fail
  refine (null34 _).mono ?_
  rintro e w3 ⟨rfl, h3⟩
  have zb := (blk_new' (w := (W.alloc _).alloc _) rfl (by simp) : Blk _ (W.heap.size + 1 + 1) 26 _).below h3.out
  have hfz := fun o => zb.frozen o
  have q0 := zb.cell 0
  have q1 := zb.cell 1
  have q2 := zb.cell 2
  have q3 := zb.cell 3
  have hl1 := zb.lt
  have ZB := Lib.hid zb
  have HB := Lib.hid h3.out.from3
  clear zb h3
  go_wp2
  refine bodyPost_ret (results_cv (s := 4) (k := 5) rfl rfl rfl (val_set ZB.out _ _ _ _)) rfl ⟨rfl, Lib.hid (by have hb := HB.out; have hs := hb.size; go_grown)⟩

set_option maxRecDepth 100000 in
set_option maxHeartbeats 2000000 in
theorem of_col (W : World) (at_ : Int) (b off vn vc : Nat) (LA : Option Addr) (ln lc : Nat) (kind : Int) (i : Nat) (v : Val) (A : Option Addr) (n c : Nat) (hi : i < vn) (u : Val) (hb : b < W.heap.size) (hu : ValC W b (off + i * 4) u) :
  Calls Tryz.prog 42 #[.agg #[.int .i64 at_, .slice (some ⟨b, off, none⟩) vn vc, .slice LA ln lc], .agg #[.string ⟨#[99, 111, 108]⟩, .int .i64 kind, .int .i64 i, .int .i64 v.kind, .int .i64 v.int, .string v.text, .bool v.bool, .slice A n c]] W fun e w' => e = .returned (resV (u, none)) ∧ Hid (Below W.heap.size W w') := by
 obtain ⟨c0, c1, c2, c3⟩ := hu
 have hiz : (i : Int) < (vn : Int) := by omega
 have hi0 : (0 : Int) ≤ (i : Int) := by omega
 have hn0 : ¬ (i : Int) < 0 := by omega
 have hn1 : ¬ (vn : Int) ≤ (i : Int) := by omega
 have hb1 : b < W.heap.size + 1 := by omega
 have hb2 : b < W.heap.size + 1 + 1 := by omega
 go_enter Tryz.func42, Tryz.ntmps42
 go_wp2
 go_returns
 exact ⟨rfl, Lib.hid (bt (below_alloc _ _) (bt (below_alloc _ _) (below_alloc _ _)))⟩

set_option maxRecDepth 100000 in
set_option maxHeartbeats 2000000 in
theorem of_label_err (W : World) (at_ : Int) (VA : Option Addr) (vn vc : Nat) (LA : Option Addr) (ln lc : Nat) (kind col : Int) (v : Val) (A : Option Addr) (n c : Nat) (h : at_ < 0 ∨ (ln : Int) ≤ at_) :
  Calls Tryz.prog 42 #[.agg #[.int .i64 at_, .slice VA vn vc, .slice LA ln lc], .agg #[.string ⟨#[108, 97, 98, 101, 108]⟩, .int .i64 kind, .int .i64 col, .int .i64 v.kind, .int .i64 v.int, .string v.text, .bool v.bool, .slice A n c]] W fun e w' => e = .returned (resV (Val.null, some 1)) ∧ Hid (Below W.heap.size W w') := by
 by_cases h0 : at_ < 0
 ·clear h
  go_enter Tryz.func42, Tryz.ntmps42
  go_wp2_with fail
  refine (null34 _).mono ?_
  rintro e w3 ⟨rfl, h3⟩
  have zb := (blk_new' (w := (W.alloc _).alloc _) rfl (by simp) : Blk _ (W.heap.size + 1 + 1) 26 _).below h3.out
  have hfz := fun o => zb.frozen o
  have q0 := zb.cell 0
  have q1 := zb.cell 1
  have q2 := zb.cell 2
  have q3 := zb.cell 3
  have hl1 := zb.lt
  have ZB := Lib.hid zb
  have HB := Lib.hid h3.out.from3
  clear zb h3
  go_wp2
  refine bodyPost_ret (results_cv (s := 4) (k := 5) rfl rfl rfl (val_set ZB.out _ _ _ _)) rfl ⟨rfl, Lib.hid (by have hb := HB.out; have hs := hb.size; go_grown)⟩
 ·have h1 : (ln : Int) ≤ at_ := by omega
  clear h
  go_enter Tryz.func42, Tryz.ntmps42
  go_wp2_with fail
  refine (null34 _).mono ?_
  rintro e w3 ⟨rfl, h3⟩
  have zb := (blk_new' (w := (W.alloc _).alloc _) rfl (by simp) : Blk _ (W.heap.size + 1 + 1) 26 _).below h3.out
  have hfz := fun o => zb.frozen o
  have q0 := zb.cell 0
  have q1 := zb.cell 1
  have q2 := zb.cell 2
  have q3 := zb.cell 3
  have hl1 := zb.lt
  have ZB := Lib.hid zb
  have HB := Lib.hid h3.out.from3
  clear zb h3
  go_wp2
  refine bodyPost_ret (results_cv (s := 4) (k := 5) rfl rfl rfl (val_set ZB.out _ _ _ _)) rfl ⟨rfl, Lib.hid (by have hb := HB.out; have hs := hb.size; go_grown)⟩

set_option maxRecDepth 100000 in
set_option maxHeartbeats 2000000 in
theorem of_label (W : World) (i : Nat) (VA : Option Addr) (vn vc b off ln lc : Nat) (kind col : Int) (v : Val) (A : Option Addr) (n c : Nat) (hi : i < ln) (z : ByteArray) (hb : b < W.heap.size) (hu : W.cell? ⟨b, off + i, none⟩ = some (.string z)) :
  Calls Tryz.prog 42 #[.agg #[.int .i64 i, .slice VA vn vc, .slice (some ⟨b, off, none⟩) ln lc], .agg #[.string ⟨#[108, 97, 98, 101, 108]⟩, .int .i64 kind, .int .i64 col, .int .i64 v.kind, .int .i64 v.int, .string v.text, .bool v.bool, .slice A n c]] W fun e w' => e = .returned (resV (Val.ofText z, none)) ∧ Hid (Below W.heap.size W w') := by
 have hiz : (i : Int) < (ln : Int) := by omega
 have hi0 : (0 : Int) ≤ (i : Int) := by omega
 have hn0 : ¬ (i : Int) < 0 := by omega
 have hn1 : ¬ (ln : Int) ≤ (i : Int) := by omega
 have hb1 : b < W.heap.size + 1 := by omega
 have hb2 : b < W.heap.size + 1 + 1 := by omega
 go_enter Tryz.func42, Tryz.ntmps42
 go_wp2_with fail
 refine (text35 _ _).mono ?_
 rintro e w3 ⟨rfl, h3⟩
 have zb := (blk_new' (w := (W.alloc _).alloc _) rfl (by simp) : Blk _ (W.heap.size + 1 + 1) 26 _).below h3.out
 have hfz := fun o => zb.frozen o
 have q0 := zb.cell 0
 have q1 := zb.cell 1
 have q2 := zb.cell 2
 have q3 := zb.cell 3
 have hl1 := zb.lt
 have ZB := Lib.hid zb
 have HB := Lib.hid h3.out.from3
 clear zb h3 hu
 go_wp2
 refine bodyPost_ret (results_cv (s := 4) (k := 5) rfl rfl rfl (val_set ZB.out _ _ _ _)) rfl ⟨rfl, Lib.hid (by have hb := HB.out; have hs := hb.size; go_grown)⟩

end Go.Proofs.YtbcmmecilheicaaGreatDoor

/- scope.of: every expression; eval.Of. -/
namespace Go.Proofs.YtbcmmecilheicaaGreatDoor
open Go Go.RowKit

theorem bytes_lit {op : ByteArray} {l : List UInt8} (h : op.toList = l) : op = ⟨l.toArray⟩ := by
 rw [ByteArray.toList_eq] at h
 obtain ⟨d⟩ := op
 simp only at h
 rw [← h]
theorem beq_no {l m : List UInt8} (h : ¬ l = m) : (l == m) = false := by simpa using h
theorem unP_neg (a : Val) : unaryP ⟨#[110, 101, 103]⟩ a = reckonP 45 (Val.ofInt 0) a := by
 have h : ((⟨#[110, 101, 103]⟩ : ByteArray)).toList = [110, 101, 103] := by kernel_rfl
 simp [unaryP, h]
theorem unP_not (a : Val) : unaryP ⟨#[110, 111, 116]⟩ a = notP a := by
 have h : ((⟨#[110, 111, 116]⟩ : ByteArray)).toList = [110, 111, 116] := by kernel_rfl
 simp [unaryP, h]
theorem unP_isnull (a : Val) : unaryP ⟨#[105, 115, 110, 117, 108, 108]⟩ a = (Val.ofBool (decide (a.kind = 0)), none) := by
 have h : ((⟨#[105, 115, 110, 117, 108, 108]⟩ : ByteArray)).toList = [105, 115, 110, 117, 108, 108] := by kernel_rfl
 simp [unaryP, h]
theorem unP_notnull (a : Val) : unaryP ⟨#[110, 111, 116, 110, 117, 108, 108]⟩ a = (Val.ofBool (!decide (a.kind = 0)), none) := by
 have h : ((⟨#[110, 111, 116, 110, 117, 108, 108]⟩ : ByteArray)).toList = [110, 111, 116, 110, 117, 108, 108] := by kernel_rfl
 simp [unaryP, h]
theorem biP_and (a b : Val) : binP ⟨#[97, 110, 100]⟩ a b = andP a b := by
 have h : ((⟨#[97, 110, 100]⟩ : ByteArray)).toList = [97, 110, 100] := by kernel_rfl
 simp [binP, h]
theorem biP_or (a b : Val) : binP ⟨#[111, 114]⟩ a b = orP a b := by
 have h : ((⟨#[111, 114]⟩ : ByteArray)).toList = [111, 114] := by kernel_rfl
 simp [binP, h]
theorem biP_eq (a b : Val) : binP ⟨#[61]⟩ a b = equalP a b := by
 have h : ((⟨#[61]⟩ : ByteArray)).toList = [61] := by kernel_rfl
 simp [binP, h]
theorem biP_ne (a b : Val) : binP ⟨#[60, 62]⟩ a b = neP a b := by
 have h : ((⟨#[60, 62]⟩ : ByteArray)).toList = [60, 62] := by kernel_rfl
 simp [binP, h]
theorem biP_lt (a b : Val) : binP ⟨#[60]⟩ a b = lessP a b := by
 have h : ((⟨#[60]⟩ : ByteArray)).toList = [60] := by kernel_rfl
 simp [binP, h]
theorem biP_gt (a b : Val) : binP ⟨#[62]⟩ a b = gtP a b := by
 have h : ((⟨#[62]⟩ : ByteArray)).toList = [62] := by kernel_rfl
 simp [binP, h]
theorem biP_le (a b : Val) : binP ⟨#[60, 61]⟩ a b = leP a b := by
 have h : ((⟨#[60, 61]⟩ : ByteArray)).toList = [60, 61] := by kernel_rfl
 simp [binP, h]
theorem biP_ge (a b : Val) : binP ⟨#[62, 61]⟩ a b = geP a b := by
 have h : ((⟨#[62, 61]⟩ : ByteArray)).toList = [62, 61] := by kernel_rfl
 simp [binP, h]
theorem biP_cat (a b : Val) : binP ⟨#[124, 124]⟩ a b = joinP a b := by
 have h : ((⟨#[124, 124]⟩ : ByteArray)).toList = [124, 124] := by kernel_rfl
 simp [binP, h]
theorem biP_add (a b : Val) : binP ⟨#[43]⟩ a b = reckonP 43 a b := by
 have h : ((⟨#[43]⟩ : ByteArray)).toList = [43] := by kernel_rfl
 simp [binP, h]
theorem biP_sub (a b : Val) : binP ⟨#[45]⟩ a b = reckonP 45 a b := by
 have h : ((⟨#[45]⟩ : ByteArray)).toList = [45] := by kernel_rfl
 simp [binP, h]
theorem biP_mul (a b : Val) : binP ⟨#[42]⟩ a b = reckonP 42 a b := by
 have h : ((⟨#[42]⟩ : ByteArray)).toList = [42] := by kernel_rfl
 simp [binP, h]
theorem biP_div (a b : Val) : binP ⟨#[47]⟩ a b = reckonP 47 a b := by
 have h : ((⟨#[47]⟩ : ByteArray)).toList = [47] := by kernel_rfl
 simp [binP, h]
theorem biP_rem (a b : Val) : binP ⟨#[37]⟩ a b = reckonP 37 a b := by
 have h : ((⟨#[37]⟩ : ByteArray)).toList = [37] := by kernel_rfl
 simp [binP, h]
theorem evo_neg (E : Env) (col : Int) (v : Val) (n : Nat) (R : List Val × Option Int) : evalOp E ⟨#[110, 101, 103]⟩ col v n R = if n = 1 then unTail ⟨#[110, 101, 103]⟩ R else (Val.null, some 40) := by
 have h : ((⟨#[110, 101, 103]⟩ : ByteArray)).toList = [110, 101, 103] := by kernel_rfl
 rcases R with ⟨l, er⟩
 by_cases hn : n = 1
 ·subst hn
  cases er <;> simp [evalOp, opK, h, unTail]
 ·have hz : ¬ (1 : Int) = (n : Int) := by omega
  have hz2 : ¬ (n : Int) = 1 := by omega
  simp [evalOp, opK, h, hn, hz]
theorem evo_not (E : Env) (col : Int) (v : Val) (n : Nat) (R : List Val × Option Int) : evalOp E ⟨#[110, 111, 116]⟩ col v n R = if n = 1 then unTail ⟨#[110, 111, 116]⟩ R else (Val.null, some 40) := by
 have h : ((⟨#[110, 111, 116]⟩ : ByteArray)).toList = [110, 111, 116] := by kernel_rfl
 rcases R with ⟨l, er⟩
 by_cases hn : n = 1
 ·subst hn
  cases er <;> simp [evalOp, opK, h, unTail]
 ·have hz : ¬ (1 : Int) = (n : Int) := by omega
  have hz2 : ¬ (n : Int) = 1 := by omega
  simp [evalOp, opK, h, hn, hz]
theorem evo_isnull (E : Env) (col : Int) (v : Val) (n : Nat) (R : List Val × Option Int) : evalOp E ⟨#[105, 115, 110, 117, 108, 108]⟩ col v n R = if n = 1 then unTail ⟨#[105, 115, 110, 117, 108, 108]⟩ R else (Val.null, some 40) := by
 have h : ((⟨#[105, 115, 110, 117, 108, 108]⟩ : ByteArray)).toList = [105, 115, 110, 117, 108, 108] := by kernel_rfl
 rcases R with ⟨l, er⟩
 by_cases hn : n = 1
 ·subst hn
  cases er <;> simp [evalOp, opK, h, unTail]
 ·have hz : ¬ (1 : Int) = (n : Int) := by omega
  have hz2 : ¬ (n : Int) = 1 := by omega
  simp [evalOp, opK, h, hn, hz]
theorem evo_notnull (E : Env) (col : Int) (v : Val) (n : Nat) (R : List Val × Option Int) : evalOp E ⟨#[110, 111, 116, 110, 117, 108, 108]⟩ col v n R = if n = 1 then unTail ⟨#[110, 111, 116, 110, 117, 108, 108]⟩ R else (Val.null, some 40) := by
 have h : ((⟨#[110, 111, 116, 110, 117, 108, 108]⟩ : ByteArray)).toList = [110, 111, 116, 110, 117, 108, 108] := by kernel_rfl
 rcases R with ⟨l, er⟩
 by_cases hn : n = 1
 ·subst hn
  cases er <;> simp [evalOp, opK, h, unTail]
 ·have hz : ¬ (1 : Int) = (n : Int) := by omega
  have hz2 : ¬ (n : Int) = 1 := by omega
  simp [evalOp, opK, h, hn, hz]
theorem evo_and (E : Env) (col : Int) (v : Val) (n : Nat) (R : List Val × Option Int) : evalOp E ⟨#[97, 110, 100]⟩ col v n R = if n = 2 then biTail (binP ⟨#[97, 110, 100]⟩) R else (Val.null, some 40) := by
 have h : ((⟨#[97, 110, 100]⟩ : ByteArray)).toList = [97, 110, 100] := by kernel_rfl
 rcases R with ⟨l, er⟩
 by_cases hn : n = 2
 ·subst hn
  cases er <;> simp [evalOp, opK, h, biTail]
 ·have hz : ¬ (2 : Int) = (n : Int) := by omega
  have hz2 : ¬ (n : Int) = 2 := by omega
  simp [evalOp, opK, h, hn, hz]
theorem evo_or (E : Env) (col : Int) (v : Val) (n : Nat) (R : List Val × Option Int) : evalOp E ⟨#[111, 114]⟩ col v n R = if n = 2 then biTail (binP ⟨#[111, 114]⟩) R else (Val.null, some 40) := by
 have h : ((⟨#[111, 114]⟩ : ByteArray)).toList = [111, 114] := by kernel_rfl
 rcases R with ⟨l, er⟩
 by_cases hn : n = 2
 ·subst hn
  cases er <;> simp [evalOp, opK, h, biTail]
 ·have hz : ¬ (2 : Int) = (n : Int) := by omega
  have hz2 : ¬ (n : Int) = 2 := by omega
  simp [evalOp, opK, h, hn, hz]
theorem evo_eq (E : Env) (col : Int) (v : Val) (n : Nat) (R : List Val × Option Int) : evalOp E ⟨#[61]⟩ col v n R = if n = 2 then biTail (binP ⟨#[61]⟩) R else (Val.null, some 40) := by
 have h : ((⟨#[61]⟩ : ByteArray)).toList = [61] := by kernel_rfl
 rcases R with ⟨l, er⟩
 by_cases hn : n = 2
 ·subst hn
  cases er <;> simp [evalOp, opK, h, biTail]
 ·have hz : ¬ (2 : Int) = (n : Int) := by omega
  have hz2 : ¬ (n : Int) = 2 := by omega
  simp [evalOp, opK, h, hn, hz]
theorem evo_ne (E : Env) (col : Int) (v : Val) (n : Nat) (R : List Val × Option Int) : evalOp E ⟨#[60, 62]⟩ col v n R = if n = 2 then biTail (binP ⟨#[60, 62]⟩) R else (Val.null, some 40) := by
 have h : ((⟨#[60, 62]⟩ : ByteArray)).toList = [60, 62] := by kernel_rfl
 rcases R with ⟨l, er⟩
 by_cases hn : n = 2
 ·subst hn
  cases er <;> simp [evalOp, opK, h, biTail]
 ·have hz : ¬ (2 : Int) = (n : Int) := by omega
  have hz2 : ¬ (n : Int) = 2 := by omega
  simp [evalOp, opK, h, hn, hz]
theorem evo_lt (E : Env) (col : Int) (v : Val) (n : Nat) (R : List Val × Option Int) : evalOp E ⟨#[60]⟩ col v n R = if n = 2 then biTail (binP ⟨#[60]⟩) R else (Val.null, some 40) := by
 have h : ((⟨#[60]⟩ : ByteArray)).toList = [60] := by kernel_rfl
 rcases R with ⟨l, er⟩
 by_cases hn : n = 2
 ·subst hn
  cases er <;> simp [evalOp, opK, h, biTail]
 ·have hz : ¬ (2 : Int) = (n : Int) := by omega
  have hz2 : ¬ (n : Int) = 2 := by omega
  simp [evalOp, opK, h, hn, hz]
theorem evo_gt (E : Env) (col : Int) (v : Val) (n : Nat) (R : List Val × Option Int) : evalOp E ⟨#[62]⟩ col v n R = if n = 2 then biTail (binP ⟨#[62]⟩) R else (Val.null, some 40) := by
 have h : ((⟨#[62]⟩ : ByteArray)).toList = [62] := by kernel_rfl
 rcases R with ⟨l, er⟩
 by_cases hn : n = 2
 ·subst hn
  cases er <;> simp [evalOp, opK, h, biTail]
 ·have hz : ¬ (2 : Int) = (n : Int) := by omega
  have hz2 : ¬ (n : Int) = 2 := by omega
  simp [evalOp, opK, h, hn, hz]
theorem evo_le (E : Env) (col : Int) (v : Val) (n : Nat) (R : List Val × Option Int) : evalOp E ⟨#[60, 61]⟩ col v n R = if n = 2 then biTail (binP ⟨#[60, 61]⟩) R else (Val.null, some 40) := by
 have h : ((⟨#[60, 61]⟩ : ByteArray)).toList = [60, 61] := by kernel_rfl
 rcases R with ⟨l, er⟩
 by_cases hn : n = 2
 ·subst hn
  cases er <;> simp [evalOp, opK, h, biTail]
 ·have hz : ¬ (2 : Int) = (n : Int) := by omega
  have hz2 : ¬ (n : Int) = 2 := by omega
  simp [evalOp, opK, h, hn, hz]
theorem evo_ge (E : Env) (col : Int) (v : Val) (n : Nat) (R : List Val × Option Int) : evalOp E ⟨#[62, 61]⟩ col v n R = if n = 2 then biTail (binP ⟨#[62, 61]⟩) R else (Val.null, some 40) := by
 have h : ((⟨#[62, 61]⟩ : ByteArray)).toList = [62, 61] := by kernel_rfl
 rcases R with ⟨l, er⟩
 by_cases hn : n = 2
 ·subst hn
  cases er <;> simp [evalOp, opK, h, biTail]
 ·have hz : ¬ (2 : Int) = (n : Int) := by omega
  have hz2 : ¬ (n : Int) = 2 := by omega
  simp [evalOp, opK, h, hn, hz]
theorem evo_cat (E : Env) (col : Int) (v : Val) (n : Nat) (R : List Val × Option Int) : evalOp E ⟨#[124, 124]⟩ col v n R = if n = 2 then biTail (binP ⟨#[124, 124]⟩) R else (Val.null, some 40) := by
 have h : ((⟨#[124, 124]⟩ : ByteArray)).toList = [124, 124] := by kernel_rfl
 rcases R with ⟨l, er⟩
 by_cases hn : n = 2
 ·subst hn
  cases er <;> simp [evalOp, opK, h, biTail]
 ·have hz : ¬ (2 : Int) = (n : Int) := by omega
  have hz2 : ¬ (n : Int) = 2 := by omega
  simp [evalOp, opK, h, hn, hz]
theorem evo_add (E : Env) (col : Int) (v : Val) (n : Nat) (R : List Val × Option Int) : evalOp E ⟨#[43]⟩ col v n R = if n = 2 then biTail (binP ⟨#[43]⟩) R else (Val.null, some 40) := by
 have h : ((⟨#[43]⟩ : ByteArray)).toList = [43] := by kernel_rfl
 rcases R with ⟨l, er⟩
 by_cases hn : n = 2
 ·subst hn
  cases er <;> simp [evalOp, opK, h, biTail]
 ·have hz : ¬ (2 : Int) = (n : Int) := by omega
  have hz2 : ¬ (n : Int) = 2 := by omega
  simp [evalOp, opK, h, hn, hz]
theorem evo_sub (E : Env) (col : Int) (v : Val) (n : Nat) (R : List Val × Option Int) : evalOp E ⟨#[45]⟩ col v n R = if n = 2 then biTail (binP ⟨#[45]⟩) R else (Val.null, some 40) := by
 have h : ((⟨#[45]⟩ : ByteArray)).toList = [45] := by kernel_rfl
 rcases R with ⟨l, er⟩
 by_cases hn : n = 2
 ·subst hn
  cases er <;> simp [evalOp, opK, h, biTail]
 ·have hz : ¬ (2 : Int) = (n : Int) := by omega
  have hz2 : ¬ (n : Int) = 2 := by omega
  simp [evalOp, opK, h, hn, hz]
theorem evo_mul (E : Env) (col : Int) (v : Val) (n : Nat) (R : List Val × Option Int) : evalOp E ⟨#[42]⟩ col v n R = if n = 2 then biTail (binP ⟨#[42]⟩) R else (Val.null, some 40) := by
 have h : ((⟨#[42]⟩ : ByteArray)).toList = [42] := by kernel_rfl
 rcases R with ⟨l, er⟩
 by_cases hn : n = 2
 ·subst hn
  cases er <;> simp [evalOp, opK, h, biTail]
 ·have hz : ¬ (2 : Int) = (n : Int) := by omega
  have hz2 : ¬ (n : Int) = 2 := by omega
  simp [evalOp, opK, h, hn, hz]
theorem evo_div (E : Env) (col : Int) (v : Val) (n : Nat) (R : List Val × Option Int) : evalOp E ⟨#[47]⟩ col v n R = if n = 2 then biTail (binP ⟨#[47]⟩) R else (Val.null, some 40) := by
 have h : ((⟨#[47]⟩ : ByteArray)).toList = [47] := by kernel_rfl
 rcases R with ⟨l, er⟩
 by_cases hn : n = 2
 ·subst hn
  cases er <;> simp [evalOp, opK, h, biTail]
 ·have hz : ¬ (2 : Int) = (n : Int) := by omega
  have hz2 : ¬ (n : Int) = 2 := by omega
  simp [evalOp, opK, h, hn, hz]
theorem evo_rem (E : Env) (col : Int) (v : Val) (n : Nat) (R : List Val × Option Int) : evalOp E ⟨#[37]⟩ col v n R = if n = 2 then biTail (binP ⟨#[37]⟩) R else (Val.null, some 40) := by
 have h : ((⟨#[37]⟩ : ByteArray)).toList = [37] := by kernel_rfl
 rcases R with ⟨l, er⟩
 by_cases hn : n = 2
 ·subst hn
  cases er <;> simp [evalOp, opK, h, biTail]
 ·have hz : ¬ (2 : Int) = (n : Int) := by omega
  have hz2 : ¬ (n : Int) = 2 := by omega
  simp [evalOp, opK, h, hn, hz]
theorem evo_none (E : Env) (op : ByteArray) (col : Int) (v : Val) (n : Nat) (R : List Val × Option Int) (h0 : ¬ op.toList = [108, 105, 116]) (h1 : ¬ op.toList = [99, 111, 108]) (h2 : ¬ op.toList = [108, 97, 98, 101, 108]) (h3 : ¬ op.toList = [110, 101, 103]) (h4 : ¬ op.toList = [110, 111, 116]) (h5 : ¬ op.toList = [105, 115, 110, 117, 108, 108]) (h6 : ¬ op.toList = [110, 111, 116, 110, 117, 108, 108]) (h7 : ¬ op.toList = [97, 110, 100]) (h8 : ¬ op.toList = [111, 114]) (h9 : ¬ op.toList = [61]) (h10 : ¬ op.toList = [60, 62]) (h11 : ¬ op.toList = [60]) (h12 : ¬ op.toList = [62]) (h13 : ¬ op.toList = [60, 61]) (h14 : ¬ op.toList = [62, 61]) (h15 : ¬ op.toList = [124, 124]) (h16 : ¬ op.toList = [43]) (h17 : ¬ op.toList = [45]) (h18 : ¬ op.toList = [42]) (h19 : ¬ op.toList = [47]) (h20 : ¬ op.toList = [37]) : evalOp E op col v n R = (Val.null, some 40) := by
 have hz : ¬ (-1 : Int) = (n : Int) := by omega
 simp [evalOp, opK, h0, h1, h2, h3, h4, h5, h6, h7, h8, h9, h10, h11, h12, h13, h14, h15, h16, h17, h18, h19, h20, hz]
theorem evo_lit (E : Env) (col : Int) (v : Val) (n : Nat) (R : List Val × Option Int) : evalOp E ⟨#[108, 105, 116]⟩ col v n R = (v, none) := by
 have h : ((⟨#[108, 105, 116]⟩ : ByteArray)).toList = [108, 105, 116] := by kernel_rfl
 simp [evalOp, h]
theorem evo_col (E : Env) (col : Int) (v : Val) (n : Nat) (R : List Val × Option Int) : evalOp E ⟨#[99, 111, 108]⟩ col v n R = if col < 0 ∨ (E.vals.length : Int) ≤ col then (Val.null, some 1) else (E.vals.getD col.toNat Val.null, none) := by
 have h : ((⟨#[99, 111, 108]⟩ : ByteArray)).toList = [99, 111, 108] := by kernel_rfl
 simp [evalOp, h]
theorem evo_label (E : Env) (col : Int) (v : Val) (n : Nat) (R : List Val × Option Int) : evalOp E ⟨#[108, 97, 98, 101, 108]⟩ col v n R = if E.at_ < 0 ∨ (E.labels.length : Int) ≤ E.at_ then (Val.null, some 1) else (Val.ofText (E.labels.getD E.at_.toNat ⟨#[]⟩), none) := by
 have h : ((⟨#[108, 97, 98, 101, 108]⟩ : ByteArray)).toList = [108, 97, 98, 101, 108] := by kernel_rfl
 simp [evalOp, h]

theorem evalL_size {W : World} (E : Env) (hv : ∀ v ∈ E.vals, v.text.size ≤ TB) (hl : ∀ z ∈ E.labels, z.size ≤ TB) : ∀ (es : List Ex), (∀ (j : Nat) (e : Ex), es[j]? = some e → ∃ A n c, ExIs W e A n c) → ∀ v ∈ (evalL E es).1, v.text.size ≤ TB
 | [], _, v, hm => by rw [evalL_nil] at hm; cases hm
 | x :: xs, h, v, hm => by
  rw [evalL_cons] at hm
  obtain ⟨A, n, c, hx⟩ := h 0 x rfl
  have hs := hx.size E hv hl
  have ih := evalL_size E hv hl xs (fun j e hj => h (j + 1) e (by simpa using hj))
  rcases hp : evalP E x with ⟨u, er⟩
  rw [hp] at hm hs
  cases er with
  | some er => cases hm
  | none =>
   rcases hq : evalL E xs with ⟨l, er⟩
   rw [hq] at hm ih
   cases er with
   | some er => cases hm
   | none =>
    rcases List.mem_cons.1 hm with rfl | hm
    ·exact hs
    ·exact ih v hm

set_option maxRecDepth 100000 in
set_option maxHeartbeats 8000000 in
theorem of19 {W0 : World} (E : Env) (VA : Option Addr) (vn vc : Nat) (LA : Option Addr) (ln lc : Nat) (hE : EnvAt W0 E VA vn LA ln) {x : Ex} {A : Option Addr} {n c : Nat} (h : ExIs W0 x A n c) : ∀ W, Below W0.heap.size W0 W → OneOk E VA vn vc LA ln lc x A n c W := by
 induction h with
 | mk op kind col v args A n c len small tx b off hA As ns cs cells sub ih =>
  intro W hW
  have hpos : ∀ (j : Nat) (e : Ex), args[j]? = some e → b < W0.heap.size := fun j e hj => (hA (by have := (List.getElem?_eq_some_iff.1 hj).1; omega)).2
  obtain ⟨R, hR⟩ : ∃ R, R = evalL E args := ⟨_, rfl⟩
  have HALL : Hid (∀ W', Below W.heap.size W W' → Calls Tryz.prog 83 #[.agg #[.int .i64 E.at_, .slice VA vn vc, .slice LA ln lc], .slice A n c] W' fun e w' => ∃ (A' : Option Addr) (k c' : Nat), e = .returned (.tuple #[.slice A' k c', errV R.2]) ∧ Hid (ValsAt w' A' k R.1 ∧ ∀ b o, A' = some ⟨b, o, none⟩ → W'.heap.size ≤ b) ∧ Hid (Below W'.heap.size W' w')) := Lib.hid (fun W' hb => by
   have hb0 := bt hb hW
   have hc := all37 W' E VA vn vc LA ln lc args A n c b off len small (fun h0 => ⟨(hA h0).1, Nat.lt_of_lt_of_le (hA h0).2 hb0.size⟩) As ns cs (fun j e hj => (cells j e hj).below (hpos j e hj) hb0) (fun j e hj W2 h2 => ih j e hj W2 (bt h2 hb0))
   rw [hR]
   exact hc.mono fun e w' h => h)
  have hlen : R.2 = none → R.1.length = n := fun h => by rw [hR] at h ⊢; rw [evalL_len E args h, len]
  have hsz : ∀ v ∈ R.1, v.text.size ≤ TB := by rw [hR]; exact evalL_size E hE.vtx hE.ltx args (fun j e hj => ⟨_, _, _, sub j e hj⟩)
  unfold OneOk
  rw [evalP_mk, ← hR, len]
  show Calls Tryz.prog 42 #[.agg #[.int .i64 E.at_, .slice VA vn vc, .slice LA ln lc], .agg #[.string op, .int .i64 kind, .int .i64 col, .int .i64 v.kind, .int .i64 v.int, .string v.text, .bool v.bool, .slice A n c]] W _
  have hEW := hE.below hW
  by_cases q0 : op.toList = [108, 105, 116]
  ·obtain rfl : op = ⟨#[108, 105, 116]⟩ := bytes_lit q0
   rw [evo_lit]
   exact of_lit W E.at_ VA vn vc LA ln lc kind col v A n c
  by_cases q1 : op.toList = [99, 111, 108]
  ·obtain rfl : op = ⟨#[99, 111, 108]⟩ := bytes_lit q1
   rw [evo_col]
   by_cases hc : col < 0 ∨ (E.vals.length : Int) ≤ col
   ·rw [if_pos hc]
    exact of_col_err W E.at_ VA vn vc LA ln lc kind col v A n c (by rw [hEW.vals.len] at hc; exact hc)
   ·rw [if_neg hc]
    obtain ⟨i, rfl⟩ : ∃ i : Nat, col = i := ⟨col.toNat, by omega⟩
    have hi : i < E.vals.length := by omega
    have hu : E.vals[i]? = some (E.vals.getD (i : Int).toNat Val.null) := by
     rw [Int.toNat_natCast, List.getD_eq_getElem?_getD, List.getElem?_eq_getElem hi]; rfl
    obtain ⟨b2, off2, rfl, hb2, hv2⟩ := hEW.vals.at_ i _ hu
    exact of_col W E.at_ b2 off2 vn vc LA ln lc kind i v A n c (by rw [← hEW.vals.len]; exact hi) _ hb2 hv2
  by_cases q2 : op.toList = [108, 97, 98, 101, 108]
  ·obtain rfl : op = ⟨#[108, 97, 98, 101, 108]⟩ := bytes_lit q2
   rw [evo_label]
   by_cases hc : E.at_ < 0 ∨ (E.labels.length : Int) ≤ E.at_
   ·rw [if_pos hc]
    exact of_label_err W E.at_ VA vn vc LA ln lc kind col v A n c (by rw [hEW.labels.len] at hc; exact hc)
   ·rw [if_neg hc]
    obtain ⟨i, hi0⟩ : ∃ i : Nat, E.at_ = i := ⟨E.at_.toNat, by omega⟩
    rw [hi0] at hc ⊢
    have hi : i < E.labels.length := by omega
    have hu : E.labels[i]? = some (E.labels.getD (i : Int).toNat ⟨#[]⟩) := by
     rw [Int.toNat_natCast, List.getD_eq_getElem?_getD, List.getElem?_eq_getElem hi]; rfl
    obtain ⟨b2, off2, rfl, hb2, hv2⟩ := hEW.labels.at_ i _ hu
    exact of_label W i VA vn vc b2 off2 ln lc kind col v A n c (by rw [← hEW.labels.len]; exact hi) _ hb2 hv2
  have o1 := beq_no q0
  have o2 := beq_no q1
  have o3 := beq_no q2
  by_cases q3 : op.toList = [110, 101, 103]
  ·obtain rfl : op = ⟨#[110, 101, 103]⟩ := bytes_lit q3
   rw [evo_neg]
   by_cases hn : n = 1
   ·subst hn
    rw [if_pos rfl]
    exact of_un W E.at_ R VA vn vc LA ln lc _ kind col v A c o1 o2 o3 (Lib.hid args36_neg) (Lib.hid (fun W a => by rw [unP_neg]; exact un38_neg W a)) hlen HALL
   ·rw [if_neg hn]
    exact of_not W E VA vn vc LA ln lc _ kind col v A n c 1 o1 o2 o3 (Lib.hid args36_neg) (by omega)
  by_cases q4 : op.toList = [110, 111, 116]
  ·obtain rfl : op = ⟨#[110, 111, 116]⟩ := bytes_lit q4
   rw [evo_not]
   by_cases hn : n = 1
   ·subst hn
    rw [if_pos rfl]
    exact of_un W E.at_ R VA vn vc LA ln lc _ kind col v A c o1 o2 o3 (Lib.hid args36_not) (Lib.hid (fun W a => by rw [unP_not]; exact un38_not W a)) hlen HALL
   ·rw [if_neg hn]
    exact of_not W E VA vn vc LA ln lc _ kind col v A n c 1 o1 o2 o3 (Lib.hid args36_not) (by omega)
  by_cases q5 : op.toList = [105, 115, 110, 117, 108, 108]
  ·obtain rfl : op = ⟨#[105, 115, 110, 117, 108, 108]⟩ := bytes_lit q5
   rw [evo_isnull]
   by_cases hn : n = 1
   ·subst hn
    rw [if_pos rfl]
    exact of_un W E.at_ R VA vn vc LA ln lc _ kind col v A c o1 o2 o3 (Lib.hid args36_isnull) (Lib.hid (fun W a => by rw [unP_isnull]; exact un38_isnull W a)) hlen HALL
   ·rw [if_neg hn]
    exact of_not W E VA vn vc LA ln lc _ kind col v A n c 1 o1 o2 o3 (Lib.hid args36_isnull) (by omega)
  by_cases q6 : op.toList = [110, 111, 116, 110, 117, 108, 108]
  ·obtain rfl : op = ⟨#[110, 111, 116, 110, 117, 108, 108]⟩ := bytes_lit q6
   rw [evo_notnull]
   by_cases hn : n = 1
   ·subst hn
    rw [if_pos rfl]
    exact of_un W E.at_ R VA vn vc LA ln lc _ kind col v A c o1 o2 o3 (Lib.hid args36_notnull) (Lib.hid (fun W a => by rw [unP_notnull]; exact un38_notnull W a)) hlen HALL
   ·rw [if_neg hn]
    exact of_not W E VA vn vc LA ln lc _ kind col v A n c 1 o1 o2 o3 (Lib.hid args36_notnull) (by omega)
  by_cases q7 : op.toList = [97, 110, 100]
  ·obtain rfl : op = ⟨#[97, 110, 100]⟩ := bytes_lit q7
   rw [evo_and]
   by_cases hn : n = 2
   ·subst hn
    rw [if_pos rfl]
    exact of_bin1 112 (.inl rfl) W E.at_ R VA vn vc LA ln lc _ kind col v A c o1 o2 o3 (Lib.hid args36_and) (binP ⟨#[97, 110, 100]⟩) (Lib.hid bin39_and) (Lib.hid (fun W a b ha hb => by rw [biP_and]; exact and54 W a b)) hlen hsz HALL
   ·rw [if_neg hn]
    exact of_not W E VA vn vc LA ln lc _ kind col v A n c 2 o1 o2 o3 (Lib.hid args36_and) (by omega)
  by_cases q8 : op.toList = [111, 114]
  ·obtain rfl : op = ⟨#[111, 114]⟩ := bytes_lit q8
   rw [evo_or]
   by_cases hn : n = 2
   ·subst hn
    rw [if_pos rfl]
    exact of_bin1 113 (.inr (.inl rfl)) W E.at_ R VA vn vc LA ln lc _ kind col v A c o1 o2 o3 (Lib.hid args36_or) (binP ⟨#[111, 114]⟩) (Lib.hid bin39_or) (Lib.hid (fun W a b ha hb => by rw [biP_or]; exact or55 W a b)) hlen hsz HALL
   ·rw [if_neg hn]
    exact of_not W E VA vn vc LA ln lc _ kind col v A n c 2 o1 o2 o3 (Lib.hid args36_or) (by omega)
  by_cases q9 : op.toList = [61]
  ·obtain rfl : op = ⟨#[61]⟩ := bytes_lit q9
   rw [evo_eq]
   by_cases hn : n = 2
   ·subst hn
    rw [if_pos rfl]
    exact of_bin1 114 (.inr (.inr (.inl rfl))) W E.at_ R VA vn vc LA ln lc _ kind col v A c o1 o2 o3 (Lib.hid args36_eq) (binP ⟨#[61]⟩) (Lib.hid bin39_eq) (Lib.hid (fun W a b ha hb => by rw [biP_eq]; exact equal56 W a b)) hlen hsz HALL
   ·rw [if_neg hn]
    exact of_not W E VA vn vc LA ln lc _ kind col v A n c 2 o1 o2 o3 (Lib.hid args36_eq) (by omega)
  by_cases q10 : op.toList = [60, 62]
  ·obtain rfl : op = ⟨#[60, 62]⟩ := bytes_lit q10
   rw [evo_ne]
   by_cases hn : n = 2
   ·subst hn
    rw [if_pos rfl]
    exact of_bin2 115 (.func (.func 114) #[] #[]) (.inl rfl) W E.at_ R VA vn vc LA ln lc _ kind col v A c o1 o2 o3 (Lib.hid args36_ne) (binP ⟨#[60, 62]⟩) (Lib.hid bin39_ne) (Lib.hid (fun W a b ha hb => by rw [biP_ne]; exact not57_ne W a b)) hlen hsz HALL
   ·rw [if_neg hn]
    exact of_not W E VA vn vc LA ln lc _ kind col v A n c 2 o1 o2 o3 (Lib.hid args36_ne) (by omega)
  by_cases q11 : op.toList = [60]
  ·obtain rfl : op = ⟨#[60]⟩ := bytes_lit q11
   rw [evo_lt]
   by_cases hn : n = 2
   ·subst hn
    rw [if_pos rfl]
    exact of_bin1 111 (.inr (.inr (.inr (.inl rfl)))) W E.at_ R VA vn vc LA ln lc _ kind col v A c o1 o2 o3 (Lib.hid args36_lt) (binP ⟨#[60]⟩) (Lib.hid bin39_lt) (Lib.hid (fun W a b ha hb => by rw [biP_lt]; exact less53 W a b)) hlen hsz HALL
   ·rw [if_neg hn]
    exact of_not W E VA vn vc LA ln lc _ kind col v A n c 2 o1 o2 o3 (Lib.hid args36_lt) (by omega)
  by_cases q12 : op.toList = [62]
  ·obtain rfl : op = ⟨#[62]⟩ := bytes_lit q12
   rw [evo_gt]
   by_cases hn : n = 2
   ·subst hn
    rw [if_pos rfl]
    exact of_bin2 116 (.func (.func 111) #[] #[]) (.inr rfl) W E.at_ R VA vn vc LA ln lc _ kind col v A c o1 o2 o3 (Lib.hid args36_gt) (binP ⟨#[62]⟩) (Lib.hid bin39_gt) (Lib.hid (fun W a b ha hb => by rw [biP_gt]; exact turned58 W a b)) hlen hsz HALL
   ·rw [if_neg hn]
    exact of_not W E VA vn vc LA ln lc _ kind col v A n c 2 o1 o2 o3 (Lib.hid args36_gt) (by omega)
  by_cases q13 : op.toList = [60, 61]
  ·obtain rfl : op = ⟨#[60, 61]⟩ := bytes_lit q13
   rw [evo_le]
   by_cases hn : n = 2
   ·subst hn
    rw [if_pos rfl]
    exact of_bin2 115 (.func (.func 116) #[.func (.func 111) #[] #[]] #[]) (.inl rfl) W E.at_ R VA vn vc LA ln lc _ kind col v A c o1 o2 o3 (Lib.hid args36_le) (binP ⟨#[60, 61]⟩) (Lib.hid bin39_le) (Lib.hid (fun W a b ha hb => by rw [biP_le]; exact not57_le W a b)) hlen hsz HALL
   ·rw [if_neg hn]
    exact of_not W E VA vn vc LA ln lc _ kind col v A n c 2 o1 o2 o3 (Lib.hid args36_le) (by omega)
  by_cases q14 : op.toList = [62, 61]
  ·obtain rfl : op = ⟨#[62, 61]⟩ := bytes_lit q14
   rw [evo_ge]
   by_cases hn : n = 2
   ·subst hn
    rw [if_pos rfl]
    exact of_bin2 115 (.func (.func 111) #[] #[]) (.inl rfl) W E.at_ R VA vn vc LA ln lc _ kind col v A c o1 o2 o3 (Lib.hid args36_ge) (binP ⟨#[62, 61]⟩) (Lib.hid bin39_ge) (Lib.hid (fun W a b ha hb => by rw [biP_ge]; exact not57_ge W a b)) hlen hsz HALL
   ·rw [if_neg hn]
    exact of_not W E VA vn vc LA ln lc _ kind col v A n c 2 o1 o2 o3 (Lib.hid args36_ge) (by omega)
  by_cases q15 : op.toList = [124, 124]
  ·obtain rfl : op = ⟨#[124, 124]⟩ := bytes_lit q15
   rw [evo_cat]
   by_cases hn : n = 2
   ·subst hn
    rw [if_pos rfl]
    exact of_bin1 117 (.inr (.inr (.inr (.inr rfl)))) W E.at_ R VA vn vc LA ln lc _ kind col v A c o1 o2 o3 (Lib.hid args36_cat) (binP ⟨#[124, 124]⟩) (Lib.hid bin39_cat) (Lib.hid (fun W a b ha hb => by rw [biP_cat]; exact join59 W a b ha hb)) hlen hsz HALL
   ·rw [if_neg hn]
    exact of_not W E VA vn vc LA ln lc _ kind col v A n c 2 o1 o2 o3 (Lib.hid args36_cat) (by omega)
  by_cases q16 : op.toList = [43]
  ·obtain rfl : op = ⟨#[43]⟩ := bytes_lit q16
   rw [evo_add]
   by_cases hn : n = 2
   ·subst hn
    rw [if_pos rfl]
    exact of_ar W E.at_ R VA vn vc LA ln lc _ kind col v A c o1 o2 o3 (Lib.hid args36_add) (binP ⟨#[43]⟩) 43 (Lib.hid bin39_add) (Lib.hid (fun W g hg a b => by rw [biP_add]; exact clo78 W g 43 (by omega) hg a b)) hlen hsz HALL
   ·rw [if_neg hn]
    exact of_not W E VA vn vc LA ln lc _ kind col v A n c 2 o1 o2 o3 (Lib.hid args36_add) (by omega)
  by_cases q17 : op.toList = [45]
  ·obtain rfl : op = ⟨#[45]⟩ := bytes_lit q17
   rw [evo_sub]
   by_cases hn : n = 2
   ·subst hn
    rw [if_pos rfl]
    exact of_ar W E.at_ R VA vn vc LA ln lc _ kind col v A c o1 o2 o3 (Lib.hid args36_sub) (binP ⟨#[45]⟩) 45 (Lib.hid bin39_sub) (Lib.hid (fun W g hg a b => by rw [biP_sub]; exact clo78 W g 45 (by omega) hg a b)) hlen hsz HALL
   ·rw [if_neg hn]
    exact of_not W E VA vn vc LA ln lc _ kind col v A n c 2 o1 o2 o3 (Lib.hid args36_sub) (by omega)
  by_cases q18 : op.toList = [42]
  ·obtain rfl : op = ⟨#[42]⟩ := bytes_lit q18
   rw [evo_mul]
   by_cases hn : n = 2
   ·subst hn
    rw [if_pos rfl]
    exact of_ar W E.at_ R VA vn vc LA ln lc _ kind col v A c o1 o2 o3 (Lib.hid args36_mul) (binP ⟨#[42]⟩) 42 (Lib.hid bin39_mul) (Lib.hid (fun W g hg a b => by rw [biP_mul]; exact clo78 W g 42 (by omega) hg a b)) hlen hsz HALL
   ·rw [if_neg hn]
    exact of_not W E VA vn vc LA ln lc _ kind col v A n c 2 o1 o2 o3 (Lib.hid args36_mul) (by omega)
  by_cases q19 : op.toList = [47]
  ·obtain rfl : op = ⟨#[47]⟩ := bytes_lit q19
   rw [evo_div]
   by_cases hn : n = 2
   ·subst hn
    rw [if_pos rfl]
    exact of_ar W E.at_ R VA vn vc LA ln lc _ kind col v A c o1 o2 o3 (Lib.hid args36_div) (binP ⟨#[47]⟩) 47 (Lib.hid bin39_div) (Lib.hid (fun W g hg a b => by rw [biP_div]; exact clo78 W g 47 (by omega) hg a b)) hlen hsz HALL
   ·rw [if_neg hn]
    exact of_not W E VA vn vc LA ln lc _ kind col v A n c 2 o1 o2 o3 (Lib.hid args36_div) (by omega)
  by_cases q20 : op.toList = [37]
  ·obtain rfl : op = ⟨#[37]⟩ := bytes_lit q20
   rw [evo_rem]
   by_cases hn : n = 2
   ·subst hn
    rw [if_pos rfl]
    exact of_ar W E.at_ R VA vn vc LA ln lc _ kind col v A c o1 o2 o3 (Lib.hid args36_rem) (binP ⟨#[37]⟩) 37 (Lib.hid bin39_rem) (Lib.hid (fun W g hg a b => by rw [biP_rem]; exact clo78 W g 37 (by omega) hg a b)) hlen hsz HALL
   ·rw [if_neg hn]
    exact of_not W E VA vn vc LA ln lc _ kind col v A n c 2 o1 o2 o3 (Lib.hid args36_rem) (by omega)
  rw [evo_none E op col v n R q0 q1 q2 q3 q4 q5 q6 q7 q8 q9 q10 q11 q12 q13 q14 q15 q16 q17 q18 q19 q20]
  exact of_not W E VA vn vc LA ln lc op kind col v A n c (-1) o1 o2 o3 (Lib.hid (fun W => args36_none W op ⟨beq_no q7, beq_no q8, beq_no q9, beq_no q10, beq_no q11, beq_no q12, beq_no q13, beq_no q14, beq_no q15, beq_no q16, beq_no q17, beq_no q18, beq_no q19, beq_no q20⟩ ⟨beq_no q0, beq_no q1, beq_no q2, beq_no q3, beq_no q4, beq_no q5, beq_no q6⟩)) (by omega)

end Go.Proofs.YtbcmmecilheicaaGreatDoor
