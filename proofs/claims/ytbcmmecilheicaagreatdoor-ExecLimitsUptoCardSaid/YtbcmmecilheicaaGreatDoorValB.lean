/- value.And, Or; Kind, known, Compare. value.known, compared, Less, Equal. -/
import Derived.Test.YtbcmmecilheicaaGreatDoorVal3

/- value.And, Or; Kind, known, Compare. -/
namespace Go.Proofs.YtbcmmecilheicaaGreatDoor
open Go Go.RowKit

def andP (a b : Val) : Res := eitherP ⟨a.kind, 0, ⟨#[]⟩, a.bool⟩ ⟨b.kind, 0, ⟨#[]⟩, b.bool⟩ false
def orP (a b : Val) : Res := eitherP ⟨a.kind, 0, ⟨#[]⟩, a.bool⟩ ⟨b.kind, 0, ⟨#[]⟩, b.bool⟩ true

set_option maxRecDepth 20000 in
set_option maxHeartbeats 4000000 in
theorem and54 (w : World) (a b : Val) : Calls Tryz.prog 112 #[.agg #[.int .i64 a.kind, .int .i64 a.int, .string a.text, .bool a.bool], .agg #[.int .i64 b.kind, .int .i64 b.int, .string b.text, .bool b.bool]] w fun e w' => e = .returned (resV (andP a b)) ∧ Hid (Below w.heap.size w w') := by
 have hc := either76 (((w.alloc (.cells #[.int .i64 a.kind, .int .i64 a.int, .string a.text, .bool a.bool] 26)).alloc (.cells #[.int .i64 b.kind, .int .i64 b.int, .string b.text, .bool b.bool] 26)).alloc (.cells #[.int .i64 0, .int .i64 0, .string ⟨#[]⟩, .bool false] 26)) a.kind b.kind a.bool b.bool false
 obtain ⟨r, hr⟩ : ∃ r, r = andP a b := ⟨_, rfl⟩
 rw [show eitherP ⟨a.kind, 0, ⟨#[]⟩, a.bool⟩ ⟨b.kind, 0, ⟨#[]⟩, b.bool⟩ false = r from hr.symm] at hc
 rw [← hr]
 have HC := Lib.hid hc
 clear hc hr
 obtain ⟨⟨rk, ri, rs, rb⟩, re⟩ := r
 go_enter Tryz.func112, Tryz.ntmps112
 go_wp2_with fail
 refine HC.out.mono ?_
 clear HC
 rintro e w1 ⟨rfl, h1⟩
 have zb : Blk w1 (w.heap.size + 1 + 1) 26 #[.int .i64 0, .int .i64 0, .string ⟨#[]⟩, .bool false] := (blk_new' (w := (w.alloc _).alloc _) rfl (by simp)).below h1.out
 have hfz := fun o => zb.frozen o
 have q0 := zb.cell 0
 have q1 := zb.cell 1
 have q2 := zb.cell 2
 have q3 := zb.cell 3
 have hl1 := zb.lt
 have ZB := Lib.hid zb
 have HB := Lib.hid h1.out.from3
 clear h1 zb
 simp only [resV, Val.cells]
 go_wp2
 refine bodyPost_ret (results_cv (s := 4) (k := 5) rfl rfl rfl (val_set ZB.out _ _ _ _)) rfl ⟨rfl, Lib.hid (by have hb := HB.out; have hs := hb.size; go_grown)⟩

set_option maxRecDepth 20000 in
set_option maxHeartbeats 4000000 in
theorem or55 (w : World) (a b : Val) : Calls Tryz.prog 113 #[.agg #[.int .i64 a.kind, .int .i64 a.int, .string a.text, .bool a.bool], .agg #[.int .i64 b.kind, .int .i64 b.int, .string b.text, .bool b.bool]] w fun e w' => e = .returned (resV (orP a b)) ∧ Hid (Below w.heap.size w w') := by
 have hc := either76 (((w.alloc (.cells #[.int .i64 a.kind, .int .i64 a.int, .string a.text, .bool a.bool] 26)).alloc (.cells #[.int .i64 b.kind, .int .i64 b.int, .string b.text, .bool b.bool] 26)).alloc (.cells #[.int .i64 0, .int .i64 0, .string ⟨#[]⟩, .bool false] 26)) a.kind b.kind a.bool b.bool true
 obtain ⟨r, hr⟩ : ∃ r, r = orP a b := ⟨_, rfl⟩
 rw [show eitherP ⟨a.kind, 0, ⟨#[]⟩, a.bool⟩ ⟨b.kind, 0, ⟨#[]⟩, b.bool⟩ true = r from hr.symm] at hc
 rw [← hr]
 have HC := Lib.hid hc
 clear hc hr
 obtain ⟨⟨rk, ri, rs, rb⟩, re⟩ := r
 go_enter Tryz.func113, Tryz.ntmps113
 go_wp2_with fail
 refine HC.out.mono ?_
 clear HC
 rintro e w1 ⟨rfl, h1⟩
 have zb : Blk w1 (w.heap.size + 1 + 1) 26 #[.int .i64 0, .int .i64 0, .string ⟨#[]⟩, .bool false] := (blk_new' (w := (w.alloc _).alloc _) rfl (by simp)).below h1.out
 have hfz := fun o => zb.frozen o
 have q0 := zb.cell 0
 have q1 := zb.cell 1
 have q2 := zb.cell 2
 have q3 := zb.cell 3
 have hl1 := zb.lt
 have ZB := Lib.hid zb
 have HB := Lib.hid h1.out.from3
 clear h1 zb
 simp only [resV, Val.cells]
 go_wp2
 refine bodyPost_ret (results_cv (s := 4) (k := 5) rfl rfl rfl (val_set ZB.out _ _ _ _)) rfl ⟨rfl, Lib.hid (by have hb := HB.out; have hs := hb.size; go_grown)⟩

def kindS (k : Int) : ByteArray := if k = 0 then ⟨#[78, 85, 76, 76]⟩ else if k = 1 then ⟨#[73, 78, 84]⟩ else if k = 2 then ⟨#[84, 69, 88, 84]⟩ else if k = 3 then ⟨#[66, 79, 79, 76]⟩ else ⟨#[]⟩
set_option maxHeartbeats 2000000 in
theorem kind96 (w : World) (k : Int) : Calls Tryz.prog 39 #[.int .i64 k] w fun e w' => e = .returned (.string (kindS k)) ∧ w = w' := by
 by_cases h0 : k = 0
 ·subst h0
  go_enter Tryz.func39, Tryz.ntmps39
  go_wp2
  go_ret
  exact ⟨rfl, rfl⟩
 ·by_cases h1 : k = 1
  ·subst h1
   go_enter Tryz.func39, Tryz.ntmps39
   go_wp2
   go_ret
   exact ⟨rfl, rfl⟩
  ·by_cases h2 : k = 2
   ·subst h2
    go_enter Tryz.func39, Tryz.ntmps39
    go_wp2
    go_ret
    exact ⟨rfl, rfl⟩
   ·by_cases h3 : k = 3
    ·subst h3
     go_enter Tryz.func39, Tryz.ntmps39
     go_wp2
     go_ret
     exact ⟨rfl, rfl⟩
    ·have e : kindS k = ⟨#[]⟩ := by simp [kindS, h0, h1, h2, h3]
     rw [e]
     have b0 : (k == 0) = false := by simpa using h0
     have b1 : (k == 1) = false := by simpa using h1
     have b2 : (k == 2) = false := by simpa using h2
     have b3 : (k == 3) = false := by simpa using h3
     clear e
     go_enter Tryz.func39, Tryz.ntmps39
     go_wp2
     go_ret
     exact ⟨rfl, rfl⟩

def cmpI (x y : Int) : Int := if x < y then -1 else if y < x then 1 else 0
def cmpS (x y : ByteArray) : Int := if Op.bytesLess x.toList y.toList = true then -1 else if (x.toList == y.toList) = true then 0 else 1
set_option maxHeartbeats 2000000 in
theorem cmp63 (w : World) (x y : Int) : Calls Tryz.prog 132 #[.int .i64 x, .int .i64 y] w fun e w' => e = .returned (.int .i64 (cmpI x y)) ∧ w = w' := by
 by_cases h1 : x < y
 ·have r : cmpI x y = -1 := by simp [cmpI, h1]
  rw [r]
  clear r
  go_enter Tryz.func132, Tryz.ntmps132
  go_wp2
  go_ret
  exact ⟨rfl, rfl⟩
 ·by_cases h2 : y < x
  ·have r : cmpI x y = 1 := by simp [cmpI, h1, h2]
   rw [r]
   clear r
   go_enter Tryz.func132, Tryz.ntmps132
   go_wp2
   go_ret
   exact ⟨rfl, rfl⟩
  ·have r : cmpI x y = 0 := by simp [cmpI, h1, h2]
   rw [r]
   clear r
   go_enter Tryz.func132, Tryz.ntmps132
   go_wp2
   go_ret
   exact ⟨rfl, rfl⟩
set_option maxHeartbeats 2000000 in
theorem cmp64 (w : World) (x y : ByteArray) : Calls Tryz.prog 133 #[.string x, .string y] w fun e w' => e = .returned (.int .i64 (cmpS x y)) ∧ w = w' := by
 cases h1 : Op.bytesLess x.toList y.toList with
 | true =>
  have r : cmpS x y = -1 := by simp [cmpS, h1]
  rw [r]
  clear r
  go_enter Tryz.func133, Tryz.ntmps133
  go_wp2
  go_ret
  exact ⟨rfl, rfl⟩
 | false =>
  cases h2 : x.toList == y.toList with
  | true =>
   have r : cmpS x y = 0 := by simp only [cmpS, h1, h2]; rfl
   rw [r]
   clear r
   go_enter Tryz.func133, Tryz.ntmps133
   go_wp2
   go_ret
   exact ⟨rfl, rfl⟩
  | false =>
   have r : cmpS x y = 1 := by simp only [cmpS, h1, h2]; rfl
   rw [r]
   clear r
   go_enter Tryz.func133, Tryz.ntmps133
   go_wp2
   go_ret
   exact ⟨rfl, rfl⟩

def compareP (a b : Val) : Int :=
 if a.kind < b.kind then -1 else if b.kind < a.kind then 1
 else if a.kind = 1 then cmpI a.int b.int else if a.kind = 2 then cmpS a.text b.text
 else if a.kind = 3 then (if a.bool = b.bool then 0 else if a.bool = true then 1 else -1) else 0

set_option maxRecDepth 20000 in
set_option maxHeartbeats 4000000 in
theorem compare43 (w : World) (a b : Val) : Calls Tryz.prog 95 #[.agg #[.int .i64 a.kind, .int .i64 a.int, .string a.text, .bool a.bool], .agg #[.int .i64 b.kind, .int .i64 b.int, .string b.text, .bool b.bool]] w fun e w' => e = .returned (.int .i64 (compareP a b)) ∧ Hid (Below w.heap.size w w') := by
 obtain ⟨ka, ia, ta, ba⟩ := a
 obtain ⟨kb, ib, tb, bb⟩ := b
 simp only
 obtain ⟨r, hr⟩ : ∃ r, r = compareP ⟨ka, ia, ta, ba⟩ ⟨kb, ib, tb, bb⟩ := ⟨_, rfl⟩
 rw [← hr]
 by_cases h1 : ka < kb
 ·have hk : cmpI ka kb = -1 := by simp [cmpI, h1]
  have e : r = -1 := by rw [hr]; simp [compareP, h1]
  subst e
  clear hr h1
  go_enter Tryz.func95, Tryz.ntmps95
  go_wp2_with (go_at_call 132; refine (cmp63 _ _ _).mono ?_; rw [hk]; rintro e w1 ⟨rfl, rfl⟩)
  go_ret
  exact ⟨rfl, Lib.hid ((below_alloc _ _).trans ((below_alloc _ _).mono (by simp)))⟩
 ·by_cases h2 : kb < ka
  ·have hk : cmpI ka kb = 1 := by simp [cmpI, h1, h2]
   have e : r = 1 := by rw [hr]; simp [compareP, h1, h2]
   subst e
   clear hr h1 h2
   go_enter Tryz.func95, Tryz.ntmps95
   go_wp2_with (go_at_call 132; refine (cmp63 _ _ _).mono ?_; rw [hk]; rintro e w1 ⟨rfl, rfl⟩)
   go_ret
   exact ⟨rfl, Lib.hid ((below_alloc _ _).trans ((below_alloc _ _).mono (by simp)))⟩
  ·obtain rfl : ka = kb := by omega
   have hk : cmpI ka ka = 0 := by simp [cmpI]
   by_cases k1 : ka = 1
   ·subst k1
    have e : cmpI ia ib = r := by rw [hr]; simp [compareP]
    clear hr h1 h2
    go_enter Tryz.func95, Tryz.ntmps95
    go_wp2_with fail
    refine (cmp63 _ _ _).mono ?_
    rw [hk]
    rintro e w1 ⟨rfl, rfl⟩
    go_wp2_with fail
    refine (cmp63 _ _ _).mono ?_
    rw [e]
    rintro e w1 ⟨rfl, rfl⟩
    go_wp2_with fail
    go_ret
    exact ⟨rfl, Lib.hid ((below_alloc _ _).trans ((below_alloc _ _).mono (by simp)))⟩
   ·by_cases k2 : ka = 2
    ·subst k2
     have e : cmpS ta tb = r := by rw [hr]; simp [compareP]
     clear hr h1 h2 k1
     go_enter Tryz.func95, Tryz.ntmps95
     go_wp2_with fail
     refine (cmp63 _ _ _).mono ?_
     rw [hk]
     rintro e w1 ⟨rfl, rfl⟩
     go_wp2_with fail
     refine (cmp64 _ _ _).mono ?_
     rw [e]
     rintro e w1 ⟨rfl, rfl⟩
     go_wp2_with fail
     go_ret
     exact ⟨rfl, Lib.hid ((below_alloc _ _).trans ((below_alloc _ _).mono (by simp)))⟩
    ·by_cases k3 : ka = 3
     ·subst k3
      clear h1 h2 k1 k2
      cases ba <;> cases bb
      all_goals
       simp [compareP] at hr
       subst hr
       go_enter Tryz.func95, Tryz.ntmps95
       go_wp2_with (go_at_call 132; refine (cmp63 _ _ _).mono ?_; rw [hk]; rintro e w1 ⟨rfl, rfl⟩)
       go_ret
       exact ⟨rfl, Lib.hid ((below_alloc _ _).trans ((below_alloc _ _).mono (by simp)))⟩
     ·have e : 0 = r := by rw [hr]; simp [compareP, k1, k2, k3]
      subst e
      have b1 : (ka == 1) = false := by simpa using k1
      have b2 : (ka == 2) = false := by simpa using k2
      have b3 : (ka == 3) = false := by simpa using k3
      clear hr h1 h2 k1 k2 k3
      go_enter Tryz.func95, Tryz.ntmps95
      go_wp2_with (go_at_call 132; refine (cmp63 _ _ _).mono ?_; rw [hk]; rintro e w1 ⟨rfl, rfl⟩)
      go_ret
      exact ⟨rfl, Lib.hid ((below_alloc _ _).trans ((below_alloc _ _).mono (by simp)))⟩

end Go.Proofs.YtbcmmecilheicaaGreatDoor

/- value.known, compared, Less, Equal. -/
namespace Go.Proofs.YtbcmmecilheicaaGreatDoor
open Go Go.RowKit

theorem kindS_yes {k : Int} (h : kindOk k = true) : (kindS k).toList.isEmpty = false ∧ ¬ (kindS k).toList = [] := by
 have : k = 0 ∨ k = 1 ∨ k = 2 ∨ k = 3 := by simpa [kindOk, or_assoc] using h
 rcases this with rfl | rfl | rfl | rfl <;> exact ⟨by kernel_rfl, fun h => by have : ([] : List UInt8).length = _ := congrArg List.length h.symm; revert this; decide +kernel⟩
theorem kindS_no {k : Int} (h : kindOk k = false) : (kindS k).toList.isEmpty = true ∧ (kindS k).toList = [] := by
 have : kindS k = ⟨#[]⟩ := by
  simp [kindOk] at h
  simp [kindS, h]
 rw [this]
 exact ⟨by kernel_rfl, by kernel_rfl⟩
def knownB (a b : Val) : Bool := kindOk a.kind && kindOk b.kind && (nullB a || nullB b || decide (a.kind = b.kind))

set_option maxRecDepth 20000 in
set_option maxHeartbeats 4000000 in
theorem known87 (w : World) (a b : Val) : Calls Tryz.prog 173 #[.agg #[.int .i64 a.kind, .int .i64 a.int, .string a.text, .bool a.bool], .agg #[.int .i64 b.kind, .int .i64 b.int, .string b.text, .bool b.bool]] w fun e w' => e = .returned (.bool (knownB a b)) ∧ Hid (Below w.heap.size w w') := by
 have hn2 := Lib.hid (show ∀ W g, Blk W g 26 #[.int .i64 a.kind, .int .i64 a.int, .string a.text, .bool a.bool, .int .i64 b.kind, .int .i64 b.int, .string b.text, .bool b.bool] → Calls Tryz.prog 151 #[.slice (some ⟨g, 0, none⟩) 2 2] W fun e w' => e = .returned (.bool (nullB a || nullB b)) ∧ Hid (Below W.heap.size W w') from fun W g z => (null72 W _ 2 2 [a, b] (ValsAt.two z) (by omega)).mono fun e w' h => by simpa using h)
 cases h1 : kindOk a.kind with
 | false =>
  have e : knownB a b = false := by simp [knownB, h1]
  rw [e]
  obtain ⟨qa1, qa2⟩ := kindS_no h1
  clear e h1
  go_enter Tryz.func173, Tryz.ntmps173
  go_wp2_with (go_at_call 39; refine (kind96 _ _).mono ?_; rintro e w1 ⟨rfl, rfl⟩)
  go_ret
  exact ⟨rfl, Lib.hid ((below_alloc _ _).trans ((below_alloc _ _).mono (by simp)))⟩
 | true =>
  obtain ⟨qa1, qa2⟩ := kindS_yes h1
  cases h2 : kindOk b.kind with
  | false =>
   have e : knownB a b = false := by simp [knownB, h2]
   rw [e]
   obtain ⟨qb1, qb2⟩ := kindS_no h2
   clear e h1 h2
   go_enter Tryz.func173, Tryz.ntmps173
   go_wp2_with (go_at_call 39; refine (kind96 _ _).mono ?_; rintro e w1 ⟨rfl, rfl⟩)
   go_ret
   exact ⟨rfl, Lib.hid ((below_alloc _ _).trans ((below_alloc _ _).mono (by simp)))⟩
  | true =>
   obtain ⟨qb1, qb2⟩ := kindS_yes h2
   cases h3 : nullB a || nullB b with
   | true =>
    have e : knownB a b = true := by simp [knownB, h1, h2, h3]
    rw [e]
    rw [h3] at hn2
    clear e h1 h2 h3
    go_enter Tryz.func173, Tryz.ntmps173
    go_wp2_with (first | (go_at_call 39; refine (kind96 _ _).mono ?_; rintro e w1 ⟨rfl, rfl⟩) | (go_at_call 151; refine (hn2.out _ _ (blk_new' rfl (by simp))).mono ?_; rintro e w1 ⟨rfl, h1⟩; have hb := Lib.hid h1.out.from3))
    go_ret
    exact ⟨rfl, hb⟩
   | false =>
    rw [h3] at hn2
    by_cases h4 : a.kind = b.kind
    ·have e : knownB a b = true := by simp [knownB, h2, h4]
     rw [e]
     have hk : (a.kind == b.kind) = true := by simpa using h4
     clear e h1 h2 h3 h4
     go_enter Tryz.func173, Tryz.ntmps173
     go_wp2_with (first | (go_at_call 39; refine (kind96 _ _).mono ?_; rintro e w1 ⟨rfl, rfl⟩) | (go_at_call 151; refine (hn2.out _ _ (blk_new' rfl (by simp))).mono ?_; rintro e w1 ⟨rfl, h1⟩; have hb := Lib.hid h1.out.from3; obtain ⟨hc, hf⟩ := bcell h1.out))
     go_ret
     exact ⟨rfl, hb⟩
    ·have e : knownB a b = false := by simp [knownB, h3, h4]
     rw [e]
     have hk : (a.kind == b.kind) = false := by simpa using h4
     clear e h1 h2 h3 h4
     go_enter Tryz.func173, Tryz.ntmps173
     go_wp2_with (first | (go_at_call 39; refine (kind96 _ _).mono ?_; rintro e w1 ⟨rfl, rfl⟩) | (go_at_call 151; refine (hn2.out _ _ (blk_new' rfl (by simp))).mono ?_; rintro e w1 ⟨rfl, h1⟩; have hb := Lib.hid h1.out.from3; obtain ⟨hc, hf⟩ := bcell h1.out))
     go_ret
     exact ⟨rfl, hb⟩

def comparedP (a b : Val) (so : Int → Bool) : Res := if knownB a b = true then (if (nullB a || nullB b) = true then (Val.null, none) else (Val.ofBool (so (compareP a b)), none)) else (Val.null, some 7)
def soLess (c : Int) : Bool := decide (c < 0)
def soEqual (c : Int) : Bool := c == 0
def lessP (a b : Val) : Res := comparedP a b soLess
def equalP (a b : Val) : Res := comparedP a b soEqual

set_option maxHeartbeats 1000000 in
theorem clo75 (w : World) (c : Int) : Calls Tryz.prog 154 #[.int .i64 c] w fun e w' => e = .returned (.bool (soLess c)) ∧ w = w' := by
 cases h : soLess c with
 | true =>
  have h1 : (c < 0) := by simpa [soLess] using h
  clear h
  go_enter Tryz.func154, Tryz.ntmps154
  go_wp2
  go_ret
  exact ⟨by simp, rfl⟩
 | false =>
  have h1 : ¬ (c < 0) := by simpa [soLess] using h
  clear h
  go_enter Tryz.func154, Tryz.ntmps154
  go_wp2
  go_ret
  exact ⟨by simp, rfl⟩

set_option maxHeartbeats 1000000 in
theorem clo77 (w : World) (c : Int) : Calls Tryz.prog 156 #[.int .i64 c] w fun e w' => e = .returned (.bool (soEqual c)) ∧ w = w' := by
 cases h : soEqual c with
 | true =>
  have h1 : (c = 0) := by simpa [soEqual] using h
  clear h
  go_enter Tryz.func156, Tryz.ntmps156
  go_wp2
  go_ret
  exact ⟨by simp [h1], rfl⟩
 | false =>
  have h1 : ¬ (c = 0) := by simpa [soEqual] using h
  clear h
  go_enter Tryz.func156, Tryz.ntmps156
  go_wp2
  go_ret
  exact ⟨by simp [h1], rfl⟩

set_option maxRecDepth 20000 in
set_option maxHeartbeats 4000000 in
theorem compared74_75 (w : World) (a b : Val) : Calls Tryz.prog 153 #[.agg #[.int .i64 a.kind, .int .i64 a.int, .string a.text, .bool a.bool], .agg #[.int .i64 b.kind, .int .i64 b.int, .string b.text, .bool b.bool], .func (.func 154) #[] #[]] w fun e w' => e = .returned (resV (comparedP a b soLess)) ∧ Hid (Below w.heap.size w w') := by
 cases h1 : knownB a b with
 | false =>
  have e : comparedP a b soLess = (Val.null, some 7) := by simp [comparedP, h1]
  rw [e]
  have K1 := Lib.hid h1
  clear e h1
  go_enter Tryz.func153, Tryz.ntmps153
  go_wp2_with fail
  refine (known87 _ a b).mono ?_
  rw [K1.out]
  rintro e w1 ⟨rfl, h1⟩
  go_wp2_with fail
  refine (null34 _).mono ?_
  rintro e w2 ⟨rfl, h2⟩
  have H2 := bt h2.out h1.out
  have zb : Blk w2 (w.heap.size + 1 + 1) 26 #[.int .i64 0, .int .i64 0, .string ⟨#[]⟩, .bool false] := (blk_new' (w := (w.alloc _).alloc _) rfl (by simp)).below H2
  have hfz := fun o => zb.frozen o
  have q0 := zb.cell 0
  have q1 := zb.cell 1
  have q2 := zb.cell 2
  have q3 := zb.cell 3
  have hl1 := zb.lt
  have ZB := Lib.hid zb
  have HB := Lib.hid (H2).from3
  clear h1 h2 H2 zb
  go_wp2
  refine bodyPost_ret (results_cv (s := 6) (k := 7) rfl rfl rfl (val_set ZB.out _ _ _ _)) rfl ⟨rfl, Lib.hid (by have hb := HB.out; have hs := hb.size; go_grown)⟩
 | true =>
  have hn2 := Lib.hid (show ∀ W g, Blk W g 26 #[.int .i64 a.kind, .int .i64 a.int, .string a.text, .bool a.bool, .int .i64 b.kind, .int .i64 b.int, .string b.text, .bool b.bool] → Calls Tryz.prog 151 #[.slice (some ⟨g, 0, none⟩) 2 2] W fun e w' => e = .returned (.bool (nullB a || nullB b)) ∧ Hid (Below W.heap.size W w') from fun W g z => (null72 W _ 2 2 [a, b] (ValsAt.two z) (by omega)).mono fun e w' h => by simpa using h)
  have K1 := Lib.hid h1
  cases h3 : nullB a || nullB b with
  | true =>
   have e : comparedP a b soLess = (Val.null, none) := by simp [comparedP, h1, h3]
   rw [e]
   rw [h3] at hn2
   clear e h1 h3
   go_enter Tryz.func153, Tryz.ntmps153
   go_wp2_with fail
   refine (known87 _ a b).mono ?_
   rw [K1.out]
   rintro e w1 ⟨rfl, h1⟩
   obtain ⟨hc, hf⟩ := bcell h1.out
   go_wp2_with fail
   refine (hn2.out _ _ (blk_new' rfl rfl)).mono ?_
   rintro e w2 ⟨rfl, h2⟩
   have H2 := bt h2.out.from1 h1.out
   clear hc hf h2
   go_wp2_with fail
   refine (null34 _).mono ?_
   rintro e w3 ⟨rfl, h3⟩
   have H3 := bt h3.out H2
   have zb : Blk w3 (w.heap.size + 1 + 1) 26 #[.int .i64 0, .int .i64 0, .string ⟨#[]⟩, .bool false] := (blk_new' (w := (w.alloc _).alloc _) rfl (by simp)).below H3
   have hfz := fun o => zb.frozen o
   have q0 := zb.cell 0
   have q1 := zb.cell 1
   have q2 := zb.cell 2
   have q3 := zb.cell 3
   have hl1 := zb.lt
   have ZB := Lib.hid zb
   have HB := Lib.hid (H3).from3
   clear h1 h3 H2 H3 zb
   go_wp2
   refine bodyPost_ret (results_cv (s := 6) (k := 7) rfl rfl rfl (val_set ZB.out _ _ _ _)) rfl ⟨rfl, Lib.hid (by have hb := HB.out; have hs := hb.size; go_grown)⟩
  | false =>
   obtain ⟨cc, hcc⟩ : ∃ cc, cc = compareP a b := ⟨_, rfl⟩
   have e : comparedP a b soLess = (Val.ofBool (soLess cc), none) := by simp [comparedP, h1, h3, hcc]
   rw [e]
   rw [h3] at hn2
   have HCC := Lib.hid hcc
   clear e h1 h3 hcc
   go_enter Tryz.func153, Tryz.ntmps153
   go_wp2_with fail
   refine (known87 _ a b).mono ?_
   rw [K1.out]
   rintro e w1 ⟨rfl, h1⟩
   obtain ⟨hc, hf⟩ := bcell h1.out
   go_wp2_with fail
   refine (hn2.out _ _ (blk_new' rfl rfl)).mono ?_
   rintro e w2 ⟨rfl, h2⟩
   have H2 := bt h2.out.from1 h1.out
   clear hc hf h2
   obtain ⟨hc, hf⟩ := bcell H2
   go_wp2_with fail
   refine (compare43 _ a b).mono ?_
   rw [← HCC.out]
   rintro e w3 ⟨rfl, h3⟩
   have H3 := bt h3.out H2
   clear hc hf h3
   go_wp2_with fail
   refine (clo75 _ _).mono ?_
   rintro e w4 ⟨rfl, rfl⟩
   go_wp2_with fail
   refine (bool52 _ _).mono ?_
   rintro e w5 ⟨rfl, h5⟩
   have H5 := bt h5.out H3
   have zb : Blk w5 (w.heap.size + 1 + 1) 26 #[.int .i64 0, .int .i64 0, .string ⟨#[]⟩, .bool false] := (blk_new' (w := (w.alloc _).alloc _) rfl (by simp)).below H5
   have hfz := fun o => zb.frozen o
   have q0 := zb.cell 0
   have q1 := zb.cell 1
   have q2 := zb.cell 2
   have q3 := zb.cell 3
   have hl1 := zb.lt
   have ZB := Lib.hid zb
   have HB := Lib.hid (H5).from3
   clear h1 h5 H2 H3 H5 zb
   go_wp2
   refine bodyPost_ret (results_cv (s := 6) (k := 7) rfl rfl rfl (val_set ZB.out _ _ _ _)) rfl ⟨rfl, Lib.hid (by have hb := HB.out; have hs := hb.size; go_grown)⟩

set_option maxRecDepth 20000 in
set_option maxHeartbeats 4000000 in
theorem compared74_77 (w : World) (a b : Val) : Calls Tryz.prog 153 #[.agg #[.int .i64 a.kind, .int .i64 a.int, .string a.text, .bool a.bool], .agg #[.int .i64 b.kind, .int .i64 b.int, .string b.text, .bool b.bool], .func (.func 156) #[] #[]] w fun e w' => e = .returned (resV (comparedP a b soEqual)) ∧ Hid (Below w.heap.size w w') := by
 cases h1 : knownB a b with
 | false =>
  have e : comparedP a b soEqual = (Val.null, some 7) := by simp [comparedP, h1]
  rw [e]
  have K1 := Lib.hid h1
  clear e h1
  go_enter Tryz.func153, Tryz.ntmps153
  go_wp2_with fail
  refine (known87 _ a b).mono ?_
  rw [K1.out]
  rintro e w1 ⟨rfl, h1⟩
  go_wp2_with fail
  refine (null34 _).mono ?_
  rintro e w2 ⟨rfl, h2⟩
  have H2 := bt h2.out h1.out
  have zb : Blk w2 (w.heap.size + 1 + 1) 26 #[.int .i64 0, .int .i64 0, .string ⟨#[]⟩, .bool false] := (blk_new' (w := (w.alloc _).alloc _) rfl (by simp)).below H2
  have hfz := fun o => zb.frozen o
  have q0 := zb.cell 0
  have q1 := zb.cell 1
  have q2 := zb.cell 2
  have q3 := zb.cell 3
  have hl1 := zb.lt
  have ZB := Lib.hid zb
  have HB := Lib.hid (H2).from3
  clear h1 h2 H2 zb
  go_wp2
  refine bodyPost_ret (results_cv (s := 6) (k := 7) rfl rfl rfl (val_set ZB.out _ _ _ _)) rfl ⟨rfl, Lib.hid (by have hb := HB.out; have hs := hb.size; go_grown)⟩
 | true =>
  have hn2 := Lib.hid (show ∀ W g, Blk W g 26 #[.int .i64 a.kind, .int .i64 a.int, .string a.text, .bool a.bool, .int .i64 b.kind, .int .i64 b.int, .string b.text, .bool b.bool] → Calls Tryz.prog 151 #[.slice (some ⟨g, 0, none⟩) 2 2] W fun e w' => e = .returned (.bool (nullB a || nullB b)) ∧ Hid (Below W.heap.size W w') from fun W g z => (null72 W _ 2 2 [a, b] (ValsAt.two z) (by omega)).mono fun e w' h => by simpa using h)
  have K1 := Lib.hid h1
  cases h3 : nullB a || nullB b with
  | true =>
   have e : comparedP a b soEqual = (Val.null, none) := by simp [comparedP, h1, h3]
   rw [e]
   rw [h3] at hn2
   clear e h1 h3
   go_enter Tryz.func153, Tryz.ntmps153
   go_wp2_with fail
   refine (known87 _ a b).mono ?_
   rw [K1.out]
   rintro e w1 ⟨rfl, h1⟩
   obtain ⟨hc, hf⟩ := bcell h1.out
   go_wp2_with fail
   refine (hn2.out _ _ (blk_new' rfl rfl)).mono ?_
   rintro e w2 ⟨rfl, h2⟩
   have H2 := bt h2.out.from1 h1.out
   clear hc hf h2
   go_wp2_with fail
   refine (null34 _).mono ?_
   rintro e w3 ⟨rfl, h3⟩
   have H3 := bt h3.out H2
   have zb : Blk w3 (w.heap.size + 1 + 1) 26 #[.int .i64 0, .int .i64 0, .string ⟨#[]⟩, .bool false] := (blk_new' (w := (w.alloc _).alloc _) rfl (by simp)).below H3
   have hfz := fun o => zb.frozen o
   have q0 := zb.cell 0
   have q1 := zb.cell 1
   have q2 := zb.cell 2
   have q3 := zb.cell 3
   have hl1 := zb.lt
   have ZB := Lib.hid zb
   have HB := Lib.hid (H3).from3
   clear h1 h3 H2 H3 zb
   go_wp2
   refine bodyPost_ret (results_cv (s := 6) (k := 7) rfl rfl rfl (val_set ZB.out _ _ _ _)) rfl ⟨rfl, Lib.hid (by have hb := HB.out; have hs := hb.size; go_grown)⟩
  | false =>
   obtain ⟨cc, hcc⟩ : ∃ cc, cc = compareP a b := ⟨_, rfl⟩
   have e : comparedP a b soEqual = (Val.ofBool (soEqual cc), none) := by simp [comparedP, h1, h3, hcc]
   rw [e]
   rw [h3] at hn2
   have HCC := Lib.hid hcc
   clear e h1 h3 hcc
   go_enter Tryz.func153, Tryz.ntmps153
   go_wp2_with fail
   refine (known87 _ a b).mono ?_
   rw [K1.out]
   rintro e w1 ⟨rfl, h1⟩
   obtain ⟨hc, hf⟩ := bcell h1.out
   go_wp2_with fail
   refine (hn2.out _ _ (blk_new' rfl rfl)).mono ?_
   rintro e w2 ⟨rfl, h2⟩
   have H2 := bt h2.out.from1 h1.out
   clear hc hf h2
   obtain ⟨hc, hf⟩ := bcell H2
   go_wp2_with fail
   refine (compare43 _ a b).mono ?_
   rw [← HCC.out]
   rintro e w3 ⟨rfl, h3⟩
   have H3 := bt h3.out H2
   clear hc hf h3
   go_wp2_with fail
   refine (clo77 _ _).mono ?_
   rintro e w4 ⟨rfl, rfl⟩
   go_wp2_with fail
   refine (bool52 _ _).mono ?_
   rintro e w5 ⟨rfl, h5⟩
   have H5 := bt h5.out H3
   have zb : Blk w5 (w.heap.size + 1 + 1) 26 #[.int .i64 0, .int .i64 0, .string ⟨#[]⟩, .bool false] := (blk_new' (w := (w.alloc _).alloc _) rfl (by simp)).below H5
   have hfz := fun o => zb.frozen o
   have q0 := zb.cell 0
   have q1 := zb.cell 1
   have q2 := zb.cell 2
   have q3 := zb.cell 3
   have hl1 := zb.lt
   have ZB := Lib.hid zb
   have HB := Lib.hid (H5).from3
   clear h1 h5 H2 H3 H5 zb
   go_wp2
   refine bodyPost_ret (results_cv (s := 6) (k := 7) rfl rfl rfl (val_set ZB.out _ _ _ _)) rfl ⟨rfl, Lib.hid (by have hb := HB.out; have hs := hb.size; go_grown)⟩

set_option maxRecDepth 20000 in
set_option maxHeartbeats 4000000 in
theorem less53 (w : World) (a b : Val) : Calls Tryz.prog 111 #[.agg #[.int .i64 a.kind, .int .i64 a.int, .string a.text, .bool a.bool], .agg #[.int .i64 b.kind, .int .i64 b.int, .string b.text, .bool b.bool]] w fun e w' => e = .returned (resV (lessP a b)) ∧ Hid (Below w.heap.size w w') := by
 have HC := Lib.hid (compared74_75 (((w.alloc (.cells #[.int .i64 a.kind, .int .i64 a.int, .string a.text, .bool a.bool] 26)).alloc (.cells #[.int .i64 b.kind, .int .i64 b.int, .string b.text, .bool b.bool] 26)).alloc (.cells #[.int .i64 0, .int .i64 0, .string ⟨#[]⟩, .bool false] 26)) a b)
 obtain ⟨r, hr⟩ : ∃ r, r = lessP a b := ⟨_, rfl⟩
 rw [show comparedP a b soLess = r from hr.symm] at HC
 rw [← hr]
 clear hr
 obtain ⟨⟨rk, ri, rs, rb⟩, re⟩ := r
 go_enter Tryz.func111, Tryz.ntmps111
 go_wp2_with fail
 refine HC.out.mono ?_
 clear HC
 rintro e w1 ⟨rfl, h1⟩
 have zb : Blk w1 (w.heap.size + 1 + 1) 26 #[.int .i64 0, .int .i64 0, .string ⟨#[]⟩, .bool false] := (blk_new' (w := (w.alloc _).alloc _) rfl (by simp)).below h1.out
 have hfz := fun o => zb.frozen o
 have q0 := zb.cell 0
 have q1 := zb.cell 1
 have q2 := zb.cell 2
 have q3 := zb.cell 3
 have hl1 := zb.lt
 have ZB := Lib.hid zb
 have HB := Lib.hid (h1.out).from3
 clear h1 zb
 simp only [resV, Val.cells]
 go_wp2
 refine bodyPost_ret (results_cv (s := 4) (k := 5) rfl rfl rfl (val_set ZB.out _ _ _ _)) rfl ⟨rfl, Lib.hid (by have hb := HB.out; have hs := hb.size; go_grown)⟩

set_option maxRecDepth 20000 in
set_option maxHeartbeats 4000000 in
theorem equal56 (w : World) (a b : Val) : Calls Tryz.prog 114 #[.agg #[.int .i64 a.kind, .int .i64 a.int, .string a.text, .bool a.bool], .agg #[.int .i64 b.kind, .int .i64 b.int, .string b.text, .bool b.bool]] w fun e w' => e = .returned (resV (equalP a b)) ∧ Hid (Below w.heap.size w w') := by
 have HC := Lib.hid (compared74_77 (((w.alloc (.cells #[.int .i64 a.kind, .int .i64 a.int, .string a.text, .bool a.bool] 26)).alloc (.cells #[.int .i64 b.kind, .int .i64 b.int, .string b.text, .bool b.bool] 26)).alloc (.cells #[.int .i64 0, .int .i64 0, .string ⟨#[]⟩, .bool false] 26)) a b)
 obtain ⟨r, hr⟩ : ∃ r, r = equalP a b := ⟨_, rfl⟩
 rw [show comparedP a b soEqual = r from hr.symm] at HC
 rw [← hr]
 clear hr
 obtain ⟨⟨rk, ri, rs, rb⟩, re⟩ := r
 go_enter Tryz.func114, Tryz.ntmps114
 go_wp2_with fail
 refine HC.out.mono ?_
 clear HC
 rintro e w1 ⟨rfl, h1⟩
 have zb : Blk w1 (w.heap.size + 1 + 1) 26 #[.int .i64 0, .int .i64 0, .string ⟨#[]⟩, .bool false] := (blk_new' (w := (w.alloc _).alloc _) rfl (by simp)).below h1.out
 have hfz := fun o => zb.frozen o
 have q0 := zb.cell 0
 have q1 := zb.cell 1
 have q2 := zb.cell 2
 have q3 := zb.cell 3
 have hl1 := zb.lt
 have ZB := Lib.hid zb
 have HB := Lib.hid (h1.out).from3
 clear h1 zb
 simp only [resV, Val.cells]
 go_wp2
 refine bodyPost_ret (results_cv (s := 4) (k := 5) rfl rfl rfl (val_set ZB.out _ _ _ _)) rfl ⟨rfl, Lib.hid (by have hb := HB.out; have hs := hb.size; go_grown)⟩

end Go.Proofs.YtbcmmecilheicaaGreatDoor
