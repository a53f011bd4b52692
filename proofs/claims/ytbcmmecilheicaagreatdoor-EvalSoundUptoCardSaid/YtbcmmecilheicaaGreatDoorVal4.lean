/- value.And, Or; Kind, known, Compare. -/
import Derived.Test.YtbcmmecilheicaaGreatDoorVal3
namespace Go.Proofs.YtbcmmecilheicaaGreatDoor
open Go Go.RowKit

def andP (a b : Val) : Res := eitherP ⟨a.kind, 0, ⟨#[]⟩, a.bool⟩ ⟨b.kind, 0, ⟨#[]⟩, b.bool⟩ false
def orP (a b : Val) : Res := eitherP ⟨a.kind, 0, ⟨#[]⟩, a.bool⟩ ⟨b.kind, 0, ⟨#[]⟩, b.bool⟩ true

set_option maxRecDepth 20000 in
set_option maxHeartbeats 4000000 in
theorem and54 (w : World) (a b : Val) : Calls Tryz.prog 112 #[.agg #[.int .i64 a.kind, .int .i64 a.int, .string a.text, .bool a.bool], .agg #[.int .i64 b.kind, .int .i64 b.int, .string b.text, .bool b.bool]] w fun e w' => e = .returned (resV (andP a b)) ∧ Hid (Below w.heap.size w w') := by
  have hc := either76 (((w.alloc (.cells #[.int .i64 a.kind, .int .i64 a.int, .string a.text, .bool a.bool] 26)).alloc (.cells #[.int .i64 b.kind, .int .i64 b.int, .string b.text, .bool b.bool] 26)).alloc (.cells #[.int .i64 0, .int .i64 0, .string ⟨#[]⟩, .bool false] 26)) a.kind b.kind a.bool b.bool false
  obtain ⟨r, hr⟩ : ∃ r, r = andP a b := ⟨_, rfl⟩
  rw [show eitherP ⟨a.kind, 0, ⟨#[]⟩, a.bool⟩ ⟨b.kind, 0, ⟨#[]⟩, b.bool⟩ false = r from hr.symm] at hc
  rw [← hr]
  have HC := Lib.hid hc
  clear hc hr
  obtain ⟨⟨rk, ri, rs, rb⟩, re⟩ := r
  go_enter Tryz.func112, Tryz.ntmps112
  go_wp2_with fail
  refine HC.out.mono ?_
  clear HC
  rintro e w1 ⟨rfl, h1⟩
  have zb : Blk w1 (w.heap.size + 1 + 1) 26 #[.int .i64 0, .int .i64 0, .string ⟨#[]⟩, .bool false] := (blk_new' (w := (w.alloc _).alloc _) rfl (by simp)).below h1.out
  have hfz := fun o => zb.frozen o
  have q0 := zb.cell 0
  have q1 := zb.cell 1
  have q2 := zb.cell 2
  have q3 := zb.cell 3
  have hl1 := zb.lt
  have ZB := Lib.hid zb
  have HB := Lib.hid h1.out.from3
  clear h1 zb
  simp only [resV, Val.cells]
  go_wp2
  refine bodyPost_ret (results_cv (s := 4) (k := 5) rfl rfl rfl (val_set ZB.out _ _ _ _)) rfl ⟨rfl, Lib.hid (by have hb := HB.out; have hs := hb.size; go_grown)⟩

set_option maxRecDepth 20000 in
set_option maxHeartbeats 4000000 in
theorem or55 (w : World) (a b : Val) : Calls Tryz.prog 113 #[.agg #[.int .i64 a.kind, .int .i64 a.int, .string a.text, .bool a.bool], .agg #[.int .i64 b.kind, .int .i64 b.int, .string b.text, .bool b.bool]] w fun e w' => e = .returned (resV (orP a b)) ∧ Hid (Below w.heap.size w w') := by
  have hc := either76 (((w.alloc (.cells #[.int .i64 a.kind, .int .i64 a.int, .string a.text, .bool a.bool] 26)).alloc (.cells #[.int .i64 b.kind, .int .i64 b.int, .string b.text, .bool b.bool] 26)).alloc (.cells #[.int .i64 0, .int .i64 0, .string ⟨#[]⟩, .bool false] 26)) a.kind b.kind a.bool b.bool true
  obtain ⟨r, hr⟩ : ∃ r, r = orP a b := ⟨_, rfl⟩
  rw [show eitherP ⟨a.kind, 0, ⟨#[]⟩, a.bool⟩ ⟨b.kind, 0, ⟨#[]⟩, b.bool⟩ true = r from hr.symm] at hc
  rw [← hr]
  have HC := Lib.hid hc
  clear hc hr
  obtain ⟨⟨rk, ri, rs, rb⟩, re⟩ := r
  go_enter Tryz.func113, Tryz.ntmps113
  go_wp2_with fail
  refine HC.out.mono ?_
  clear HC
  rintro e w1 ⟨rfl, h1⟩
  have zb : Blk w1 (w.heap.size + 1 + 1) 26 #[.int .i64 0, .int .i64 0, .string ⟨#[]⟩, .bool false] := (blk_new' (w := (w.alloc _).alloc _) rfl (by simp)).below h1.out
  have hfz := fun o => zb.frozen o
  have q0 := zb.cell 0
  have q1 := zb.cell 1
  have q2 := zb.cell 2
  have q3 := zb.cell 3
  have hl1 := zb.lt
  have ZB := Lib.hid zb
  have HB := Lib.hid h1.out.from3
  clear h1 zb
  simp only [resV, Val.cells]
  go_wp2
  refine bodyPost_ret (results_cv (s := 4) (k := 5) rfl rfl rfl (val_set ZB.out _ _ _ _)) rfl ⟨rfl, Lib.hid (by have hb := HB.out; have hs := hb.size; go_grown)⟩

def kindS (k : Int) : ByteArray := if k = 0 then ⟨#[78, 85, 76, 76]⟩ else if k = 1 then ⟨#[73, 78, 84]⟩ else if k = 2 then ⟨#[84, 69, 88, 84]⟩ else if k = 3 then ⟨#[66, 79, 79, 76]⟩ else ⟨#[]⟩
set_option maxHeartbeats 2000000 in
theorem kind96 (w : World) (k : Int) : Calls Tryz.prog 39 #[.int .i64 k] w fun e w' => e = .returned (.string (kindS k)) ∧ w = w' := by
  by_cases h0 : k = 0
  · subst h0
    go_enter Tryz.func39, Tryz.ntmps39
    go_wp2
    go_ret
    exact ⟨rfl, rfl⟩
  · by_cases h1 : k = 1
    · subst h1
      go_enter Tryz.func39, Tryz.ntmps39
      go_wp2
      go_ret
      exact ⟨rfl, rfl⟩
    · by_cases h2 : k = 2
      · subst h2
        go_enter Tryz.func39, Tryz.ntmps39
        go_wp2
        go_ret
        exact ⟨rfl, rfl⟩
      · by_cases h3 : k = 3
        · subst h3
          go_enter Tryz.func39, Tryz.ntmps39
          go_wp2
          go_ret
          exact ⟨rfl, rfl⟩
        · have e : kindS k = ⟨#[]⟩ := by simp [kindS, h0, h1, h2, h3]
          rw [e]
          have b0 : (k == 0) = false := by simpa using h0
          have b1 : (k == 1) = false := by simpa using h1
          have b2 : (k == 2) = false := by simpa using h2
          have b3 : (k == 3) = false := by simpa using h3
          clear e
          go_enter Tryz.func39, Tryz.ntmps39
          go_wp2
          go_ret
          exact ⟨rfl, rfl⟩
theorem neq_nil (W : World) : (binOp BinOp.neq 9 (.string ⟨#[]⟩) (.string ⟨#[]⟩)).run Tryz.prog W = .ok (.bool false) W := by kernel_rfl
theorem kindS_ne (k : Int) (W : World) : (binOp BinOp.neq 9 (.string (kindS k)) (.string ⟨#[]⟩)).run Tryz.prog W = .ok (.bool (kindOk k)) W := by
  by_cases h0 : k = 0
  · subst h0; kernel_rfl
  · by_cases h1 : k = 1
    · subst h1; kernel_rfl
    · by_cases h2 : k = 2
      · subst h2; kernel_rfl
      · by_cases h3 : k = 3
        · subst h3; kernel_rfl
        · have e : kindS k = ⟨#[]⟩ := by simp [kindS, h0, h1, h2, h3]
          have e2 : kindOk k = false := by simp [kindOk, h0, h1, h2, h3]
          rw [e, e2]
          exact neq_nil W

def cmpI (x y : Int) : Int := if x < y then -1 else if y < x then 1 else 0
def cmpS (x y : ByteArray) : Int := if Op.bytesLess x.toList y.toList = true then -1 else if (x.toList == y.toList) = true then 0 else 1
set_option maxHeartbeats 2000000 in
theorem cmp63 (w : World) (x y : Int) : Calls Tryz.prog 132 #[.int .i64 x, .int .i64 y] w fun e w' => e = .returned (.int .i64 (cmpI x y)) ∧ w = w' := by
  by_cases h1 : x < y
  · have r : cmpI x y = -1 := by simp [cmpI, h1]
    rw [r]
    clear r
    go_enter Tryz.func132, Tryz.ntmps132
    go_wp2
    go_ret
    exact ⟨rfl, rfl⟩
  · by_cases h2 : y < x
    · have r : cmpI x y = 1 := by simp [cmpI, h1, h2]
      rw [r]
      clear r
      go_enter Tryz.func132, Tryz.ntmps132
      go_wp2
      go_ret
      exact ⟨rfl, rfl⟩
    · have r : cmpI x y = 0 := by simp [cmpI, h1, h2]
      rw [r]
      clear r
      go_enter Tryz.func132, Tryz.ntmps132
      go_wp2
      go_ret
      exact ⟨rfl, rfl⟩
set_option maxHeartbeats 2000000 in
theorem cmp64 (w : World) (x y : ByteArray) : Calls Tryz.prog 133 #[.string x, .string y] w fun e w' => e = .returned (.int .i64 (cmpS x y)) ∧ w = w' := by
  cases h1 : Op.bytesLess x.toList y.toList with
  | true =>
    have r : cmpS x y = -1 := by simp [cmpS, h1]
    rw [r]
    clear r
    go_enter Tryz.func133, Tryz.ntmps133
    go_wp2
    go_ret
    exact ⟨rfl, rfl⟩
  | false =>
    cases h2 : x.toList == y.toList with
    | true =>
      have r : cmpS x y = 0 := by simp only [cmpS, h1, h2]; rfl
      rw [r]
      clear r
      go_enter Tryz.func133, Tryz.ntmps133
      go_wp2
      go_ret
      exact ⟨rfl, rfl⟩
    | false =>
      have r : cmpS x y = 1 := by simp only [cmpS, h1, h2]; rfl
      rw [r]
      clear r
      go_enter Tryz.func133, Tryz.ntmps133
      go_wp2
      go_ret
      exact ⟨rfl, rfl⟩

def compareP (a b : Val) : Int :=
  if a.kind < b.kind then -1 else if b.kind < a.kind then 1
  else if a.kind = 1 then cmpI a.int b.int else if a.kind = 2 then cmpS a.text b.text
  else if a.kind = 3 then (if a.bool = b.bool then 0 else if a.bool = true then 1 else -1) else 0

set_option maxRecDepth 20000 in
set_option maxHeartbeats 4000000 in
theorem compare43 (w : World) (a b : Val) : Calls Tryz.prog 95 #[.agg #[.int .i64 a.kind, .int .i64 a.int, .string a.text, .bool a.bool], .agg #[.int .i64 b.kind, .int .i64 b.int, .string b.text, .bool b.bool]] w fun e w' => e = .returned (.int .i64 (compareP a b)) ∧ Hid (Below w.heap.size w w') := by
  obtain ⟨ka, ia, ta, ba⟩ := a
  obtain ⟨kb, ib, tb, bb⟩ := b
  simp only
  obtain ⟨r, hr⟩ : ∃ r, r = compareP ⟨ka, ia, ta, ba⟩ ⟨kb, ib, tb, bb⟩ := ⟨_, rfl⟩
  rw [← hr]
  by_cases h1 : ka < kb
  · have hk : cmpI ka kb = -1 := by simp [cmpI, h1]
    have e : r = -1 := by rw [hr]; simp [compareP, h1]
    subst e
    clear hr h1
    go_enter Tryz.func95, Tryz.ntmps95
    go_wp2_with (go_at_call 132; refine (cmp63 _ _ _).mono ?_; rw [hk]; rintro e w1 ⟨rfl, rfl⟩)
    go_ret
    exact ⟨rfl, Lib.hid ((below_alloc _ _).trans ((below_alloc _ _).mono (by simp)))⟩
  · by_cases h2 : kb < ka
    · have hk : cmpI ka kb = 1 := by simp [cmpI, h1, h2]
      have e : r = 1 := by rw [hr]; simp [compareP, h1, h2]
      subst e
      clear hr h1 h2
      go_enter Tryz.func95, Tryz.ntmps95
      go_wp2_with (go_at_call 132; refine (cmp63 _ _ _).mono ?_; rw [hk]; rintro e w1 ⟨rfl, rfl⟩)
      go_ret
      exact ⟨rfl, Lib.hid ((below_alloc _ _).trans ((below_alloc _ _).mono (by simp)))⟩
    · obtain rfl : ka = kb := by omega
      have hk : cmpI ka ka = 0 := by simp [cmpI]
      by_cases k1 : ka = 1
      · subst k1
        have e : cmpI ia ib = r := by rw [hr]; simp [compareP]
        clear hr h1 h2
        go_enter Tryz.func95, Tryz.ntmps95
        go_wp2_with fail
        refine (cmp63 _ _ _).mono ?_
        rw [hk]
        rintro e w1 ⟨rfl, rfl⟩
        go_wp2_with fail
        refine (cmp63 _ _ _).mono ?_
        rw [e]
        rintro e w1 ⟨rfl, rfl⟩
        go_wp2_with fail
        go_ret
        exact ⟨rfl, Lib.hid ((below_alloc _ _).trans ((below_alloc _ _).mono (by simp)))⟩
      · by_cases k2 : ka = 2
        · subst k2
          have e : cmpS ta tb = r := by rw [hr]; simp [compareP]
          clear hr h1 h2 k1
          go_enter Tryz.func95, Tryz.ntmps95
          go_wp2_with fail
          refine (cmp63 _ _ _).mono ?_
          rw [hk]
          rintro e w1 ⟨rfl, rfl⟩
          go_wp2_with fail
          refine (cmp64 _ _ _).mono ?_
          rw [e]
          rintro e w1 ⟨rfl, rfl⟩
          go_wp2_with fail
          go_ret
          exact ⟨rfl, Lib.hid ((below_alloc _ _).trans ((below_alloc _ _).mono (by simp)))⟩
        · by_cases k3 : ka = 3
          · subst k3
            clear h1 h2 k1 k2
            cases ba <;> cases bb
            all_goals
              simp [compareP] at hr
              subst hr
              go_enter Tryz.func95, Tryz.ntmps95
              go_wp2_with (go_at_call 132; refine (cmp63 _ _ _).mono ?_; rw [hk]; rintro e w1 ⟨rfl, rfl⟩)
              go_ret
              exact ⟨rfl, Lib.hid ((below_alloc _ _).trans ((below_alloc _ _).mono (by simp)))⟩
          · have e : 0 = r := by rw [hr]; simp [compareP, k1, k2, k3]
            subst e
            have b1 : (ka == 1) = false := by simpa using k1
            have b2 : (ka == 2) = false := by simpa using k2
            have b3 : (ka == 3) = false := by simpa using k3
            clear hr h1 h2 k1 k2 k3
            go_enter Tryz.func95, Tryz.ntmps95
            go_wp2_with (go_at_call 132; refine (cmp63 _ _ _).mono ?_; rw [hk]; rintro e w1 ⟨rfl, rfl⟩)
            go_ret
            exact ⟨rfl, Lib.hid ((below_alloc _ _).trans ((below_alloc _ _).mono (by simp)))⟩

end Go.Proofs.YtbcmmecilheicaaGreatDoor
