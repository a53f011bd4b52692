/- math/bits.Mul64, value.size, product: some function of two numbers. value.product: some function of two numbers. value.number: some function of two numbers, for each sign. -/
import Derived.Test.YtbcmmecilheicaaGreatDoorEvV

/- math/bits.Mul64, value.size, product: some function of two numbers. -/
namespace Go.Proofs.YtbcmmecilheicaaGreatDoor
open Go Go.RowKit

set_option maxHeartbeats 2000000 in
theorem mul94_ex (x y : Int) : ∃ hi lo : Int, ∀ w, Calls Tryz.prog 182 #[.int .u64 x, .int .u64 y] w fun e w' => e = .returned (.tuple #[.int .u64 hi, .int .u64 lo]) ∧ w = w' := by
 apply Exists.intro
 apply Exists.intro
 intro w
 go_enter Tryz.func182, Tryz.ntmps182
 go_wp2
 go_ret2
 exact ⟨rfl, rfl⟩
def sizeP (x : Int) : Int := if x < 0 then IntKind.u64.wrap (-IntKind.u64.wrap x) else IntKind.u64.wrap x
theorem ret_u {a b : Int} (h : a = b) : Ending.returned (.int .u64 a) = .returned (.int .u64 b) := by rw [h]
set_option maxHeartbeats 1000000 in
theorem size95a (x : Int) (h : x < 0) (w : World) : Calls Tryz.prog 183 #[.int .i64 x] w fun e w' => e = .returned (.int .u64 (sizeP x)) ∧ w = w' := by
 have e : IntKind.u64.wrap (-IntKind.u64.wrap x) = sizeP x := by simp [sizeP, h]
 go_enter Tryz.func183, Tryz.ntmps183
 go_wp2
 go_ret
 exact ⟨rfl, rfl⟩
set_option maxHeartbeats 1000000 in
theorem size95b (x : Int) (h : ¬ x < 0) (w : World) : Calls Tryz.prog 183 #[.int .i64 x] w fun e w' => e = .returned (.int .u64 (sizeP x)) ∧ w = w' := by
 have e := Lib.hid (show IntKind.u64.wrap x = sizeP x by simp [sizeP, h])
 have hd : decide (x < 0) = false := by simpa using h
 clear h
 go_enter Tryz.func183, Tryz.ntmps183
 go_wp2
 go_ret
 exact ⟨ret_u e.out, rfl⟩
theorem size95 (x : Int) (w : World) : Calls Tryz.prog 183 #[.int .i64 x] w fun e w' => e = .returned (.int .u64 (sizeP x)) ∧ w = w' := by
 by_cases h : x < 0
 ·exact size95a x h w
 ·exact size95b x h w

end Go.Proofs.YtbcmmecilheicaaGreatDoor

/- value.product: some function of two numbers. -/
namespace Go.Proofs.YtbcmmecilheicaaGreatDoor
open Go Go.RowKit

/-- an error of numbers, or none -/
def numErr (er : Option Int) : Prop := er = none ∨ er = some 5 ∨ er = some 6

set_option maxRecDepth 20000 in
set_option maxHeartbeats 2000000 in
theorem product86_in (x y sx sy hi lo : Int) (H1 : Hid (∀ w, Calls Tryz.prog 183 #[.int .i64 x] w fun e w' => e = .returned (.int .u64 sx) ∧ w = w')) (H2 : Hid (∀ w, Calls Tryz.prog 183 #[.int .i64 y] w fun e w' => e = .returned (.int .u64 sy) ∧ w = w'))
  (HM : Hid (∀ w, Calls Tryz.prog 182 #[.int .u64 sx, .int .u64 sy] w fun e w' => e = .returned (.tuple #[.int .u64 hi, .int .u64 lo]) ∧ w = w')) (s t b1 b2 b3 : Bool) (hx : decide (x < 0) = s) (hy : decide (y < 0) = t) (a1 : (hi != 0) = b1) (a2 : decide (9223372036854775808 < lo) = b2) (a3 : (lo == 9223372036854775808) = b3) :
  ∃ (er : Option Int) (n : Int), numErr er ∧ ∀ w, Calls Tryz.prog 172 #[.int .i64 x, .int .i64 y] w fun e w' => e = .returned (.tuple #[.int .i64 n, errV er]) ∧ w = w' := by
 cases b1 with
 | true =>
  clear a2 a3
  cases s <;> cases t
  all_goals
   refine ⟨some 5, 0, .inr (.inl rfl), fun w => ?_⟩
   go_enter Tryz.func172, Tryz.ntmps172
   go_wp2_with fail
   refine (H1.out _).mono ?_
   rintro e w1 ⟨rfl, rfl⟩
   go_wp2_with fail
   refine (H2.out _).mono ?_
   rintro e w1 ⟨rfl, rfl⟩
   go_wp2_with fail
   refine (HM.out _).mono ?_
   rintro e w1 ⟨rfl, rfl⟩
   go_wp2_with fail
   go_ret2
   exact ⟨rfl, rfl⟩
 | false =>
  cases b2 with
  | true =>
   clear a3
   cases s <;> cases t
   all_goals
    refine ⟨some 5, 0, .inr (.inl rfl), fun w => ?_⟩
    go_enter Tryz.func172, Tryz.ntmps172
    go_wp2_with fail
    refine (H1.out _).mono ?_
    rintro e w1 ⟨rfl, rfl⟩
    go_wp2_with fail
    refine (H2.out _).mono ?_
    rintro e w1 ⟨rfl, rfl⟩
    go_wp2_with fail
    refine (HM.out _).mono ?_
    rintro e w1 ⟨rfl, rfl⟩
    go_wp2_with fail
    go_ret2
    exact ⟨rfl, rfl⟩
  | false =>
   cases b3 with
   | true =>
    cases s <;> cases t
    ·refine ⟨some 5, 0, .inr (.inl rfl), fun w => ?_⟩
     go_enter Tryz.func172, Tryz.ntmps172
     go_wp2_with fail
     refine (H1.out _).mono ?_
     rintro e w1 ⟨rfl, rfl⟩
     go_wp2_with fail
     refine (H2.out _).mono ?_
     rintro e w1 ⟨rfl, rfl⟩
     go_wp2_with fail
     refine (HM.out _).mono ?_
     rintro e w1 ⟨rfl, rfl⟩
     go_wp2_with fail
     go_ret2
     exact ⟨rfl, rfl⟩
    ·refine ⟨none, ?_⟩
     apply Exists.intro
     refine ⟨.inl rfl, fun w => ?_⟩
     go_enter Tryz.func172, Tryz.ntmps172
     go_wp2_with fail
     refine (H1.out _).mono ?_
     rintro e w1 ⟨rfl, rfl⟩
     go_wp2_with fail
     refine (H2.out _).mono ?_
     rintro e w1 ⟨rfl, rfl⟩
     go_wp2_with fail
     refine (HM.out _).mono ?_
     rintro e w1 ⟨rfl, rfl⟩
     go_wp2_with fail
     go_ret2
     exact ⟨rfl, rfl⟩
    ·refine ⟨none, ?_⟩
     apply Exists.intro
     refine ⟨.inl rfl, fun w => ?_⟩
     go_enter Tryz.func172, Tryz.ntmps172
     go_wp2_with fail
     refine (H1.out _).mono ?_
     rintro e w1 ⟨rfl, rfl⟩
     go_wp2_with fail
     refine (H2.out _).mono ?_
     rintro e w1 ⟨rfl, rfl⟩
     go_wp2_with fail
     refine (HM.out _).mono ?_
     rintro e w1 ⟨rfl, rfl⟩
     go_wp2_with fail
     go_ret2
     exact ⟨rfl, rfl⟩
    ·refine ⟨some 5, 0, .inr (.inl rfl), fun w => ?_⟩
     go_enter Tryz.func172, Tryz.ntmps172
     go_wp2_with fail
     refine (H1.out _).mono ?_
     rintro e w1 ⟨rfl, rfl⟩
     go_wp2_with fail
     refine (H2.out _).mono ?_
     rintro e w1 ⟨rfl, rfl⟩
     go_wp2_with fail
     refine (HM.out _).mono ?_
     rintro e w1 ⟨rfl, rfl⟩
     go_wp2_with fail
     go_ret2
     exact ⟨rfl, rfl⟩
   | false =>
    cases s <;> cases t
    all_goals
     refine ⟨none, ?_⟩
     apply Exists.intro
     refine ⟨.inl rfl, fun w => ?_⟩
     go_enter Tryz.func172, Tryz.ntmps172
     go_wp2_with fail
     refine (H1.out _).mono ?_
     rintro e w1 ⟨rfl, rfl⟩
     go_wp2_with fail
     refine (H2.out _).mono ?_
     rintro e w1 ⟨rfl, rfl⟩
     go_wp2_with fail
     refine (HM.out _).mono ?_
     rintro e w1 ⟨rfl, rfl⟩
     go_wp2_with fail
     go_ret2
     exact ⟨rfl, rfl⟩

theorem product86_ex (x y : Int) : ∃ (er : Option Int) (n : Int), numErr er ∧ ∀ w, Calls Tryz.prog 172 #[.int .i64 x, .int .i64 y] w fun e w' => e = .returned (.tuple #[.int .i64 n, errV er]) ∧ w = w' := by
 obtain ⟨hi, lo, hm⟩ := mul94_ex (sizeP x) (sizeP y)
 exact product86_in x y _ _ hi lo (Lib.hid (size95 x)) (Lib.hid (size95 y)) (Lib.hid hm) _ _ _ _ _ rfl rfl rfl rfl rfl

end Go.Proofs.YtbcmmecilheicaaGreatDoor

/- value.number: some function of two numbers, for each sign. -/
namespace Go.Proofs.YtbcmmecilheicaaGreatDoor
open Go Go.RowKit

set_option maxRecDepth 20000 in
set_option maxHeartbeats 2000000 in
theorem number73_43_in (x y : Int) (b1 b2 : Bool) (h1 : decide (x < wrap64 (x + y)) = b1) (h2 : decide (0 < y) = b2) :
  ∃ (er : Option Int) (n : Int), numErr er ∧ ∀ w, Calls Tryz.prog 152 #[.int .u8 43, .int .i64 x, .int .i64 y] w fun e w' => e = .returned (.tuple #[.int .i64 n, errV er]) ∧ w = w' := by
 cases b1 <;> cases b2
 ·refine ⟨none, ?_⟩
  apply Exists.intro
  refine ⟨.inl rfl, fun w => ?_⟩
  go_enter Tryz.func152, Tryz.ntmps152
  go_wp2_with fail
  go_ret2
  exact ⟨rfl, rfl⟩
 ·refine ⟨some 5, 0, .inr (.inl rfl), fun w => ?_⟩
  go_enter Tryz.func152, Tryz.ntmps152
  go_wp2_with fail
  go_ret2
  exact ⟨rfl, rfl⟩
 ·refine ⟨some 5, 0, .inr (.inl rfl), fun w => ?_⟩
  go_enter Tryz.func152, Tryz.ntmps152
  go_wp2_with fail
  go_ret2
  exact ⟨rfl, rfl⟩
 ·refine ⟨none, ?_⟩
  apply Exists.intro
  refine ⟨.inl rfl, fun w => ?_⟩
  go_enter Tryz.func152, Tryz.ntmps152
  go_wp2_with fail
  go_ret2
  exact ⟨rfl, rfl⟩

set_option maxRecDepth 20000 in
set_option maxHeartbeats 2000000 in
theorem number73_45_in (x y : Int) (b0 b1 b2 b3 : Bool) (h0 : (y == -9223372036854775808) = b0) (h1 : decide (x < wrap64 (x + wrap64 (-y))) = b1) (h2 : decide (0 < wrap64 (-y)) = b2) (h3 : decide (0 ≤ x) = b3) :
  ∃ (er : Option Int) (n : Int), numErr er ∧ ∀ w, Calls Tryz.prog 152 #[.int .u8 45, .int .i64 x, .int .i64 y] w fun e w' => e = .returned (.tuple #[.int .i64 n, errV er]) ∧ w = w' := by
 cases b0 with
 | false =>
  clear h3
  cases b1 <;> cases b2
  ·refine ⟨none, ?_⟩
   apply Exists.intro
   refine ⟨.inl rfl, fun w => ?_⟩
   go_enter Tryz.func152, Tryz.ntmps152
   go_wp2_with fail
   go_ret2
   exact ⟨rfl, rfl⟩
  ·refine ⟨some 5, 0, .inr (.inl rfl), fun w => ?_⟩
   go_enter Tryz.func152, Tryz.ntmps152
   go_wp2_with fail
   go_ret2
   exact ⟨rfl, rfl⟩
  ·refine ⟨some 5, 0, .inr (.inl rfl), fun w => ?_⟩
   go_enter Tryz.func152, Tryz.ntmps152
   go_wp2_with fail
   go_ret2
   exact ⟨rfl, rfl⟩
  ·refine ⟨none, ?_⟩
   apply Exists.intro
   refine ⟨.inl rfl, fun w => ?_⟩
   go_enter Tryz.func152, Tryz.ntmps152
   go_wp2_with fail
   go_ret2
   exact ⟨rfl, rfl⟩
 | true =>
  obtain rfl : y = -9223372036854775808 := by simpa using h0
  clear h1 h2 h0
  cases b3
  ·refine ⟨none, ?_⟩
   apply Exists.intro
   refine ⟨.inl rfl, fun w => ?_⟩
   go_enter Tryz.func152, Tryz.ntmps152
   go_wp2_with fail
   go_ret2
   exact ⟨rfl, rfl⟩
  ·refine ⟨some 5, 0, .inr (.inl rfl), fun w => ?_⟩
   go_enter Tryz.func152, Tryz.ntmps152
   go_wp2_with fail
   go_ret2
   exact ⟨rfl, rfl⟩

set_option maxRecDepth 20000 in
set_option maxHeartbeats 2000000 in
theorem number73_42_in (x y : Int) : ∃ (er : Option Int) (n : Int), numErr er ∧ ∀ w, Calls Tryz.prog 152 #[.int .u8 42, .int .i64 x, .int .i64 y] w fun e w' => e = .returned (.tuple #[.int .i64 n, errV er]) ∧ w = w' := by
 obtain ⟨er, n, he, h⟩ := product86_ex x y
 refine ⟨er, n, he, fun w => ?_⟩
 have HC := Lib.hid (h w)
 clear h
 go_enter Tryz.func152, Tryz.ntmps152
 go_wp2_with (go_at_call 172; refine HC.out.mono ?_; rintro e w1 ⟨rfl, rfl⟩)
 go_ret2
 exact ⟨rfl, rfl⟩

set_option maxRecDepth 20000 in
set_option maxHeartbeats 2000000 in
theorem number73_47_in (x y : Int) (b0 b1 b2 : Bool) (h0 : (y == 0) = b0) (h1 : (y == -1) = b1) (h2 : (x == -9223372036854775808) = b2) (h3 : b0 = false → y ≠ 0) :
  ∃ (er : Option Int) (n : Int), numErr er ∧ ∀ w, Calls Tryz.prog 152 #[.int .u8 47, .int .i64 x, .int .i64 y] w fun e w' => e = .returned (.tuple #[.int .i64 n, errV er]) ∧ w = w' := by
 cases b0 with
 | true =>
  obtain rfl : y = 0 := by simpa using h0
  clear h1 h2 h0 h3
  refine ⟨some 6, 0, .inr (.inr rfl), fun w => ?_⟩
  go_enter Tryz.func152, Tryz.ntmps152
  go_wp2_with fail
  go_ret2
  exact ⟨rfl, rfl⟩
 | false =>
  cases b1 with
  | true =>
   obtain rfl : y = -1 := by simpa using h1
   clear h0 h1 h3
   cases b2 with
   | true =>
    obtain rfl : x = -9223372036854775808 := by simpa using h2
    clear h2
    refine ⟨some 5, 0, .inr (.inl rfl), fun w => ?_⟩
    go_enter Tryz.func152, Tryz.ntmps152
    go_wp2_with fail
    go_ret2
    exact ⟨rfl, rfl⟩
   | false =>
    refine ⟨none, ?_⟩
    apply Exists.intro
    refine ⟨.inl rfl, fun w => ?_⟩
    go_enter Tryz.func152, Tryz.ntmps152
    go_wp2_with fail
    go_ret2
    exact ⟨rfl, rfl⟩
  | false =>
   have hy : y ≠ 0 := h3 rfl
   clear h2 h3
   refine ⟨none, ?_⟩
   apply Exists.intro
   refine ⟨.inl rfl, fun w => ?_⟩
   go_enter Tryz.func152, Tryz.ntmps152
   go_wp2_with fail
   go_ret2
   exact ⟨rfl, rfl⟩

set_option maxRecDepth 20000 in
set_option maxHeartbeats 2000000 in
theorem number73_37_in (x y : Int) (b0 b1 b2 : Bool) (h0 : (y == 0) = b0) (h1 : (y == -1) = b1) (_h2 : (x == -9223372036854775808) = b2) (h3 : b0 = false → y ≠ 0) :
  ∃ (er : Option Int) (n : Int), numErr er ∧ ∀ w, Calls Tryz.prog 152 #[.int .u8 37, .int .i64 x, .int .i64 y] w fun e w' => e = .returned (.tuple #[.int .i64 n, errV er]) ∧ w = w' := by
 cases b0 with
 | true =>
  obtain rfl : y = 0 := by simpa using h0
  clear h1 _h2 h0 h3
  refine ⟨some 6, 0, .inr (.inr rfl), fun w => ?_⟩
  go_enter Tryz.func152, Tryz.ntmps152
  go_wp2_with fail
  go_ret2
  exact ⟨rfl, rfl⟩
 | false =>
  cases b1 with
  | true =>
   obtain rfl : y = -1 := by simpa using h1
   clear h0 h1 h3
   clear _h2
   refine ⟨none, 0, .inl rfl, fun w => ?_⟩
   go_enter Tryz.func152, Tryz.ntmps152
   go_wp2_with fail
   go_ret2
   exact ⟨rfl, rfl⟩
  | false =>
   have hy : y ≠ 0 := h3 rfl
   clear _h2 h3
   refine ⟨none, ?_⟩
   apply Exists.intro
   refine ⟨.inl rfl, fun w => ?_⟩
   go_enter Tryz.func152, Tryz.ntmps152
   go_wp2_with fail
   go_ret2
   exact ⟨rfl, rfl⟩

/-- small numbers added up -/
def smallN (op x y : Int) : Prop := op = 43 ∧ 0 ≤ x ∧ x ≤ 1000 ∧ 0 < y ∧ y ≤ 1000
set_option maxRecDepth 20000 in
set_option maxHeartbeats 2000000 in
theorem number73_small (x y : Int) (h1 : 0 ≤ x) (h2 : x ≤ 1000) (h3 : 0 < y) (h4 : y ≤ 1000) (w : World) : Calls Tryz.prog 152 #[.int .u8 43, .int .i64 x, .int .i64 y] w fun e w' => e = .returned (.tuple #[.int .i64 (x + y), errV none]) ∧ w = w' := by
 have h5 : decide (x < x + y) = true := decide_eq_true (by omega)
 have h6 : decide (0 < y) = true := decide_eq_true (by omega)
 go_enter Tryz.func152, Tryz.ntmps152
 go_wp2_with fail
 go_ret2
 exact ⟨rfl, rfl⟩
/-- some function of a sign and two numbers -/
theorem number73_ex (op x y : Int) (hop : op = 43 ∨ op = 45 ∨ op = 42 ∨ op = 47 ∨ op = 37) : ∃ r : Option Int × Int, numErr r.1 ∧ (smallN op x y → r = (none, x + y)) ∧ ∀ w, Calls Tryz.prog 152 #[.int .u8 op, .int .i64 x, .int .i64 y] w fun e w' => e = .returned (.tuple #[.int .i64 r.2, errV r.1]) ∧ w = w' := by
 have hy : (y == 0) = false → y ≠ 0 := fun h => by simpa using h
 by_cases hs : smallN op x y
 ·obtain ⟨rfl, h1, h2, h3, h4⟩ := hs
  exact ⟨(none, x + y), .inl rfl, fun _ => rfl, fun w => number73_small x y h1 h2 h3 h4 w⟩
 rcases hop with rfl | rfl | rfl | rfl | rfl
 ·obtain ⟨er, n, he, h⟩ := number73_43_in x y _ _ rfl rfl; exact ⟨(er, n), he, fun k => absurd k hs, h⟩
 ·obtain ⟨er, n, he, h⟩ := number73_45_in x y _ _ _ _ rfl rfl rfl rfl; exact ⟨(er, n), he, fun k => absurd k hs, h⟩
 ·obtain ⟨er, n, he, h⟩ := number73_42_in x y; exact ⟨(er, n), he, fun k => absurd k hs, h⟩
 ·obtain ⟨er, n, he, h⟩ := number73_47_in x y _ _ _ rfl rfl rfl hy; exact ⟨(er, n), he, fun k => absurd k hs, h⟩
 ·obtain ⟨er, n, he, h⟩ := number73_37_in x y _ _ _ rfl rfl rfl hy; exact ⟨(er, n), he, fun k => absurd k hs, h⟩
open Classical in
noncomputable def numP (op x y : Int) : Option Int × Int := if hop : op = 43 ∨ op = 45 ∨ op = 42 ∨ op = 47 ∨ op = 37 then (number73_ex op x y hop).choose else (none, 0)
theorem numP_spec (op x y : Int) (hop : op = 43 ∨ op = 45 ∨ op = 42 ∨ op = 47 ∨ op = 37) : numErr (numP op x y).1 ∧ (smallN op x y → numP op x y = (none, x + y)) ∧ ∀ w, Calls Tryz.prog 152 #[.int .u8 op, .int .i64 x, .int .i64 y] w fun e w' => e = .returned (.tuple #[.int .i64 (numP op x y).2, errV (numP op x y).1]) ∧ w = w' := by
 have h := (number73_ex op x y hop).choose_spec
 have e : numP op x y = (number73_ex op x y hop).choose := by rw [numP, dif_pos hop]
 rw [e]
 exact h
theorem number73 (op x y : Int) (hop : op = 43 ∨ op = 45 ∨ op = 42 ∨ op = 47 ∨ op = 37) (w : World) : Calls Tryz.prog 152 #[.int .u8 op, .int .i64 x, .int .i64 y] w fun e w' => e = .returned (.tuple #[.int .i64 (numP op x y).2, errV (numP op x y).1]) ∧ w = w' := (numP_spec op x y hop).2.2 w

end Go.Proofs.YtbcmmecilheicaaGreatDoor
