/- value.product: some function of two numbers. -/
import Derived.Test.YtbcmmecilheicaaGreatDoorNum1
namespace Go.Proofs.YtbcmmecilheicaaGreatDoor
open Go Go.RowKit

/-- an error of numbers, or none -/
def numErr (er : Option Int) : Prop := er = none ∨ er = some 5 ∨ er = some 6

set_option maxRecDepth 20000 in
set_option maxHeartbeats 2000000 in
theorem product86_in (x y sx sy hi lo : Int) (H1 : Hid (∀ w, Calls Tryz.prog 183 #[.int .i64 x] w fun e w' => e = .returned (.int .u64 sx) ∧ w = w')) (H2 : Hid (∀ w, Calls Tryz.prog 183 #[.int .i64 y] w fun e w' => e = .returned (.int .u64 sy) ∧ w = w'))
    (HM : Hid (∀ w, Calls Tryz.prog 182 #[.int .u64 sx, .int .u64 sy] w fun e w' => e = .returned (.tuple #[.int .u64 hi, .int .u64 lo]) ∧ w = w')) (s t b1 b2 b3 : Bool) (hx : decide (x < 0) = s) (hy : decide (y < 0) = t) (a1 : (hi != 0) = b1) (a2 : decide (9223372036854775808 < lo) = b2) (a3 : (lo == 9223372036854775808) = b3) :
    ∃ (er : Option Int) (n : Int), numErr er ∧ ∀ w, Calls Tryz.prog 172 #[.int .i64 x, .int .i64 y] w fun e w' => e = .returned (.tuple #[.int .i64 n, errV er]) ∧ w = w' := by
  cases b1 with
  | true =>
    clear a2 a3
    cases s <;> cases t
    all_goals
      refine ⟨some 5, 0, .inr (.inl rfl), fun w => ?_⟩
      go_enter Tryz.func172, Tryz.ntmps172
      go_wp2_with fail
      refine (H1.out _).mono ?_
      rintro e w1 ⟨rfl, rfl⟩
      go_wp2_with fail
      refine (H2.out _).mono ?_
      rintro e w1 ⟨rfl, rfl⟩
      go_wp2_with fail
      refine (HM.out _).mono ?_
      rintro e w1 ⟨rfl, rfl⟩
      go_wp2_with fail
      go_ret2
      exact ⟨rfl, rfl⟩
  | false =>
    cases b2 with
    | true =>
      clear a3
      cases s <;> cases t
      all_goals
        refine ⟨some 5, 0, .inr (.inl rfl), fun w => ?_⟩
        go_enter Tryz.func172, Tryz.ntmps172
        go_wp2_with fail
        refine (H1.out _).mono ?_
        rintro e w1 ⟨rfl, rfl⟩
        go_wp2_with fail
        refine (H2.out _).mono ?_
        rintro e w1 ⟨rfl, rfl⟩
        go_wp2_with fail
        refine (HM.out _).mono ?_
        rintro e w1 ⟨rfl, rfl⟩
        go_wp2_with fail
        go_ret2
        exact ⟨rfl, rfl⟩
    | false =>
      cases b3 with
      | true =>
        cases s <;> cases t
        · refine ⟨some 5, 0, .inr (.inl rfl), fun w => ?_⟩
          go_enter Tryz.func172, Tryz.ntmps172
          go_wp2_with fail
          refine (H1.out _).mono ?_
          rintro e w1 ⟨rfl, rfl⟩
          go_wp2_with fail
          refine (H2.out _).mono ?_
          rintro e w1 ⟨rfl, rfl⟩
          go_wp2_with fail
          refine (HM.out _).mono ?_
          rintro e w1 ⟨rfl, rfl⟩
          go_wp2_with fail
          go_ret2
          exact ⟨rfl, rfl⟩
        · refine ⟨none, ?_⟩
          apply Exists.intro
          refine ⟨.inl rfl, fun w => ?_⟩
          go_enter Tryz.func172, Tryz.ntmps172
          go_wp2_with fail
          refine (H1.out _).mono ?_
          rintro e w1 ⟨rfl, rfl⟩
          go_wp2_with fail
          refine (H2.out _).mono ?_
          rintro e w1 ⟨rfl, rfl⟩
          go_wp2_with fail
          refine (HM.out _).mono ?_
          rintro e w1 ⟨rfl, rfl⟩
          go_wp2_with fail
          go_ret2
          exact ⟨rfl, rfl⟩
        · refine ⟨none, ?_⟩
          apply Exists.intro
          refine ⟨.inl rfl, fun w => ?_⟩
          go_enter Tryz.func172, Tryz.ntmps172
          go_wp2_with fail
          refine (H1.out _).mono ?_
          rintro e w1 ⟨rfl, rfl⟩
          go_wp2_with fail
          refine (H2.out _).mono ?_
          rintro e w1 ⟨rfl, rfl⟩
          go_wp2_with fail
          refine (HM.out _).mono ?_
          rintro e w1 ⟨rfl, rfl⟩
          go_wp2_with fail
          go_ret2
          exact ⟨rfl, rfl⟩
        · refine ⟨some 5, 0, .inr (.inl rfl), fun w => ?_⟩
          go_enter Tryz.func172, Tryz.ntmps172
          go_wp2_with fail
          refine (H1.out _).mono ?_
          rintro e w1 ⟨rfl, rfl⟩
          go_wp2_with fail
          refine (H2.out _).mono ?_
          rintro e w1 ⟨rfl, rfl⟩
          go_wp2_with fail
          refine (HM.out _).mono ?_
          rintro e w1 ⟨rfl, rfl⟩
          go_wp2_with fail
          go_ret2
          exact ⟨rfl, rfl⟩
      | false =>
        cases s <;> cases t
        all_goals
          refine ⟨none, ?_⟩
          apply Exists.intro
          refine ⟨.inl rfl, fun w => ?_⟩
          go_enter Tryz.func172, Tryz.ntmps172
          go_wp2_with fail
          refine (H1.out _).mono ?_
          rintro e w1 ⟨rfl, rfl⟩
          go_wp2_with fail
          refine (H2.out _).mono ?_
          rintro e w1 ⟨rfl, rfl⟩
          go_wp2_with fail
          refine (HM.out _).mono ?_
          rintro e w1 ⟨rfl, rfl⟩
          go_wp2_with fail
          go_ret2
          exact ⟨rfl, rfl⟩

theorem product86_ex (x y : Int) : ∃ (er : Option Int) (n : Int), numErr er ∧ ∀ w, Calls Tryz.prog 172 #[.int .i64 x, .int .i64 y] w fun e w' => e = .returned (.tuple #[.int .i64 n, errV er]) ∧ w = w' := by
  obtain ⟨hi, lo, hm⟩ := mul94_ex (sizeP x) (sizeP y)
  exact product86_in x y _ _ hi lo (Lib.hid (size95 x)) (Lib.hid (size95 y)) (Lib.hid hm) _ _ _ _ _ rfl rfl rfl rfl rfl

end Go.Proofs.YtbcmmecilheicaaGreatDoor
