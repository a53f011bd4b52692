/- math/bits.Mul64, value.size, product: some function of two numbers. -/
import Derived.Test.YtbcmmecilheicaaGreatDoorVal2
namespace Go.Proofs.YtbcmmecilheicaaGreatDoor
open Go Go.RowKit

set_option maxHeartbeats 2000000 in
theorem mul94_ex (x y : Int) : ∃ hi lo : Int, ∀ w, Calls Tryz.prog 182 #[.int .u64 x, .int .u64 y] w fun e w' => e = .returned (.tuple #[.int .u64 hi, .int .u64 lo]) ∧ w = w' := by
  apply Exists.intro
  apply Exists.intro
  intro w
  go_enter Tryz.func182, Tryz.ntmps182
  go_wp2
  go_ret2
  exact ⟨rfl, rfl⟩
def sizeP (x : Int) : Int := if x < 0 then IntKind.u64.wrap (-IntKind.u64.wrap x) else IntKind.u64.wrap x
theorem ret_u {a b : Int} (h : a = b) : Ending.returned (.int .u64 a) = .returned (.int .u64 b) := by rw [h]
set_option maxHeartbeats 1000000 in
theorem size95a (x : Int) (h : x < 0) (w : World) : Calls Tryz.prog 183 #[.int .i64 x] w fun e w' => e = .returned (.int .u64 (sizeP x)) ∧ w = w' := by
  have e : IntKind.u64.wrap (-IntKind.u64.wrap x) = sizeP x := by simp [sizeP, h]
  go_enter Tryz.func183, Tryz.ntmps183
  go_wp2
  go_ret
  exact ⟨rfl, rfl⟩
set_option maxHeartbeats 1000000 in
theorem size95b (x : Int) (h : ¬ x < 0) (w : World) : Calls Tryz.prog 183 #[.int .i64 x] w fun e w' => e = .returned (.int .u64 (sizeP x)) ∧ w = w' := by
  have e := Lib.hid (show IntKind.u64.wrap x = sizeP x by simp [sizeP, h])
  have hd : decide (x < 0) = false := by simpa using h
  clear h
  go_enter Tryz.func183, Tryz.ntmps183
  go_wp2
  go_ret
  exact ⟨ret_u e.out, rfl⟩
theorem size95 (x : Int) (w : World) : Calls Tryz.prog 183 #[.int .i64 x] w fun e w' => e = .returned (.int .u64 (sizeP x)) ∧ w = w' := by
  by_cases h : x < 0
  · exact size95a x h w
  · exact size95b x h w


end Go.Proofs.YtbcmmecilheicaaGreatDoor
