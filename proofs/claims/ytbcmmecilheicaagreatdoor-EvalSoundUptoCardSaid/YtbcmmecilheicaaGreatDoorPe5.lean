/- The document's texts of numbers, of values. -/
import Derived.Test.YtbcmmecilheicaaGreatDoorPe4
namespace Go.Proofs.YtbcmmecilheicaaGreatDoor
open Go Go.RowKit

/-- a text comes back, no longer than so many bytes -/
def SomeText (m : Nat) (w : World) (e : Ending) (w' : World) : Prop := ∃ s : ByteArray, e = .returned (.string s) ∧ Hid (s.size ≤ m) ∧ Hid (Below w.heap.size w w')

theorem u64_range (z : Int) : 0 ≤ IntKind.u64.wrap z ∧ IntKind.u64.wrap z < 18446744073709551616 := by rw [IntKind.wrap_u64]; omega
theorem dig_size (s : ByteArray) {x : Int} (h0 : 0 ≤ x) (h1 : x < 10) : ((⟨#[48, 49, 50, 51, 52, 53, 54, 55, 56, 57]⟩ : ByteArray).extract x.toNat (x + 1).toNat ++ s).size ≤ s.size + 1 := by
  rw [ByteArray.size_append, ByteArray.size_extract]
  omega
theorem pow_step {x : Int} {k : Nat} (h0 : 0 ≤ x) (h : x < 10 ^ k) (hk : 1 ≤ k) (hx : ¬ x / 10 = 0) : 1 ≤ k - 1 ∧ x / 10 < 10 ^ (k - 1) := by
  obtain ⟨j, rfl⟩ : ∃ j, k = j + 1 := ⟨k - 1, by omega⟩
  rw [Int.pow_succ] at h
  have h2 : x / 10 < 10 ^ j := by
    rw [Int.ediv_lt_iff_lt_mul (by omega)]
    exact h
  rw [Nat.add_sub_cancel]
  refine ⟨?_, h2⟩
  rcases Nat.eq_zero_or_pos j with e | e
  · subst e
    rw [Int.pow_zero] at h2
    omega
  · exact e
set_option maxRecDepth 100000 in
set_option maxHeartbeats 16000000 in
theorem digits146 (w : World) (n : Int) : Calls Tryz.prog 146 #[.int .i64 n] w (SomeText 21 w) := by
  have key : ∃ (x0 : Int) (m : ByteArray), 0 ≤ x0 ∧ x0 < 18446744073709551616 ∧ m.size ≤ 1 ∧ ((n < 0 ∧ IntKind.u64.wrap (-IntKind.u64.wrap n) = x0 ∧ m = ⟨#[45]⟩) ∨ (¬ n < 0 ∧ IntKind.u64.wrap n = x0 ∧ m = ⟨#[]⟩)) := by
    by_cases hn : n < 0
    · exact ⟨_, _, (u64_range _).1, (u64_range _).2, by decide, .inl ⟨hn, rfl, rfl⟩⟩
    · exact ⟨_, _, (u64_range _).1, (u64_range _).2, by decide, .inr ⟨hn, rfl, rfl⟩⟩
  obtain ⟨x0, m, h0, h1, hm, h⟩ := key
  have HM := Lib.hid hm
  rcases h with ⟨hn, hx, hmm⟩ | ⟨hn, hx, hmm⟩
  all_goals
    have HX := Lib.hid hx
    have HMM := Lib.hid hmm
    clear hx hmm hm
    go_enter Tryz.func146, Tryz.ntmps146
    go_upto_region 5 with fail
    rw [HX.out]
    clear hn HX
    go_loopg [3, 5] 20 (fun kx s3 s5 wr => ∃ (x : Int) (s : ByteArray), s3 = .int .u64 x ∧ s5 = .string s ∧ 0 ≤ x ∧ x < 18446744073709551616 ∧ 1 ≤ kx ∧ kx ≤ 20 ∧ Hid (x < 10 ^ kx) ∧ s.size + kx ≤ 20 ∧ wr = w)
    case atStart => exact ⟨x0, ⟨#[]⟩, rfl, rfl, h0, h1, by omega, by omega, Lib.hid (by omega), by decide, rfl⟩
    case round =>
      obtain ⟨x, s, rfl, rfl, g0, g1, k1, k20, HK, hsz, rfl⟩ := hrel
      have hx9 : x % 10 < 10 := Int.emod_lt_of_pos _ (by omega)
      have hx8 : 0 ≤ x % 10 := Int.emod_nonneg _ (by omega)
      have HE := Lib.hid (dig_size s (x := x % 10) hx8 hx9)
      go_wp2_with fail
      · go_ret
        exact ⟨_, rfl, Lib.hid (by rw [ByteArray.size_append]; have := HE.out; have h2 := HM.out; rw [HMM.out] at h2; omega), Lib.hid (Below.refl _ _)⟩
      · have hne : ¬ x / 10 = 0 := by
          rename_i q
          simpa using q
        have HK2 := Lib.hid (pow_step g0 HK.out k1 hne)
        go_roundg (gk - 1)
        case measure => omega
        case rel => exact ⟨x / 10, _, rfl, rfl, by omega, by omega, HK2.out.1, by omega, Lib.hid HK2.out.2, by have := HE.out; have := HK2.out.1; omega, rfl⟩

end Go.Proofs.YtbcmmecilheicaaGreatDoor
