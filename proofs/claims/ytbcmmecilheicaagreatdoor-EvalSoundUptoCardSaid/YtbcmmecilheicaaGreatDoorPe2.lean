/- The document's names, values that may be. Printed by mkpe2.py. -/
import Derived.Test.YtbcmmecilheicaaGreatDoorPe1
namespace Go.Proofs.YtbcmmecilheicaaGreatDoor
open Go Go.RowKit

def NamePost (s : ByteArray) (w : World) (e : Ending) (w' : World) : Prop := ∃ b : Bool, e = .returned (.bool b) ∧ Hid (b = true → s.size ≤ 32) ∧ Hid (Below w.heap.size w w')
set_option maxRecDepth 100000 in
set_option maxHeartbeats 16000000 in
/-- a name: if it is one, it is short -/
theorem name145 (w : World) (s : ByteArray) (hs : s.size ≤ TB) : Calls Tryz.prog 145 #[.string s] w (NamePost s w) := by
  have hs9 : (s.size : Int) ≤ 140737488355328 := by unfold TB at hs; omega
  go_enter Tryz.func145, Tryz.ntmps145
  go_wp2_with fail
  go_loopg [3] s.size (fun kx s3 wr => ∃ i : Nat, s3 = .int .i64 i ∧ kx + i = s.size ∧ wr = w)
  case atStart => exact ⟨0, rfl, rfl, rfl⟩
  case round =>
    obtain ⟨i, rfl, hk, rfl⟩ := hrel
    have hi9 : (i : Int) ≤ 140737488355328 := by omega
    have hi0 : (0 : Int) ≤ (i : Int) := by omega
    by_cases hi : i < s.size
    · have hiz : (i : Int) < (s.size : Int) := by omega
      obtain ⟨c, hc⟩ : ∃ c : Nat, s[i].toNat = c := ⟨_, rfl⟩
      have hc0 : (0 : Int) ≤ (c : Int) := by omega
      rcases (show c < 48 ∨ (48 ≤ c ∧ c ≤ 57) ∨ (58 ≤ c ∧ c ≤ 94) ∨ c = 95 ∨ c = 96 ∨ (97 ≤ c ∧ c ≤ 122) ∨ 122 < c by omega) with h | h | h | h | h | h | h
      · have a97 : decide ((97 : Int) ≤ (c : Int)) = false := by simp; omega
        have a97n : decide (97 ≤ c) = false := by simp; omega
        have a122 : decide ((c : Int) ≤ 122) = true := by simp; omega
        have a122n : decide (c ≤ 122) = true := by simp; omega
        have a48 : decide ((48 : Int) ≤ (c : Int)) = false := by simp; omega
        have a48n : decide (48 ≤ c) = false := by simp; omega
        have a57 : decide ((c : Int) ≤ 57) = true := by simp; omega
        have a57n : decide (c ≤ 57) = true := by simp; omega
        have a95 : ((c : Int) == 95) = false := by simp; omega
        clear h
        go_wp2_with fail
        go_ret
        exact ⟨false, rfl, Lib.hid (fun h => by cases h), Lib.hid (Below.refl _ _)⟩
      · have a97 : decide ((97 : Int) ≤ (c : Int)) = false := by simp; omega
        have a97n : decide (97 ≤ c) = false := by simp; omega
        have a122 : decide ((c : Int) ≤ 122) = true := by simp; omega
        have a122n : decide (c ≤ 122) = true := by simp; omega
        have a48 : decide ((48 : Int) ≤ (c : Int)) = true := by simp; omega
        have a48n : decide (48 ≤ c) = true := by simp; omega
        have a57 : decide ((c : Int) ≤ 57) = true := by simp; omega
        have a57n : decide (c ≤ 57) = true := by simp; omega
        have a95 : ((c : Int) == 95) = false := by simp; omega
        clear h
        rcases Nat.eq_zero_or_pos i with h0 | h0
        · subst h0
          go_wp2_with fail
          go_ret
          exact ⟨false, rfl, Lib.hid (fun h => by cases h), Lib.hid (Below.refl _ _)⟩
        · have h0i : (0 : Int) < (i : Int) := by omega
          go_wp2_with fail
          go_roundg (gk - 1)
          case measure => omega
          case rel => exact ⟨i + 1, by first | rfl | (simp; done), by omega, rfl⟩
      · have a97 : decide ((97 : Int) ≤ (c : Int)) = false := by simp; omega
        have a97n : decide (97 ≤ c) = false := by simp; omega
        have a122 : decide ((c : Int) ≤ 122) = true := by simp; omega
        have a122n : decide (c ≤ 122) = true := by simp; omega
        have a48 : decide ((48 : Int) ≤ (c : Int)) = true := by simp; omega
        have a48n : decide (48 ≤ c) = true := by simp; omega
        have a57 : decide ((c : Int) ≤ 57) = false := by simp; omega
        have a57n : decide (c ≤ 57) = false := by simp; omega
        have a95 : ((c : Int) == 95) = false := by simp; omega
        clear h
        go_wp2_with fail
        go_ret
        exact ⟨false, rfl, Lib.hid (fun h => by cases h), Lib.hid (Below.refl _ _)⟩
      · have a97 : decide ((97 : Int) ≤ (c : Int)) = false := by simp; omega
        have a97n : decide (97 ≤ c) = false := by simp; omega
        have a122 : decide ((c : Int) ≤ 122) = true := by simp; omega
        have a122n : decide (c ≤ 122) = true := by simp; omega
        have a48 : decide ((48 : Int) ≤ (c : Int)) = true := by simp; omega
        have a48n : decide (48 ≤ c) = true := by simp; omega
        have a57 : decide ((c : Int) ≤ 57) = false := by simp; omega
        have a57n : decide (c ≤ 57) = false := by simp; omega
        have a95 : ((c : Int) == 95) = true := by simp; omega
        clear h
        rcases Nat.eq_zero_or_pos i with h0 | h0
        · subst h0
          go_wp2_with fail
          go_ret
          exact ⟨false, rfl, Lib.hid (fun h => by cases h), Lib.hid (Below.refl _ _)⟩
        · have h0i : (0 : Int) < (i : Int) := by omega
          go_wp2_with fail
          go_roundg (gk - 1)
          case measure => omega
          case rel => exact ⟨i + 1, by first | rfl | (simp; done), by omega, rfl⟩
      · have a97 : decide ((97 : Int) ≤ (c : Int)) = false := by simp; omega
        have a97n : decide (97 ≤ c) = false := by simp; omega
        have a122 : decide ((c : Int) ≤ 122) = true := by simp; omega
        have a122n : decide (c ≤ 122) = true := by simp; omega
        have a48 : decide ((48 : Int) ≤ (c : Int)) = true := by simp; omega
        have a48n : decide (48 ≤ c) = true := by simp; omega
        have a57 : decide ((c : Int) ≤ 57) = false := by simp; omega
        have a57n : decide (c ≤ 57) = false := by simp; omega
        have a95 : ((c : Int) == 95) = false := by simp; omega
        clear h
        go_wp2_with fail
        go_ret
        exact ⟨false, rfl, Lib.hid (fun h => by cases h), Lib.hid (Below.refl _ _)⟩
      · have a97 : decide ((97 : Int) ≤ (c : Int)) = true := by simp; omega
        have a97n : decide (97 ≤ c) = true := by simp; omega
        have a122 : decide ((c : Int) ≤ 122) = true := by simp; omega
        have a122n : decide (c ≤ 122) = true := by simp; omega
        have a48 : decide ((48 : Int) ≤ (c : Int)) = true := by simp; omega
        have a48n : decide (48 ≤ c) = true := by simp; omega
        have a57 : decide ((c : Int) ≤ 57) = false := by simp; omega
        have a57n : decide (c ≤ 57) = false := by simp; omega
        have a95 : ((c : Int) == 95) = false := by simp; omega
        clear h
        go_wp2_with fail
        go_roundg (gk - 1)
        case measure => omega
        case rel => exact ⟨i + 1, by first | rfl | (simp; done), by omega, rfl⟩
      · have a97 : decide ((97 : Int) ≤ (c : Int)) = true := by simp; omega
        have a97n : decide (97 ≤ c) = true := by simp; omega
        have a122 : decide ((c : Int) ≤ 122) = false := by simp; omega
        have a122n : decide (c ≤ 122) = false := by simp; omega
        have a48 : decide ((48 : Int) ≤ (c : Int)) = true := by simp; omega
        have a48n : decide (48 ≤ c) = true := by simp; omega
        have a57 : decide ((c : Int) ≤ 57) = false := by simp; omega
        have a57n : decide (c ≤ 57) = false := by simp; omega
        have a95 : ((c : Int) == 95) = false := by simp; omega
        clear h
        go_wp2_with fail
        go_ret
        exact ⟨false, rfl, Lib.hid (fun h => by cases h), Lib.hid (Below.refl _ _)⟩
    · have hiz : ¬ (i : Int) < (s.size : Int) := by omega
      rcases (show s.size = 0 ∨ (0 < s.size ∧ s.size ≤ 32) ∨ 32 < s.size by omega) with h | h | h
      · have k1 : ¬ (0 : Int) < (s.size : Int) := by omega
        have k3 : ¬ 0 < s.size := by omega
        clear h
        go_wp2_with fail
        go_ret
        exact ⟨false, rfl, Lib.hid (fun h => by cases h), Lib.hid (Below.refl _ _)⟩
      · have k1 : (0 : Int) < (s.size : Int) := by omega
        have k2 : (s.size : Int) ≤ 32 := by omega
        have k3 : 0 < s.size := by omega
        clear h
        go_wp2_with fail
        refine (reserved169 _ _).mono ?_
        rintro e w1 ⟨b, rfl, hb⟩
        cases b with
        | true =>
          go_wp2_with fail
          go_ret
          exact ⟨false, rfl, Lib.hid (fun h => by cases h), hb⟩
        | false =>
          go_wp2_with fail
          go_ret
          exact ⟨true, rfl, Lib.hid (fun _ => by omega), hb⟩
      · have k1 : (0 : Int) < (s.size : Int) := by omega
        have k2 : ¬ (s.size : Int) ≤ 32 := by omega
        have k3 : 0 < s.size := by omega
        have k4 : decide ((s.size : Int) ≤ 32) = false := decide_eq_false k2
        clear h
        go_wp2_with fail
        go_ret
        exact ⟨false, rfl, Lib.hid (fun h => by cases h), Lib.hid (Below.refl _ _)⟩

/-- a value that may be -/
def validV (v : Val) : Prop := 0 ≤ v.kind ∧ v.kind ≤ 3 ∧ (v.kind ≠ 1 → v.int = 0) ∧ (v.kind ≠ 2 → v.text.toList = []) ∧ (v.kind ≠ 3 → v.bool = false) ∧ v.text.size ≤ 4096 ∧ ∀ i (h : i < v.text.size), 32 ≤ v.text[i].toNat ∧ v.text[i].toNat ≤ 126
/-- 0 of a value that may be, else an error's number -/
def ValidPost (v : Val) (w : World) (e : Ending) (w' : World) : Prop := ∃ n : Int, e = .returned (.int .i64 n) ∧ Hid (0 ≤ n ∧ n ≤ 3 ∧ (n = 0 → validV v)) ∧ Hid (Below w.heap.size w w')
set_option maxRecDepth 100000 in
set_option maxHeartbeats 16000000 in
theorem valid36 (w : World) (k n : Int) (s : ByteArray) (b : Bool) (hs : s.size ≤ TB) : Calls Tryz.prog 36 #[.agg #[.int .i64 k, .int .i64 n, .string s, .bool b]] w (ValidPost ⟨k, n, s, b⟩ w) := by
  have hs9 : (s.size : Int) ≤ 140737488355328 := by unfold TB at hs; omega
  obtain ⟨w1, hw1⟩ : ∃ z, z = w.alloc (.cells #[.int .i64 k, .int .i64 n, .string s, .bool b] 26) := ⟨_, rfl⟩
  have B1 := Lib.hid (show Below w.heap.size w w1 by rw [hw1]; exact below_alloc _ _)
  have Z1 := Lib.hid (show Blk w1 w.heap.size 26 #[.int .i64 k, .int .i64 n, .string s, .bool b] by rw [hw1]; exact Blk.new w 26 _)
  have z0 := Z1.out.cell 0
  have z1 := Z1.out.cell 1
  have z2 := Z1.out.cell 2
  have z3 := Z1.out.cell 3
  have hl := Z1.out.lt
  go_enter Tryz.func36, Tryz.ntmps36
  go_upto_region 1 with fail
  rw [← hw1]
  clear hw1
  rcases (show k < 0 ∨ 3 < k ∨ k = 0 ∨ k = 1 ∨ k = 2 ∨ k = 3 by omega) with hk | hk | rfl | rfl | rfl | rfl
  · go_wp2_with fail
    go_ret
    exact ⟨3, rfl, Lib.hid ⟨by omega, by omega, fun h => by omega⟩, B1⟩
  · have hk2 : ¬ k < 0 := by omega
    go_wp2_with fail
    go_ret
    exact ⟨3, rfl, Lib.hid ⟨by omega, by omega, fun h => by omega⟩, B1⟩
  · skip
    by_cases hn : n = 0
    · have HI0 := Lib.hid hn
      have hn2 : (n != 0) = false := by simpa using hn
      have hn3 : (n == 0) = true := by simpa using hn
      clear hn
      by_cases ht : s.toList = []
      · have HT0 := Lib.hid ht
        have ht2 : s.toList.isEmpty = true := by rw [ht]; rfl
        cases b with
        | false =>
          have HB0 := Lib.hid (show (false : Bool) = false from rfl)
          rcases (show 4096 < s.size ∨ s.size ≤ 4096 by omega) with hb4 | hb4
          · have hb5 : (4096 : Int) < (s.size : Int) := by omega
            go_wp2_with fail
            go_ret
            exact ⟨2, rfl, Lib.hid ⟨by omega, by omega, fun h => by omega⟩, B1⟩
          · have hb5 : ¬ (4096 : Int) < (s.size : Int) := by omega
            go_wp2_with fail
            go_loopg [3] s.size (fun kx s3 wr => ∃ i : Nat, s3 = .int .i64 i ∧ kx + i = s.size ∧ wr = w1 ∧ Hid (∀ j (h : j < s.size), j < i → 32 ≤ s[j].toNat ∧ s[j].toNat ≤ 126))
            case atStart => exact ⟨0, rfl, rfl, rfl, Lib.hid (fun j h hj => absurd hj (Nat.not_lt_zero _))⟩
            case round =>
              obtain ⟨i, rfl, hki, rfl, HJ⟩ := hrel
              have hi9 : (i : Int) ≤ 140737488355328 := by omega
              have hi0 : (0 : Int) ≤ (i : Int) := by omega
              by_cases hi : i < s.size
              · have hiz : (i : Int) < (s.size : Int) := by omega
                obtain ⟨c, hc⟩ : ∃ c : Nat, s[i].toNat = c := ⟨_, rfl⟩
                have HC := Lib.hid hc
                rcases (show c < 32 ∨ (32 ≤ c ∧ c ≤ 126) ∨ 126 < c by omega) with h | h | h
                · have f1 : decide ((c : Int) < 32) = true := by simp; omega
                  have f1n : decide (c < 32) = true := by simp; omega
                  clear h
                  go_wp2_with fail
                  go_ret
                  exact ⟨3, rfl, Lib.hid ⟨by omega, by omega, fun h => by omega⟩, B1⟩
                · have f1 : decide ((c : Int) < 32) = false := by simp; omega
                  have f1n : decide (c < 32) = false := by simp; omega
                  have f2 : decide ((126 : Int) < (c : Int)) = false := by simp; omega
                  have f2n : decide (126 < c) = false := by simp; omega
                  have NX := Lib.hid (show ∀ j (h : j < s.size), j < i + 1 → 32 ≤ s[j].toNat ∧ s[j].toNat ≤ 126 from fun j hj hji => by
                    rcases Nat.lt_or_ge j i with q | q
                    · exact HJ.out j hj q
                    · obtain rfl : j = i := by omega
                      rw [HC.out]; exact h)
                  clear h
                  go_wp2_with fail
                  go_roundg (gk - 1)
                  case measure => omega
                  case rel => exact ⟨i + 1, by first | rfl | (simp; done), by omega, rfl, NX⟩
                · have f1 : decide ((c : Int) < 32) = false := by simp; omega
                  have f1n : decide (c < 32) = false := by simp; omega
                  have f2 : decide ((126 : Int) < (c : Int)) = true := by simp; omega
                  have f2n : decide (126 < c) = true := by simp; omega
                  clear h
                  go_wp2_with fail
                  go_ret
                  exact ⟨3, rfl, Lib.hid ⟨by omega, by omega, fun h => by omega⟩, B1⟩
              · have hiz : ¬ (i : Int) < (s.size : Int) := by omega
                have hie : i = s.size := by omega
                have FIN := Lib.hid (show validV ⟨0, n, s, false⟩ from ⟨by show (0 : Int) ≤ 0; omega, by show (0 : Int) ≤ 3; omega, fun _ => HI0.out, fun _ => HT0.out, fun _ => rfl, hb4, fun j hj => HJ.out j hj (by rw [hie]; exact hj)⟩)
                clear hie
                go_wp2_with fail
                go_ret
                exact ⟨0, rfl, Lib.hid ⟨by omega, by omega, fun _ => FIN.out⟩, B1⟩
        | true =>
          go_wp2_with fail
          go_ret
          exact ⟨3, rfl, Lib.hid ⟨by omega, by omega, fun h => by omega⟩, B1⟩
      · have ht2 : s.toList.isEmpty = false := by simpa using ht
        go_wp2_with fail
        go_ret
        exact ⟨3, rfl, Lib.hid ⟨by omega, by omega, fun h => by omega⟩, B1⟩
    · have hn2 : (n != 0) = true := by simpa using hn
      have hn3 : (n == 0) = false := by simpa using hn
      go_wp2_with fail
      go_ret
      exact ⟨3, rfl, Lib.hid ⟨by omega, by omega, fun h => by omega⟩, B1⟩
  · skip
    by_cases ht : s.toList = []
    · have HT0 := Lib.hid ht
      have ht2 : s.toList.isEmpty = true := by rw [ht]; rfl
      cases b with
      | false =>
        have HB0 := Lib.hid (show (false : Bool) = false from rfl)
        rcases (show 4096 < s.size ∨ s.size ≤ 4096 by omega) with hb4 | hb4
        · have hb5 : (4096 : Int) < (s.size : Int) := by omega
          go_wp2_with fail
          go_ret
          exact ⟨2, rfl, Lib.hid ⟨by omega, by omega, fun h => by omega⟩, B1⟩
        · have hb5 : ¬ (4096 : Int) < (s.size : Int) := by omega
          go_wp2_with fail
          go_loopg [3] s.size (fun kx s3 wr => ∃ i : Nat, s3 = .int .i64 i ∧ kx + i = s.size ∧ wr = w1 ∧ Hid (∀ j (h : j < s.size), j < i → 32 ≤ s[j].toNat ∧ s[j].toNat ≤ 126))
          case atStart => exact ⟨0, rfl, rfl, rfl, Lib.hid (fun j h hj => absurd hj (Nat.not_lt_zero _))⟩
          case round =>
            obtain ⟨i, rfl, hki, rfl, HJ⟩ := hrel
            have hi9 : (i : Int) ≤ 140737488355328 := by omega
            have hi0 : (0 : Int) ≤ (i : Int) := by omega
            by_cases hi : i < s.size
            · have hiz : (i : Int) < (s.size : Int) := by omega
              obtain ⟨c, hc⟩ : ∃ c : Nat, s[i].toNat = c := ⟨_, rfl⟩
              have HC := Lib.hid hc
              rcases (show c < 32 ∨ (32 ≤ c ∧ c ≤ 126) ∨ 126 < c by omega) with h | h | h
              · have f1 : decide ((c : Int) < 32) = true := by simp; omega
                have f1n : decide (c < 32) = true := by simp; omega
                clear h
                go_wp2_with fail
                go_ret
                exact ⟨3, rfl, Lib.hid ⟨by omega, by omega, fun h => by omega⟩, B1⟩
              · have f1 : decide ((c : Int) < 32) = false := by simp; omega
                have f1n : decide (c < 32) = false := by simp; omega
                have f2 : decide ((126 : Int) < (c : Int)) = false := by simp; omega
                have f2n : decide (126 < c) = false := by simp; omega
                have NX := Lib.hid (show ∀ j (h : j < s.size), j < i + 1 → 32 ≤ s[j].toNat ∧ s[j].toNat ≤ 126 from fun j hj hji => by
                  rcases Nat.lt_or_ge j i with q | q
                  · exact HJ.out j hj q
                  · obtain rfl : j = i := by omega
                    rw [HC.out]; exact h)
                clear h
                go_wp2_with fail
                go_roundg (gk - 1)
                case measure => omega
                case rel => exact ⟨i + 1, by first | rfl | (simp; done), by omega, rfl, NX⟩
              · have f1 : decide ((c : Int) < 32) = false := by simp; omega
                have f1n : decide (c < 32) = false := by simp; omega
                have f2 : decide ((126 : Int) < (c : Int)) = true := by simp; omega
                have f2n : decide (126 < c) = true := by simp; omega
                clear h
                go_wp2_with fail
                go_ret
                exact ⟨3, rfl, Lib.hid ⟨by omega, by omega, fun h => by omega⟩, B1⟩
            · have hiz : ¬ (i : Int) < (s.size : Int) := by omega
              have hie : i = s.size := by omega
              have FIN := Lib.hid (show validV ⟨1, n, s, false⟩ from ⟨by show (0 : Int) ≤ 1; omega, by show (1 : Int) ≤ 3; omega, fun h => absurd rfl h, fun _ => HT0.out, fun _ => rfl, hb4, fun j hj => HJ.out j hj (by rw [hie]; exact hj)⟩)
              clear hie
              go_wp2_with fail
              go_ret
              exact ⟨0, rfl, Lib.hid ⟨by omega, by omega, fun _ => FIN.out⟩, B1⟩
      | true =>
        go_wp2_with fail
        go_ret
        exact ⟨3, rfl, Lib.hid ⟨by omega, by omega, fun h => by omega⟩, B1⟩
    · have ht2 : s.toList.isEmpty = false := by simpa using ht
      go_wp2_with fail
      go_ret
      exact ⟨3, rfl, Lib.hid ⟨by omega, by omega, fun h => by omega⟩, B1⟩
  · skip
    by_cases hn : n = 0
    · have HI0 := Lib.hid hn
      have hn2 : (n != 0) = false := by simpa using hn
      have hn3 : (n == 0) = true := by simpa using hn
      clear hn
      cases b with
      | false =>
        have HB0 := Lib.hid (show (false : Bool) = false from rfl)
        rcases (show 4096 < s.size ∨ s.size ≤ 4096 by omega) with hb4 | hb4
        · have hb5 : (4096 : Int) < (s.size : Int) := by omega
          go_wp2_with fail
          go_ret
          exact ⟨2, rfl, Lib.hid ⟨by omega, by omega, fun h => by omega⟩, B1⟩
        · have hb5 : ¬ (4096 : Int) < (s.size : Int) := by omega
          go_wp2_with fail
          go_loopg [3] s.size (fun kx s3 wr => ∃ i : Nat, s3 = .int .i64 i ∧ kx + i = s.size ∧ wr = w1 ∧ Hid (∀ j (h : j < s.size), j < i → 32 ≤ s[j].toNat ∧ s[j].toNat ≤ 126))
          case atStart => exact ⟨0, rfl, rfl, rfl, Lib.hid (fun j h hj => absurd hj (Nat.not_lt_zero _))⟩
          case round =>
            obtain ⟨i, rfl, hki, rfl, HJ⟩ := hrel
            have hi9 : (i : Int) ≤ 140737488355328 := by omega
            have hi0 : (0 : Int) ≤ (i : Int) := by omega
            by_cases hi : i < s.size
            · have hiz : (i : Int) < (s.size : Int) := by omega
              obtain ⟨c, hc⟩ : ∃ c : Nat, s[i].toNat = c := ⟨_, rfl⟩
              have HC := Lib.hid hc
              rcases (show c < 32 ∨ (32 ≤ c ∧ c ≤ 126) ∨ 126 < c by omega) with h | h | h
              · have f1 : decide ((c : Int) < 32) = true := by simp; omega
                have f1n : decide (c < 32) = true := by simp; omega
                clear h
                go_wp2_with fail
                go_ret
                exact ⟨3, rfl, Lib.hid ⟨by omega, by omega, fun h => by omega⟩, B1⟩
              · have f1 : decide ((c : Int) < 32) = false := by simp; omega
                have f1n : decide (c < 32) = false := by simp; omega
                have f2 : decide ((126 : Int) < (c : Int)) = false := by simp; omega
                have f2n : decide (126 < c) = false := by simp; omega
                have NX := Lib.hid (show ∀ j (h : j < s.size), j < i + 1 → 32 ≤ s[j].toNat ∧ s[j].toNat ≤ 126 from fun j hj hji => by
                  rcases Nat.lt_or_ge j i with q | q
                  · exact HJ.out j hj q
                  · obtain rfl : j = i := by omega
                    rw [HC.out]; exact h)
                clear h
                go_wp2_with fail
                go_roundg (gk - 1)
                case measure => omega
                case rel => exact ⟨i + 1, by first | rfl | (simp; done), by omega, rfl, NX⟩
              · have f1 : decide ((c : Int) < 32) = false := by simp; omega
                have f1n : decide (c < 32) = false := by simp; omega
                have f2 : decide ((126 : Int) < (c : Int)) = true := by simp; omega
                have f2n : decide (126 < c) = true := by simp; omega
                clear h
                go_wp2_with fail
                go_ret
                exact ⟨3, rfl, Lib.hid ⟨by omega, by omega, fun h => by omega⟩, B1⟩
            · have hiz : ¬ (i : Int) < (s.size : Int) := by omega
              have hie : i = s.size := by omega
              have FIN := Lib.hid (show validV ⟨2, n, s, false⟩ from ⟨by show (0 : Int) ≤ 2; omega, by show (2 : Int) ≤ 3; omega, fun _ => HI0.out, fun h => absurd rfl h, fun _ => rfl, hb4, fun j hj => HJ.out j hj (by rw [hie]; exact hj)⟩)
              clear hie
              go_wp2_with fail
              go_ret
              exact ⟨0, rfl, Lib.hid ⟨by omega, by omega, fun _ => FIN.out⟩, B1⟩
      | true =>
        go_wp2_with fail
        go_ret
        exact ⟨3, rfl, Lib.hid ⟨by omega, by omega, fun h => by omega⟩, B1⟩
    · have hn2 : (n != 0) = true := by simpa using hn
      have hn3 : (n == 0) = false := by simpa using hn
      go_wp2_with fail
      go_ret
      exact ⟨3, rfl, Lib.hid ⟨by omega, by omega, fun h => by omega⟩, B1⟩
  · skip
    by_cases hn : n = 0
    · have HI0 := Lib.hid hn
      have hn2 : (n != 0) = false := by simpa using hn
      have hn3 : (n == 0) = true := by simpa using hn
      clear hn
      by_cases ht : s.toList = []
      · have HT0 := Lib.hid ht
        have ht2 : s.toList.isEmpty = true := by rw [ht]; rfl
        rcases (show 4096 < s.size ∨ s.size ≤ 4096 by omega) with hb4 | hb4
        · have hb5 : (4096 : Int) < (s.size : Int) := by omega
          go_wp2_with fail
          go_ret
          exact ⟨2, rfl, Lib.hid ⟨by omega, by omega, fun h => by omega⟩, B1⟩
        · have hb5 : ¬ (4096 : Int) < (s.size : Int) := by omega
          go_wp2_with fail
          go_loopg [3] s.size (fun kx s3 wr => ∃ i : Nat, s3 = .int .i64 i ∧ kx + i = s.size ∧ wr = w1 ∧ Hid (∀ j (h : j < s.size), j < i → 32 ≤ s[j].toNat ∧ s[j].toNat ≤ 126))
          case atStart => exact ⟨0, rfl, rfl, rfl, Lib.hid (fun j h hj => absurd hj (Nat.not_lt_zero _))⟩
          case round =>
            obtain ⟨i, rfl, hki, rfl, HJ⟩ := hrel
            have hi9 : (i : Int) ≤ 140737488355328 := by omega
            have hi0 : (0 : Int) ≤ (i : Int) := by omega
            by_cases hi : i < s.size
            · have hiz : (i : Int) < (s.size : Int) := by omega
              obtain ⟨c, hc⟩ : ∃ c : Nat, s[i].toNat = c := ⟨_, rfl⟩
              have HC := Lib.hid hc
              rcases (show c < 32 ∨ (32 ≤ c ∧ c ≤ 126) ∨ 126 < c by omega) with h | h | h
              · have f1 : decide ((c : Int) < 32) = true := by simp; omega
                have f1n : decide (c < 32) = true := by simp; omega
                clear h
                go_wp2_with fail
                go_ret
                exact ⟨3, rfl, Lib.hid ⟨by omega, by omega, fun h => by omega⟩, B1⟩
              · have f1 : decide ((c : Int) < 32) = false := by simp; omega
                have f1n : decide (c < 32) = false := by simp; omega
                have f2 : decide ((126 : Int) < (c : Int)) = false := by simp; omega
                have f2n : decide (126 < c) = false := by simp; omega
                have NX := Lib.hid (show ∀ j (h : j < s.size), j < i + 1 → 32 ≤ s[j].toNat ∧ s[j].toNat ≤ 126 from fun j hj hji => by
                  rcases Nat.lt_or_ge j i with q | q
                  · exact HJ.out j hj q
                  · obtain rfl : j = i := by omega
                    rw [HC.out]; exact h)
                clear h
                go_wp2_with fail
                go_roundg (gk - 1)
                case measure => omega
                case rel => exact ⟨i + 1, by first | rfl | (simp; done), by omega, rfl, NX⟩
              · have f1 : decide ((c : Int) < 32) = false := by simp; omega
                have f1n : decide (c < 32) = false := by simp; omega
                have f2 : decide ((126 : Int) < (c : Int)) = true := by simp; omega
                have f2n : decide (126 < c) = true := by simp; omega
                clear h
                go_wp2_with fail
                go_ret
                exact ⟨3, rfl, Lib.hid ⟨by omega, by omega, fun h => by omega⟩, B1⟩
            · have hiz : ¬ (i : Int) < (s.size : Int) := by omega
              have hie : i = s.size := by omega
              have FIN := Lib.hid (show validV ⟨3, n, s, b⟩ from ⟨by show (0 : Int) ≤ 3; omega, by show (3 : Int) ≤ 3; omega, fun _ => HI0.out, fun _ => HT0.out, fun h => absurd rfl h, hb4, fun j hj => HJ.out j hj (by rw [hie]; exact hj)⟩)
              clear hie
              go_wp2_with fail
              go_ret
              exact ⟨0, rfl, Lib.hid ⟨by omega, by omega, fun _ => FIN.out⟩, B1⟩
      · have ht2 : s.toList.isEmpty = false := by simpa using ht
        go_wp2_with fail
        go_ret
        exact ⟨3, rfl, Lib.hid ⟨by omega, by omega, fun h => by omega⟩, B1⟩
    · have hn2 : (n != 0) = true := by simpa using hn
      have hn3 : (n == 0) = false := by simpa using hn
      go_wp2_with fail
      go_ret
      exact ⟨3, rfl, Lib.hid ⟨by omega, by omega, fun h => by omega⟩, B1⟩
end Go.Proofs.YtbcmmecilheicaaGreatDoor

