/- value.Null, Int, Text, Bool, is, null. -/
import Derived.Test.YtbcmmecilheicaaGreatDoorMem
namespace Go.Proofs.YtbcmmecilheicaaGreatDoor
open Go Go.RowKit

set_option maxHeartbeats 1000000 in
theorem null34 (w : World) : Calls Tryz.prog 80 #[] w fun e w' => e = .returned (.agg #[.int .i64 0, .int .i64 0, .string ⟨#[]⟩, .bool false]) ∧ Hid (Below w.heap.size w w') := by
  go_enter Tryz.func80, Tryz.ntmps80
  go_wp2
  go_returns
  exact ⟨rfl, Lib.hid ((Below.refl _ w).alloc (Nat.le_refl _) _)⟩
set_option maxHeartbeats 1000000 in
theorem int50 (w : World) (n : Int) : Calls Tryz.prog 109 #[.int .i64 n] w fun e w' => e = .returned (.agg #[.int .i64 1, .int .i64 n, .string ⟨#[]⟩, .bool false]) ∧ Hid (Below w.heap.size w w') := by
  go_enter Tryz.func109, Tryz.ntmps109
  go_wp2
  go_returns
  exact ⟨rfl, Lib.hid ((Below.refl _ w).alloc (Nat.le_refl _) _)⟩
set_option maxHeartbeats 1000000 in
theorem text35 (w : World) (s : ByteArray) : Calls Tryz.prog 81 #[.string s] w fun e w' => e = .returned (.agg #[.int .i64 2, .int .i64 0, .string s, .bool false]) ∧ Hid (Below w.heap.size w w') := by
  go_enter Tryz.func81, Tryz.ntmps81
  go_wp2
  go_returns
  exact ⟨rfl, Lib.hid ((Below.refl _ w).alloc (Nat.le_refl _) _)⟩
set_option maxHeartbeats 1000000 in
theorem bool52 (w : World) (b : Bool) : Calls Tryz.prog 98 #[.bool b] w fun e w' => e = .returned (.agg #[.int .i64 3, .int .i64 0, .string ⟨#[]⟩, .bool b]) ∧ Hid (Below w.heap.size w w') := by
  go_enter Tryz.func98, Tryz.ntmps98
  go_wp2
  go_returns
  exact ⟨rfl, Lib.hid ((Below.refl _ w).alloc (Nat.le_refl _) _)⟩

set_option maxRecDepth 20000 in
set_option maxHeartbeats 4000000 in
theorem null72 (w : World) (A : Option Addr) (n c : Nat) (l : List Val) (h : ValsAt w A n l) (hn : n ≤ 1000000) :
    Calls Tryz.prog 151 #[.slice A n c] w fun e w' => e = .returned (.bool (l.any nullB)) ∧ Hid (Below w.heap.size w w') := by
  have H := Lib.hid h
  clear h
  obtain ⟨r, hr⟩ : ∃ r, r = l.any nullB := ⟨_, rfl⟩
  rw [← hr]
  have HR := Lib.hid hr
  clear hr
  go_enter Tryz.func151, Tryz.ntmps151
  go_wp2
  go_loopg [7] n (fun kx s7 wr => ∃ j : Nat, s7 = .int .i64 j ∧ kx + j = n ∧ Hid (Below w.heap.size w wr ∧ (l.take j).any nullB = false))
  case atStart => exact ⟨0, rfl, rfl, Lib.hid ⟨Below.refl _ _, by simp⟩⟩
  case round =>
    obtain ⟨j, rfl, hk, I⟩ := hrel
    by_cases hj : j < n
    · obtain ⟨v, hv⟩ : ∃ v, l[j]? = some v := ⟨_, List.getElem?_eq_getElem (by rw [H.out.len]; exact hj)⟩
      obtain ⟨b, off, rfl, hb, hc⟩ := H.out.at_ j v hv
      obtain ⟨c0, c1, c2, c3⟩ := hc.below hb I.out.1
      have hjz : (j : Int) < (n : Int) := by omega
      have hj0 : (0 : Int) ≤ (j : Int) := by omega
      have hj1 : (j : Int) < 1000001 := by omega
      have HV := Lib.hid hv
      clear hv hc hb
      by_cases h0 : v.kind = 0
      · have hr : true = r := by
          rw [HR.out]
          exact (List.any_eq_true.2 ⟨v, List.mem_of_getElem? HV.out, by simp [nullB, h0]⟩).symm
        rw [h0] at c0
        have BB := Lib.hid I.out.1
        subst hr
        clear I h0
        go_wp2
        go_ret
        exact ⟨rfl, Lib.hid (by have h := BB.out; have hs := h.size; go_grown)⟩
      · have hkz : (v.kind == 0) = false := by simpa using h0
        have BB := Lib.hid I.out.1
        have TT := Lib.hid I.out.2
        have NN := Lib.hid h0
        clear I h0
        go_wp2
        go_roundg (gk - 1)
        case measure => omega
        case rel => exact ⟨j + 1, by first | rfl | (simp; done), by omega, Lib.hid ⟨by have h := BB.out; have hs := h.size; go_grown, by
          rw [List.take_add_one, HV.out]
          have h1 := TT.out
          have h2 := NN.out
          simp only [List.any_append, h1, Bool.false_or]
          simp [nullB, h2]⟩⟩
    · obtain rfl : n = j := by omega
      have hr : false = r := by
        have h1 := I.out.2
        rw [List.take_of_length_le (by rw [H.out.len]; exact Nat.le_refl _)] at h1
        rw [HR.out, h1]
      have BB := Lib.hid I.out.1
      subst hr
      clear I
      go_wp2
      go_ret
      exact ⟨rfl, BB⟩

set_option maxRecDepth 20000 in
set_option maxHeartbeats 4000000 in
theorem is71 (w : World) (kind : Int) (A : Option Addr) (n c : Nat) (l : List Val) (h : ValsAt w A n l) (hn : n ≤ 1000000) :
    Calls Tryz.prog 150 #[.int .i64 kind, .slice A n c] w fun e w' => e = .returned (.bool (l.all (isK kind))) ∧ Hid (Below w.heap.size w w') := by
  have H := Lib.hid h
  clear h
  obtain ⟨r, hr⟩ : ∃ r, r = l.all (isK kind) := ⟨_, rfl⟩
  rw [← hr]
  have HR := Lib.hid hr
  clear hr
  go_enter Tryz.func150, Tryz.ntmps150
  go_wp2
  go_loopg [9] n (fun kx s9 wr => ∃ j : Nat, s9 = .int .i64 j ∧ kx + j = n ∧ Hid (Below w.heap.size w wr ∧ (l.take j).all (isK kind) = true))
  case atStart => exact ⟨0, rfl, rfl, Lib.hid ⟨Below.refl _ _, by simp⟩⟩
  case round =>
    obtain ⟨j, rfl, hk, I⟩ := hrel
    by_cases hj : j < n
    · obtain ⟨v, hv⟩ : ∃ v, l[j]? = some v := ⟨_, List.getElem?_eq_getElem (by rw [H.out.len]; exact hj)⟩
      obtain ⟨b, off, rfl, hb, hc⟩ := H.out.at_ j v hv
      obtain ⟨c0, c1, c2, c3⟩ := hc.below hb I.out.1
      have hjz : (j : Int) < (n : Int) := by omega
      have hj0 : (0 : Int) ≤ (j : Int) := by omega
      have hj1 : (j : Int) < 1000001 := by omega
      have HV := Lib.hid hv
      have BB := Lib.hid I.out.1
      have TT := Lib.hid I.out.2
      clear hv hc hb I
      have next : isK kind v = true → (l.take (j + 1)).all (isK kind) = true := fun hv => by
        rw [List.take_add_one, HV.out]
        have h1 := TT.out
        simp only [List.all_append, h1, Bool.true_and]
        simp [hv]
      have NX := Lib.hid next
      clear next
      by_cases h1 : v.kind = kind
      · have hk1 : (v.kind == kind) = true := by simpa using h1
        have hk2 : (v.kind != kind) = false := by simpa using h1
        have IV := Lib.hid (show isK kind v = true by simp [isK, h1])
        clear h1
        go_wp2
        go_roundg (gk - 1)
        case measure => omega
        case rel => exact ⟨j + 1, by first | rfl | (simp; done), by omega, Lib.hid ⟨by have h := BB.out; have hs := h.size; go_grown, NX.out IV.out⟩⟩
      · have hk1 : (v.kind == kind) = false := by simpa using h1
        have hk2 : (v.kind != kind) = true := by simpa using h1
        by_cases h0 : v.kind = 0
        · have hz1 : (v.kind == 0) = true := by simpa using h0
          have hz2 : (v.kind != 0) = false := by simpa using h0
          have IV := Lib.hid (show isK kind v = true by simp [isK, h0])
          clear h1 h0
          go_wp2
          go_roundg (gk - 1)
          case measure => omega
          case rel => exact ⟨j + 1, by first | rfl | (simp; done), by omega, Lib.hid ⟨by have h := BB.out; have hs := h.size; go_grown, NX.out IV.out⟩⟩
        · have hz1 : (v.kind == 0) = false := by simpa using h0
          have hz2 : (v.kind != 0) = true := by simpa using h0
          have hr : false = r := by
            rw [HR.out]
            exact (List.all_eq_false.2 ⟨v, List.mem_of_getElem? HV.out, by simp [isK, h0, h1]⟩).symm
          subst hr
          clear h1 h0
          go_wp2
          go_ret
          exact ⟨rfl, Lib.hid (by have h := BB.out; have hs := h.size; go_grown)⟩
    · obtain rfl : n = j := by omega
      have hr : true = r := by
        have h1 := I.out.2
        rw [List.take_of_length_le (by rw [H.out.len]; exact Nat.le_refl _)] at h1
        rw [HR.out, h1]
      have BB := Lib.hid I.out.1
      subst hr
      clear I
      go_wp2
      go_ret
      exact ⟨rfl, BB⟩

end Go.Proofs.YtbcmmecilheicaaGreatDoor
