/- barbicanref13.Has, Empty, hex, Text: walks. -/
import Derived.Test.YtcidmaeclonilaaText2
import Derived.BigRegion
import Derived.Deep.LoopGhost
namespace Go.Proofs.Ytcidmaeclonilaa
open Go Go.RowKit

theorem beq_comm_list {a b : ByteArray} {x : Bool} (h : decide (a = b) = x) : (a.toList == b.toList) = x := by rw [beq_toList]; exact h

set_option maxHeartbeats 8000000 in
theorem has13 (w : World) (fr to key : ByteArray) (hf ht of ot : Bool) :
    Calls Try.prog 13 #[.agg #[.string fr, .string to, .bool hf, .bool ht, .bool of, .bool ot], .string key] w fun e w' => e = .returned (.bool (hasB fr to hf ht of ot key)) ∧ Hid (Below w.heap.size w w') := by
  obtain ⟨b1, h1⟩ : ∃ b, klt fr key = b := ⟨_, rfl⟩
  obtain ⟨b2, h2⟩ : ∃ b, decide (key = fr) = b := ⟨_, rfl⟩
  obtain ⟨b3, h3⟩ : ∃ b, klt key to = b := ⟨_, rfl⟩
  obtain ⟨b4, h4⟩ : ∃ b, decide (key = to) = b := ⟨_, rfl⟩
  obtain ⟨b0, h0⟩ : ∃ b, klt key fr = b := ⟨_, rfl⟩
  have tri : (b0 = true ∧ b1 = false ∧ b2 = false) ∨ (b0 = false ∧ b1 = false ∧ b2 = true) ∨ (b0 = false ∧ b1 = true ∧ b2 = false) := by
    rw [← h0, ← h1, ← h2]
    rcases klt_tri key fr with h | h | h
    · simp [h, klt_asymm h, klt_ne h]
    · subst h; simp [klt_irrefl]
    · simp [h, klt_asymm h, klt_ne' h]
  have R : hasB fr to hf ht of ot key = ((!hf || (b1 || (b2 && !of))) && (!ht || (b3 || (b4 && !ot)))) := by
    unfold hasB loB hiB; rw [h2, h3, h4, h0]
    rcases tri with ⟨rfl, rfl, rfl⟩ | ⟨rfl, rfl, rfl⟩ | ⟨rfl, rfl, rfl⟩ <;> cases hf <;> cases of <;> simp
  rw [R]
  have a0 : Op.bytesLess key.toList fr.toList = b0 := h0
  have a1 : Op.bytesLess fr.toList key.toList = b1 := h1
  have a2 : (key.toList == fr.toList) = b2 := beq_comm_list h2
  have a3 : Op.bytesLess key.toList to.toList = b3 := h3
  have a4 : (key.toList == to.toList) = b4 := beq_comm_list h4
  have HB := Lib.hid ((Below.refl w.heap.size w).alloc (Nat.le_refl _) (.cells #[.string fr, .string to, .bool hf, .bool ht, .bool of, .bool ot] 23))
  clear R h0 h1 h2 h3 h4
  have clo : hf = false ∨ (hf = true ∧ b0 = true ∧ b1 = false ∧ b2 = false) ∨ (hf = true ∧ b0 = false ∧ b1 = false ∧ b2 = true) ∨ (hf = true ∧ b0 = false ∧ b1 = true ∧ b2 = false) := by
    cases hf
    · exact .inl rfl
    · exact .inr (tri.imp (fun h => ⟨rfl, h⟩) (fun h => h.imp (fun h => ⟨rfl, h⟩) (fun h => ⟨rfl, h⟩)))
  clear tri
  have chi : ht = false ∨ (ht = true ∧ b3 = true) ∨ (ht = true ∧ b3 = false ∧ b4 = true) ∨ (ht = true ∧ b3 = false ∧ b4 = false) := by
    revert ht b3 b4; intro ht b3 b4; cases ht <;> cases b3 <;> cases b4 <;> simp
  rcases clo with rfl | ⟨rfl, rfl, rfl, rfl⟩ | ⟨rfl, rfl, rfl, rfl⟩ | ⟨rfl, rfl, rfl, rfl⟩
  all_goals
    rcases chi with rfl | ⟨rfl, rfl⟩ | ⟨rfl, rfl, rfl⟩ | ⟨rfl, rfl, rfl⟩
    all_goals
      cases of
      all_goals
        go_enter Try.func13, Try.ntmps13
        go_wp2
        go_ret
        exact ⟨by simp, HB⟩

set_option maxHeartbeats 4000000 in
theorem empty15 (w : World) (fr to : ByteArray) (hf ht of ot : Bool) :
    Calls Try.prog 15 #[.agg #[.string fr, .string to, .bool hf, .bool ht, .bool of, .bool ot]] w fun e w' => e = .returned (.bool (emptyB fr to hf ht of ot)) ∧ Hid (Below w.heap.size w w') := by
  have HB := Lib.hid ((Below.refl w.heap.size w).alloc (Nat.le_refl _) (.cells #[.string fr, .string to, .bool hf, .bool ht, .bool of, .bool ot] 23))
  cases hf with
  | false =>
    go_enter Try.func15, Try.ntmps15
    go_wp2
    go_ret
    exact ⟨by simp [emptyB], HB⟩
  | true =>
    cases ht with
    | false =>
      go_enter Try.func15, Try.ntmps15
      go_wp2
      go_ret
      exact ⟨by simp [emptyB], HB⟩
    | true =>
      rcases klt_tri fr to with h | h | h
      · have h1 : Op.bytesLess to.toList fr.toList = false := klt_asymm h
        have h2 : (fr.toList == to.toList) = false := by rw [beq_toList]; simpa using klt_ne h
        have h3 : Op.bytesLess fr.toList to.toList = true := h
        have R : emptyB fr to true true of ot = false := by simp [emptyB, klt_asymm h, klt_ne h]
        rw [R]
        clear R h
        go_enter Try.func15, Try.ntmps15
        go_wp2
        go_ret
        exact ⟨rfl, HB⟩
      · subst h
        have h1 : Op.bytesLess fr.toList fr.toList = false := klt_irrefl fr
        have R : emptyB fr fr true true of ot = (of || ot) := by simp [emptyB, klt_irrefl]
        rw [R]
        have hh := has13 (w.alloc (.cells #[.string fr, .string fr, .bool true, .bool true, .bool of, .bool ot] 23)) fr fr fr true true of ot
        rw [show hasB fr fr true true of ot fr = (!of && !ot) by simp [hasB, loB, hiB, klt_irrefl]] at hh
        have HH := Lib.hid hh
        clear R hh
        go_enter Try.func15, Try.ntmps15
        go_wp2_with fail
        refine HH.out.mono ?_
        clear HH
        rintro e w1 ⟨rfl, h1⟩
        have HB1 := Lib.hid (HB.out.trans (h1.out.mono (by simp)))
        clear h1
        go_wp2
        go_ret
        exact ⟨rfl, HB1⟩
      · have h1 : Op.bytesLess to.toList fr.toList = true := h
        have h2 : (fr.toList == to.toList) = false := by rw [beq_toList]; simpa using klt_ne' h
        have h3 : Op.bytesLess fr.toList to.toList = false := klt_asymm h
        have R : emptyB fr to true true of ot = true := by simp [emptyB, h]
        rw [R]
        clear R h
        go_enter Try.func15, Try.ntmps15
        go_wp2
        go_ret
        exact ⟨rfl, HB⟩

end Go.Proofs.Ytcidmaeclonilaa
