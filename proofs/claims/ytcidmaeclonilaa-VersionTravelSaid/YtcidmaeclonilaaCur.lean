/- cursor.Has, Empty, One: walks. -/
import Derived.Test.YtcidmaeclonilaaMemA
import Derived.Test.YtcidmaeclonilaaProg
import Derived.WalkLawsBesides
import Derived.KernelRfl
import Derived.Lib.Hide
import Derived.OwnWalk
import Derived.BigQuiet
namespace Go.Proofs.Ytcidmaeclonilaa
open Go Go.RowKit

/-- a key lies behind a from, ahead of a to -/
def loB (fr : ByteArray) (hf of : Bool) (key : ByteArray) : Bool := !hf || !(klt key fr || (decide (key = fr) && of))
def hiB (to : ByteArray) (ht ot : Bool) (key : ByteArray) : Bool := !ht || (klt key to || (decide (key = to) && !ot))
def hasB (fr to : ByteArray) (hf ht of ot : Bool) (key : ByteArray) : Bool := loB fr hf of key && hiB to ht ot key

set_option maxHeartbeats 4000000 in
theorem has12 (w : World) (fr to key : ByteArray) (hf ht of ot : Bool) :
    Calls Try.prog 12 #[.agg #[.string fr, .string to, .bool hf, .bool ht, .bool of, .bool ot], .string key] w fun e w' => e = .returned (.bool (hasB fr to hf ht of ot key)) ∧ Hid (Below w.heap.size w w') := by
  obtain ⟨b1, h1⟩ : ∃ b, klt key fr = b := ⟨_, rfl⟩
  obtain ⟨b2, h2⟩ : ∃ b, decide (key = fr) = b := ⟨_, rfl⟩
  obtain ⟨b3, h3⟩ : ∃ b, klt key to = b := ⟨_, rfl⟩
  obtain ⟨b4, h4⟩ : ∃ b, decide (key = to) = b := ⟨_, rfl⟩
  have R : hasB fr to hf ht of ot key = ((!hf || !(b1 || (b2 && of))) && (!ht || (b3 || (b4 && !ot)))) := by
    unfold hasB loB hiB; rw [h1, h2, h3, h4]
  rw [R]
  have a1 : Op.bytesLess key.toList fr.toList = b1 := h1
  have a2 : (key.toList == fr.toList) = b2 := by rw [beq_toList]; exact h2
  have a3 : Op.bytesLess key.toList to.toList = b3 := h3
  have a4 : (key.toList == to.toList) = b4 := by rw [beq_toList]; exact h4
  have HB := Lib.hid ((Below.refl w.heap.size w).alloc (Nat.le_refl _) (.cells #[.string fr, .string to, .bool hf, .bool ht, .bool of, .bool ot] 24))
  clear R h1 h2 h3 h4
  have clo : hf = false ∨ (hf = true ∧ b1 = true) ∨ (hf = true ∧ b1 = false ∧ b2 = true ∧ of = true) ∨ (hf = true ∧ b1 = false ∧ b2 = true ∧ of = false) ∨ (hf = true ∧ b1 = false ∧ b2 = false) := by
    revert hf b1 b2 of; intro hf of b1 b2; cases hf <;> cases b1 <;> cases b2 <;> cases of <;> simp
  have chi : ht = false ∨ (ht = true ∧ b3 = true) ∨ (ht = true ∧ b3 = false ∧ b4 = true ∧ ot = true) ∨ (ht = true ∧ b3 = false ∧ b4 = true ∧ ot = false) ∨ (ht = true ∧ b3 = false ∧ b4 = false) := by
    revert ht b3 b4 ot; intro ht ot b3 b4; cases ht <;> cases b3 <;> cases b4 <;> cases ot <;> simp
  rcases clo with rfl | ⟨rfl, rfl⟩ | ⟨rfl, rfl, rfl, rfl⟩ | ⟨rfl, rfl, rfl, rfl⟩ | ⟨rfl, rfl, rfl⟩
  · rcases chi with rfl | ⟨rfl, rfl⟩ | ⟨rfl, rfl, rfl, rfl⟩ | ⟨rfl, rfl, rfl, rfl⟩ | ⟨rfl, rfl, rfl⟩
    all_goals
      go_enter Try.func12, Try.ntmps12
      go_wp2
      go_ret
      exact ⟨by simp, HB⟩
  · go_enter Try.func12, Try.ntmps12
    go_wp2
    go_ret
    exact ⟨by simp, HB⟩
  · go_enter Try.func12, Try.ntmps12
    go_wp2
    go_ret
    exact ⟨by simp, HB⟩
  · rcases chi with rfl | ⟨rfl, rfl⟩ | ⟨rfl, rfl, rfl, rfl⟩ | ⟨rfl, rfl, rfl, rfl⟩ | ⟨rfl, rfl, rfl⟩
    all_goals
      go_enter Try.func12, Try.ntmps12
      go_wp2
      go_ret
      exact ⟨by simp, HB⟩
  · rcases chi with rfl | ⟨rfl, rfl⟩ | ⟨rfl, rfl, rfl, rfl⟩ | ⟨rfl, rfl, rfl, rfl⟩ | ⟨rfl, rfl, rfl⟩
    all_goals
      go_enter Try.func12, Try.ntmps12
      go_wp2
      go_ret
      exact ⟨by simp, HB⟩

end Go.Proofs.Ytcidmaeclonilaa
