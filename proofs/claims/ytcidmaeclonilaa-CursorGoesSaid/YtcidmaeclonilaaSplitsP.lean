/- CursorSplits: the plain law. -/
import Derived.Test.YtcidmaeclonilaaSeqM
import Derived.Test.YtcidmaeclonilaaCurLaw
namespace Go.Proofs.Ytcidmaeclonilaa
open Go Go.RowKit

theorem below_has (at_ key : ByteArray) : hasB ⟨#[]⟩ at_ false true false true key = klt key at_ := by simp [hasB, loB, hiB]
theorem above_has (at_ key : ByteArray) : hasB at_ ⟨#[]⟩ true false true false key = klt at_ key := by
  unfold hasB loB hiB
  rcases klt_tri at_ key with h | h | h
  · simp [h, klt_asymm h, klt_ne' h]
  · subst h; simp [klt_irrefl]
  · simp [h, klt_asymm h]
theorem one_has2 (at_ key : ByteArray) : hasB at_ at_ true true false false key = decide (key = at_) := by
  unfold hasB loB hiB
  rcases klt_tri at_ key with h | h | h
  · simp [h, klt_asymm h, klt_ne' h]
  · subst h; simp [klt_irrefl]
  · simp [h, klt_ne h]
theorem splits_len {fr tt at_ f1 t1 f2 t2 f3 t3 : ByteArray} {hf ht of ot hf1 ht1 of1 ot1 hf2 ht2 of2 ot2 hf3 ht3 of3 ot3 : Bool}
    (m1 : narB true fr hf of ⟨#[]⟩ false false = (f1, hf1, of1) ∧ narB false tt ht ot at_ true true = (t1, ht1, ot1))
    (m2 : narB true fr hf of at_ true true = (f2, hf2, of2) ∧ narB false tt ht ot ⟨#[]⟩ false false = (t2, ht2, ot2))
    (m3 : narB true fr hf of at_ true false = (f3, hf3, of3) ∧ narB false tt ht ot at_ true false = (t3, ht3, ot3)) (l : List KV) :
    (inR f1 t1 hf1 ht1 of1 ot1 l).length + (inR f3 t3 hf3 ht3 of3 ot3 l).length + (inR f2 t2 hf2 ht2 of2 ot2 l).length = (inR fr tt hf ht of ot l).length := by
  have e1 : ∀ key, hasB f1 t1 hf1 ht1 of1 ot1 key = (hasB fr tt hf ht of ot key && klt key at_) := fun key => by rw [has_meet m1.1 m1.2, below_has]
  have e2 : ∀ key, hasB f2 t2 hf2 ht2 of2 ot2 key = (hasB fr tt hf ht of ot key && klt at_ key) := fun key => by rw [has_meet m2.1 m2.2, above_has]
  have e3 : ∀ key, hasB f3 t3 hf3 ht3 of3 ot3 key = (hasB fr tt hf ht of ot key && decide (key = at_)) := fun key => by rw [has_meet m3.1 m3.2, one_has2]
  unfold inR
  simp only [e1, e2, e3]
  induction l with
  | nil => rfl
  | cons p l ih =>
    simp only [List.filter_cons]
    cases hx : hasB fr tt hf ht of ot p.1 with
    | false => simpa [hx] using ih
    | true =>
      rcases klt_tri p.1 at_ with h | h | h
      · simp [h, klt_asymm h, klt_ne h]; omega
      · simp [h, klt_irrefl]; omega
      · simp [h, klt_asymm h, klt_ne' h]; omega
theorem all_len (l : List KV) : (inR ⟨#[]⟩ ⟨#[]⟩ false false false false l).length = l.length := by
  unfold inR
  rw [List.filter_eq_self.2 (fun p _ => by simp [hasB, loB, hiB])]

end Go.Proofs.Ytcidmaeclonilaa
