/- Ranges of keys, in plain Lean. -/
import Derived.Test.YtcidmaeclonilaaText
namespace Go.Proofs.Ytcidmaeclonilaa
open Go

theorem lo_meet {f1 f2 f : ByteArray} {hf1 of1 hf2 of2 hf of : Bool} (h : narB true f1 hf1 of1 f2 hf2 of2 = (f, hf, of)) (key : ByteArray) : loB f hf of key = (loB f1 hf1 of1 key && loB f2 hf2 of2 key) := by
  unfold narB at h
  cases hf1 with
  | false =>
    cases hf2 with
    | false => simp at h; obtain ⟨rfl, rfl, rfl⟩ := h; simp [loB]
    | true => simp at h; obtain ⟨rfl, rfl, rfl⟩ := h; simp [loB]
  | true =>
    cases hf2 with
    | false => simp at h; obtain ⟨rfl, rfl, rfl⟩ := h; simp [loB]
    | true =>
      by_cases he : f1 = f2
      · subst he
        simp at h; obtain ⟨rfl, rfl, rfl⟩ := h
        unfold loB
        cases klt key f1 <;> cases decide (key = f1) <;> cases of1 <;> cases of2 <;> rfl
      · cases hl : klt f1 f2 with
        | true =>
          simp [he, hl] at h; obtain ⟨rfl, rfl, rfl⟩ := h
          rcases klt_tri f2 key with hk | hk | hk
          · have h1 := klt_trans hl hk
            simp [loB, klt_asymm h1, klt_ne' h1, klt_asymm hk, klt_ne' hk]
          · subst hk
            simp [loB, klt_asymm hl, klt_ne' hl]
          · simp [loB, hk]
        | false =>
          have hl2 : klt f2 f1 = true := by
            rcases klt_tri f1 f2 with hh | hh | hh
            · rw [hl] at hh; cases hh
            · exact absurd hh he
            · exact hh
          simp [he, hl] at h; obtain ⟨rfl, rfl, rfl⟩ := h
          rcases klt_tri f1 key with hk | hk | hk
          · have h1 := klt_trans hl2 hk
            simp [loB, klt_asymm h1, klt_ne' h1, klt_asymm hk, klt_ne' hk]
          · subst hk
            simp [loB, klt_asymm hl2, klt_ne' hl2]
          · simp [loB, hk]
theorem hi_meet {f1 f2 f : ByteArray} {hf1 of1 hf2 of2 hf of : Bool} (h : narB false f1 hf1 of1 f2 hf2 of2 = (f, hf, of)) (key : ByteArray) : hiB f hf of key = (hiB f1 hf1 of1 key && hiB f2 hf2 of2 key) := by
  unfold narB at h
  cases hf1 with
  | false =>
    cases hf2 with
    | false => simp at h; obtain ⟨rfl, rfl, rfl⟩ := h; simp [hiB]
    | true => simp at h; obtain ⟨rfl, rfl, rfl⟩ := h; simp [hiB]
  | true =>
    cases hf2 with
    | false => simp at h; obtain ⟨rfl, rfl, rfl⟩ := h; simp [hiB]
    | true =>
      by_cases he : f1 = f2
      · subst he
        simp at h; obtain ⟨rfl, rfl, rfl⟩ := h
        unfold hiB
        cases klt key f1 <;> cases decide (key = f1) <;> cases of1 <;> cases of2 <;> rfl
      · cases hl : klt f1 f2 with
        | true =>
          simp [he, hl] at h; obtain ⟨rfl, rfl, rfl⟩ := h
          rcases klt_tri key f1 with hk | hk | hk
          · have h1 := klt_trans hk hl
            simp [hiB, h1, hk]
          · subst hk
            simp [hiB, hl]
          · simp [hiB, klt_asymm hk, klt_ne' hk]
        | false =>
          have hl2 : klt f2 f1 = true := by
            rcases klt_tri f1 f2 with hh | hh | hh
            · rw [hl] at hh; cases hh
            · exact absurd hh he
            · exact hh
          simp [he, hl] at h; obtain ⟨rfl, rfl, rfl⟩ := h
          rcases klt_tri key f2 with hk | hk | hk
          · have h1 := klt_trans hk hl2
            simp [hiB, h1, hk]
          · subst hk
            simp [hiB, hl2]
          · simp [hiB, klt_asymm hk, klt_ne' hk]
theorem has_meet {f1 t1 f2 t2 f t : ByteArray} {hf1 ht1 of1 ot1 hf2 ht2 of2 ot2 hf ht of ot : Bool} (h1 : narB true f1 hf1 of1 f2 hf2 of2 = (f, hf, of)) (h2 : narB false t1 ht1 ot1 t2 ht2 ot2 = (t, ht, ot)) (key : ByteArray) :
    hasB f t hf ht of ot key = (hasB f1 t1 hf1 ht1 of1 ot1 key && hasB f2 t2 hf2 ht2 of2 ot2 key) := by
  unfold hasB
  rw [lo_meet h1, hi_meet h2]
  cases loB f1 hf1 of1 key <;> cases loB f2 hf2 of2 key <;> cases hiB t1 ht1 ot1 key <;> rfl
theorem one_has (key : ByteArray) : hasB key key true true false false key = true := by simp [hasB, loB, hiB, klt_irrefl]

theorem empty_has {fr to : ByteArray} {hf ht of ot : Bool} (h : emptyB fr to hf ht of ot = true) (key : ByteArray) : hasB fr to hf ht of ot key = false := by
  unfold emptyB at h
  cases hf with
  | false => simp at h
  | true =>
    cases ht with
    | false => simp at h
    | true =>
      simp only [Bool.true_and, Bool.or_eq_true, Bool.and_eq_true, decide_eq_true_eq] at h
      rcases h with h | ⟨rfl, h⟩
      · rcases klt_tri key fr with hk | hk | hk
        · simp [hasB, loB, hk]
        · subst hk; simp [hasB, hiB, klt_asymm h, klt_ne' h]
        · have h2 := klt_trans h hk
          simp [hasB, hiB, klt_asymm h2, klt_ne' h2]
      · rcases klt_tri key fr with hk | hk | hk
        · simp [hasB, loB, hk]
        · subst hk
          rcases h with rfl | rfl
          · simp [hasB, loB, klt_irrefl]
          · simp [hasB, hiB, klt_irrefl]
        · simp [hasB, hiB, klt_asymm hk, klt_ne' hk]

theorem pre_ff : ∀ (r k : List UInt8), (∀ y ∈ r, y = 255) → (!Op.bytesLess k r) = r.isPrefixOf k
  | [], k, _ => by cases k <;> simp [Op.bytesLess]
  | a :: r, [], _ => by simp [Op.bytesLess]
  | a :: r, b :: k, h => by
    obtain rfl : a = 255 := h a (by simp)
    have ih := pre_ff r k fun y hy => h y (by simp [hy])
    by_cases hb : b = 255
    · subst hb
      simp [Op.bytesLess, List.isPrefixOf, ← ih]
    · have hlt : b < 255 := by
        have := b.toNat_lt
        have hne : b.toNat ≠ 255 := fun e => hb (UInt8.toNat_inj.1 e)
        show b.toNat < 255
        omega
      have hne : ¬ (255 = b) := fun e => hb e.symm
      simp [Op.bytesLess, List.isPrefixOf, hlt, hne]
theorem pre_some (x : UInt8) (r : List UInt8) (hx : x ≠ 255) (hr : ∀ y ∈ r, y = 255) : ∀ (a k : List UInt8), (!Op.bytesLess k (a ++ x :: r) && Op.bytesLess k (a ++ [x + 1])) = (a ++ x :: r).isPrefixOf k
  | [], [] => by simp [Op.bytesLess]
  | [], b :: k => by
    have hx1 : (x + 1).toNat = x.toNat + 1 := by
      have h1 := x.toNat_lt
      have : x.toNat ≠ 255 := fun e => hx (UInt8.toNat_inj.1 e)
      rw [UInt8.toNat_add]
      show (x.toNat + 1) % 256 = _
      omega
    have ih := pre_ff r k hr
    by_cases hb : b = x
    · subst hb
      have hlt : b < b + 1 := by show b.toNat < (b + 1).toNat; omega
      simp [Op.bytesLess, hlt, ← ih]
    · have hne : ¬ (x = b) := fun e => hb e.symm
      have hnn : b.toNat ≠ x.toNat := fun e => hb (UInt8.toNat_inj.1 e)
      rcases Nat.lt_or_ge b.toNat x.toNat with h | h
      · have hlt : b < x := h
        simp [Op.bytesLess, List.isPrefixOf, hlt, hne]
      · have hlt : ¬ b < x := by show ¬ b.toNat < x.toNat; omega
        have hlt2 : ¬ b < x + 1 := by show ¬ b.toNat < (x + 1).toNat; omega
        simp [Op.bytesLess, List.isPrefixOf, hlt, hne, hlt2]
  | y :: a, [] => by simp [Op.bytesLess]
  | y :: a, b :: k => by
    have ih := pre_some x r hx hr a k
    by_cases hb : b = y
    · subst hb
      simp [Op.bytesLess, ← ih]
    · have hne : ¬ (y = b) := fun e => hb e.symm
      have hnn : b.toNat ≠ y.toNat := fun e => hb (UInt8.toNat_inj.1 e)
      rcases Nat.lt_or_ge b.toNat y.toNat with h | h
      · have hlt : b < y := h
        simp [Op.bytesLess, List.isPrefixOf, hlt, hne]
      · have hlt : ¬ b < y := by show ¬ b.toNat < y.toNat; omega
        have hbe : (b == y) = false := by simpa using hb
        have hye : (y == b) = false := by simpa using hne
        simp [Op.bytesLess, List.isPrefixOf, hlt, hbe, hye]
theorem prefix_has {s : ByteArray} {t : List UInt8} {ok : Bool} (h : NextP s.data.toList t ok) (key : ByteArray) :
    hasB s ⟨t.toArray⟩ true ok false ok key = s.data.toList.isPrefixOf key.data.toList := by
  have e1 : loB s true false key = !Op.bytesLess key.data.toList s.data.toList := by
    unfold loB klt; rw [ByteArray.toList_eq, ByteArray.toList_eq]; simp
  have e2 : hiB ⟨t.toArray⟩ ok ok key = (!ok || Op.bytesLess key.data.toList t) := by
    unfold hiB klt; rw [ByteArray.toList_eq, ByteArray.toList_eq]; cases ok <;> simp
  unfold hasB
  rw [e1, e2]
  rcases h with ⟨rfl, rfl, h⟩ | ⟨rfl, a, x, r, hs, hx, hr, rfl⟩
  · rw [← pre_ff _ _ h]; simp
  · rw [hs, ← pre_some x r hx hr]; simp

end Go.Proofs.Ytcidmaeclonilaa
