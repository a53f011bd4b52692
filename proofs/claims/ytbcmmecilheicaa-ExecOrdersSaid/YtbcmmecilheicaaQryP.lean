/- The order of a query's parts: each item of the order, some the other way round. -/
import Derived.Test.YtbcmmecilheicaaOrdA
import Derived.Test.YtbcmmecilheicaaTru
namespace Go.Proofs.Ytbcmmecilheicaa
open Go Go.RowKit

/-- one item of an order -/
def dirCmp (d : Bool) (a b : Val) : Int := if d = true then - compareP a b else compareP a b
/-- an order's items, one behind the other -/
def ordCmp : List Bool → List Val → List Val → Int
  | [], _, _ => 0
  | d :: ds, x, y => if dirCmp d (x.headD Val.null) (y.headD Val.null) ≠ 0 then dirCmp d (x.headD Val.null) (y.headD Val.null) else ordCmp ds x.tail y.tail
theorem totD (d : Bool) : TotP (dirCmp d) := by
  cases d with
  | false => exact ⟨fun a b => by simp only [dirCmp]; exact compareP_flip a b, fun a b c h1 h2 => by simp only [dirCmp] at *; exact compareP_trans h1 h2⟩
  | true => exact ⟨fun a b => by simp only [dirCmp, if_true]; rw [compareP_flip a b], fun a b c h1 h2 => by
      simp only [dirCmp, if_true] at *
      rw [← compareP_flip] at h1 h2 ⊢
      exact compareP_trans h2 h1⟩
theorem ordCmp_flip : ∀ (ds : List Bool) (x y : List Val), ordCmp ds y x = - ordCmp ds x y
  | [], _, _ => rfl
  | d :: ds, x, y => by
    rw [ordCmp, ordCmp, (totD d).flip (x.headD Val.null) (y.headD Val.null), ordCmp_flip ds x.tail y.tail]
    by_cases h : dirCmp d (x.headD Val.null) (y.headD Val.null) = 0
    · rw [if_neg (by omega), if_neg (by omega)]
    · rw [if_pos (by omega), if_pos (by omega)]
theorem ordCmp_trans : ∀ (ds : List Bool) (x y z : List Val), ordCmp ds x y ≤ 0 → ordCmp ds y z ≤ 0 → ordCmp ds x z ≤ 0
  | [], _, _, _, _, _ => Int.le_refl _
  | d :: ds, x, y, z, h1, h2 => by
    rw [ordCmp] at h1 h2 ⊢
    have T := totD d
    generalize x.headD Val.null = a at *
    generalize y.headD Val.null = b at *
    generalize z.headD Val.null = c at *
    have l1 : dirCmp d a b ≤ 0 := by
      by_cases h : dirCmp d a b = 0
      · omega
      · rw [if_pos (by omega)] at h1; exact h1
    have l2 : dirCmp d b c ≤ 0 := by
      by_cases h : dirCmp d b c = 0
      · omega
      · rw [if_pos (by omega)] at h2; exact h2
    by_cases e1 : dirCmp d a b = 0
    · by_cases e2 : dirCmp d b c = 0
      · have e3 : dirCmp d a c = 0 := by
          have p := T.trans a b c l1 l2
          have q := T.trans c b a (by rw [T.flip b c]; omega) (by rw [T.flip a b]; omega)
          rw [T.flip a c] at q
          omega
        rw [if_neg (by omega)] at h1 h2 ⊢
        exact ordCmp_trans ds _ _ _ h1 h2
      · have := T.le_lt l1 (by omega : dirCmp d b c < 0)
        rw [if_pos (by omega)]; omega
    · have := T.lt_le (by omega : dirCmp d a b < 0) l2
      rw [if_pos (by omega)]; omega
theorem totO (ds : List Bool) : TotP (ordCmp ds) := ⟨ordCmp_flip ds, ordCmp_trans ds⟩
theorem ordCmp_at {ds : List Bool} {x y : List Val} {i : Nat} {d : Bool} {a b : Val} (hd : ds[i]? = some d) (ha : x[i]? = some a) (hb : y[i]? = some b) : ordCmp (ds.drop i) (x.drop i) (y.drop i) = if dirCmp d a b ≠ 0 then dirCmp d a b else ordCmp (ds.drop (i + 1)) (x.drop (i + 1)) (y.drop (i + 1)) := by
  obtain ⟨h0, rfl⟩ := List.getElem?_eq_some_iff.1 hd
  obtain ⟨h1, rfl⟩ := List.getElem?_eq_some_iff.1 ha
  obtain ⟨h2, rfl⟩ := List.getElem?_eq_some_iff.1 hb
  rw [List.drop_eq_getElem_cons h0, List.drop_eq_getElem_cons h1, List.drop_eq_getElem_cons h2, ordCmp]
  rfl
theorem ordCmp_end (ds : List Bool) (x y : List Val) {i : Nat} (h : ds.length ≤ i) : ordCmp (ds.drop i) (x.drop i) (y.drop i) = 0 := by
  rw [List.drop_eq_nil_of_le h, ordCmp]
theorem cmpI_is (x y : Int) : cmpI x y = -1 ∨ cmpI x y = 0 ∨ cmpI x y = 1 := by
  unfold cmpI; (repeat' split) <;> simp
theorem cmpS_is (x y : ByteArray) : cmpS x y = -1 ∨ cmpS x y = 0 ∨ cmpS x y = 1 := by
  unfold cmpS; (repeat' split) <;> simp
theorem compareP_is (a b : Val) : compareP a b = -1 ∨ compareP a b = 0 ∨ compareP a b = 1 := by
  by_cases h : a.kind = b.kind
  · rw [compareP_same h]
    split
    · exact cmpI_is _ _
    · split
      · exact cmpS_is _ _
      · split
        · (repeat' split) <;> simp
        · simp
  · rcases Int.lt_or_gt_of_ne h with h | h
    · exact .inl (compareP_lt h)
    · refine .inr (.inr ?_)
      rw [compareP_flip b a, compareP_lt h]; rfl

/-- an order, as it is read -/
structure OrdsAt (W : World) (A : Option Addr) (n : Nat) (l : List (Ex × Bool)) : Prop where
  len : l.length = n
  at_ : ∀ (j : Nat) (e : Ex × Bool), l[j]? = some e → ∃ b off Ae ne ce, A = some ⟨b, off, none⟩ ∧ b < W.heap.size ∧ ExC W b (off + j * 9) e.1 Ae ne ce ∧ ExIs W e.1 Ae ne ce ∧ W.cell? ⟨b, off + j * 9 + 8, none⟩ = some (.bool e.2)
theorem OrdsAt.below {W W' : World} {A : Option Addr} {n : Nat} {l : List (Ex × Bool)} (h : OrdsAt W A n l) (hW : Below W.heap.size W W') : OrdsAt W' A n l :=
  ⟨h.len, fun j e hj => by
    obtain ⟨b, off, Ae, ne, ce, e1, hb, hc, hi, hd⟩ := h.at_ j e hj
    exact ⟨b, off, Ae, ne, ce, e1, Nat.lt_of_lt_of_le hb hW.size, hc.below hb hW, hi.bel hW, (hW.cell (p := ⟨b, off + j * 9 + 8, none⟩) hb).trans hd⟩⟩
theorem OrdsAt.nil (W : World) (A : Option Addr) : OrdsAt W A 0 [] := ⟨rfl, fun j e h => by simp at h⟩

end Go.Proofs.Ytbcmmecilheicaa
