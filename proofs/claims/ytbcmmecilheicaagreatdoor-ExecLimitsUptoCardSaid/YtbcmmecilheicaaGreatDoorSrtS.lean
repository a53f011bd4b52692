/- The stable sort's moves on places and ranks: plain facts, no program in sight. The row of a stable sort in memory: n elements of k cells each in a block of its own; what keeps it; regions that only read, whose callees may lay blocks. -/
import Derived.Lib.Hide
import Derived.Test.YtbcmmecilheicaaGreatDoorEvV
import Derived.Laws.IdiomCopy
import Derived.BigRegion

/- The stable sort's moves on places and ranks: plain facts, no program in sight. -/
namespace Go.Proofs.YtbcmmecilheicaaGreatDoor

/-- two places exchanged -/
def xch (f : Nat → Nat) (i j : Nat) : Nat → Nat := fun k => if k = i then f j else if k = j then f i else f k
/-- ascending from a to b -/
def Sor (f : Nat → Nat) (a b : Nat) : Prop := ∀ i j, a ≤ i → i < j → j < b → f i < f j
/-- the same outside, and inside what was inside -/
def Re (a b : Nat) (f g : Nat → Nat) : Prop := (∀ k, k < a ∨ b ≤ k → g k = f k) ∧ ∀ k, a ≤ k → k < b → ∃ l, a ≤ l ∧ l < b ∧ g k = f l
/-- what lies left of m came first -/
def Bef (o : Nat → Nat) (f : Nat → Nat) (a m b : Nat) : Prop := ∀ i j, a ≤ i → i < m → m ≤ j → j < b → o (f i) < o (f j)

theorem Re.refl (a b : Nat) (f : Nat → Nat) : Re a b f f := ⟨fun _ _ => rfl, fun k h1 h2 => ⟨k, h1, h2, rfl⟩⟩
theorem Re.trans {a b : Nat} {f g h : Nat → Nat} (p : Re a b f g) (q : Re a b g h) : Re a b f h := by
 refine ⟨fun k hk => (q.1 k hk).trans (p.1 k hk), fun k h1 h2 => ?_⟩
 obtain ⟨l, h3, h4, e⟩ := q.2 k h1 h2
 obtain ⟨m, h5, h6, e'⟩ := p.2 l h3 h4
 exact ⟨m, h5, h6, e.trans e'⟩
theorem Re.mono {a b a' b' : Nat} {f g : Nat → Nat} (p : Re a b f g) (ha : a' ≤ a) (hb : b ≤ b') : Re a' b' f g := by
 refine ⟨fun k hk => p.1 k (by omega), fun k h1 h2 => ?_⟩
 by_cases h : a ≤ k ∧ k < b
 ·obtain ⟨l, h3, h4, e⟩ := p.2 k h.1 h.2
  exact ⟨l, by omega, by omega, e⟩
 ·exact ⟨k, h1, h2, p.1 k (by omega)⟩

/-! ### the one that goes left from i to j -/
def moved (g : Nat → Nat) (j i : Nat) : Nat → Nat := fun k => if k < j then g k else if k = j then g i else if k ≤ i then g (k - 1) else g k
theorem moved_self (g : Nat → Nat) (i : Nat) : moved g i i = g := by
 funext k
 unfold moved
 by_cases h1 : k < i
 ·rw [if_pos h1]
 ·rw [if_neg h1]
  by_cases h2 : k = i
  ·rw [if_pos h2, h2]
  ·rw [if_neg h2, if_neg (by omega)]
theorem moved_step (g : Nat → Nat) {j i : Nat} (h : j < i) : xch (moved g (j + 1) i) (j + 1) j = moved g j i := by
 funext k
 unfold xch moved
 by_cases h1 : k = j + 1
 ·subst h1
  rw [if_pos rfl, if_pos (by omega), if_neg (by omega), if_neg (by omega), if_pos (by omega)]
  rfl
 ·rw [if_neg h1]
  by_cases h2 : k = j
  ·subst h2
   rw [if_pos rfl, if_neg (by omega), if_pos rfl, if_neg (by omega), if_pos rfl]
  ·rw [if_neg h2]
   by_cases h3 : k < j
   ·rw [if_pos (by omega), if_pos h3]
   ·rw [if_neg (by omega), if_neg h1, if_neg h3, if_neg h2]
theorem moved_at (g : Nat → Nat) (j i : Nat) : moved g j i j = g i := by
 unfold moved
 rw [if_neg (by omega), if_pos rfl]
theorem moved_left (g : Nat → Nat) {j i k : Nat} (h : k < j) : moved g j i k = g k := by
 unfold moved
 rw [if_pos h]
theorem moved_re (g : Nat → Nat) {a j i b : Nat} (h1 : a ≤ j) (h2 : j ≤ i) (h3 : i < b) : Re a b g (moved g j i) := by
 refine ⟨fun k hk => ?_, fun k h4 h5 => ?_⟩
 ·unfold moved
  by_cases h : k < j
  ·rw [if_pos h]
  ·rw [if_neg h, if_neg (by omega), if_neg (by omega)]
 ·unfold moved
  by_cases h : k < j
  ·rw [if_pos h]; exact ⟨k, h4, h5, rfl⟩
  ·rw [if_neg h]
   by_cases h6 : k = j
   ·rw [if_pos h6]; exact ⟨i, by omega, h3, rfl⟩
   ·rw [if_neg h6]
    by_cases h7 : k ≤ i
    ·rw [if_pos h7]; exact ⟨k - 1, by omega, by omega, rfl⟩
    ·rw [if_neg h7]; exact ⟨k, h4, h5, rfl⟩
/-- laid in its place among those ahead -/
theorem moved_sor {g : Nat → Nat} {a j i : Nat} (hs : Sor g a i) (h1 : a ≤ j) (h2 : j ≤ i) (hl : ∀ k, a ≤ k → k < j → g k < g i) (hr : ∀ k, j ≤ k → k < i → g i < g k) : Sor (moved g j i) a (i + 1) := by
 intro p q hp hpq hq
 unfold moved
 by_cases c1 : p < j
 ·rw [if_pos c1]
  by_cases c2 : q < j
  ·rw [if_pos c2]; exact hs p q hp hpq (by omega)
  ·rw [if_neg c2]
   by_cases c3 : q = j
   ·rw [if_pos c3]; exact hl p hp c1
   ·rw [if_neg c3, if_pos (by omega)]
    exact hs p (q - 1) hp (by omega) (by omega)
 ·rw [if_neg c1, if_neg (show ¬ q < j by omega), if_neg (show ¬ q = j by omega), if_pos (show q ≤ i by omega)]
  by_cases c3 : p = j
  ·rw [if_pos c3]; exact hr (q - 1) (by omega) (by omega)
  ·rw [if_neg c3, if_pos (by omega)]
   exact hs (p - 1) (q - 1) (by omega) (by omega) (by omega)

/-! ### the one that goes right from a to k -/
def movedR (g : Nat → Nat) (a k : Nat) : Nat → Nat := fun t => if t < a then g t else if t < k then g (t + 1) else if t = k then g a else g t
theorem movedR_self (g : Nat → Nat) (a : Nat) : movedR g a a = g := by
 funext t
 unfold movedR
 by_cases h1 : t < a
 ·rw [if_pos h1]
 ·rw [if_neg h1, if_neg h1]
  by_cases h2 : t = a
  ·rw [if_pos h2, h2]
  ·rw [if_neg h2]
theorem movedR_step (g : Nat → Nat) {a k : Nat} (h : a ≤ k) : xch (movedR g a k) k (k + 1) = movedR g a (k + 1) := by
 funext t
 unfold xch movedR
 by_cases h1 : t = k
 ·subst h1
  rw [if_pos rfl, if_neg (by omega), if_neg (by omega), if_neg (by omega), if_neg (by omega), if_pos (by omega)]
 ·rw [if_neg h1]
  by_cases h2 : t = k + 1
  ·subst h2
   rw [if_pos rfl, if_neg (by omega), if_neg (by omega), if_pos rfl, if_neg (by omega), if_neg (by omega), if_pos rfl]
  ·rw [if_neg h2]
   by_cases h3 : t < a
   ·rw [if_pos h3, if_pos h3]
   ·rw [if_neg h3, if_neg h3]
    by_cases h4 : t < k
    ·rw [if_pos h4, if_pos (by omega)]
    ·rw [if_neg h4, if_neg h1, if_neg (by omega), if_neg h2]
theorem movedR_re (g : Nat → Nat) {a k b : Nat} (h1 : a ≤ k) (h2 : k < b) : Re a b g (movedR g a k) := by
 refine ⟨fun t ht => ?_, fun t h4 h5 => ?_⟩
 ·unfold movedR
  by_cases h : t < a
  ·rw [if_pos h]
  ·rw [if_neg h, if_neg (by omega), if_neg (by omega)]
 ·unfold movedR
  rw [if_neg (by omega)]
  by_cases h6 : t < k
  ·rw [if_pos h6]; exact ⟨t + 1, by omega, by omega, rfl⟩
  ·rw [if_neg h6]
   by_cases h7 : t = k
   ·rw [if_pos h7]; exact ⟨a, by omega, by omega, rfl⟩
   ·rw [if_neg h7]; exact ⟨t, h4, h5, rfl⟩
theorem movedR_sor {g : Nat → Nat} {a k b : Nat} (hs : Sor g (a + 1) b) (h1 : a ≤ k) (h2 : k < b) (hl : ∀ t, a < t → t ≤ k → g t < g a) (hr : ∀ t, k < t → t < b → g a < g t) : Sor (movedR g a k) a b := by
 intro p q hp hpq hq
 unfold movedR
 rw [if_neg (show ¬ p < a by omega), if_neg (show ¬ q < a by omega)]
 by_cases c1 : p < k
 ·rw [if_pos c1]
  by_cases c2 : q < k
  ·rw [if_pos c2]; exact hs (p + 1) (q + 1) (by omega) (by omega) (by omega)
  ·rw [if_neg c2]
   by_cases c3 : q = k
   ·rw [if_pos c3]; exact hl (p + 1) (by omega) (by omega)
   ·rw [if_neg c3]; exact hs (p + 1) q (by omega) (by omega) hq
 ·rw [if_neg c1, if_neg (show ¬ q < k by omega), if_neg (show ¬ q = k by omega)]
  by_cases c3 : p = k
  ·rw [if_pos c3]; exact hr q (by omega) hq
  ·rw [if_neg c3]; exact hs p q (by omega) hpq hq

/-! ### ranges exchanged, and the turn -/
/-- n places from a on and n places from b on, exchanged -/
def xrange (f : Nat → Nat) (a b n : Nat) : Nat → Nat := fun k => if a ≤ k ∧ k < a + n then f (k - a + b) else if b ≤ k ∧ k < b + n then f (k - b + a) else f k
theorem xrange_zero (f : Nat → Nat) (a b : Nat) : xrange f a b 0 = f := by
 funext k
 unfold xrange
 rw [if_neg (by omega), if_neg (by omega)]
theorem xrange_succ (f : Nat → Nat) {a b n : Nat} (h : a + n < b) : xch (xrange f a b n) (a + n) (b + n) = xrange f a b (n + 1) := by
 funext k
 unfold xch xrange
 by_cases h1 : k = a + n
 ·subst h1
  rw [if_pos rfl, if_neg (by omega), if_neg (by omega), if_pos (by omega)]
  congr 1; omega
 ·rw [if_neg h1]
  by_cases h2 : k = b + n
  ·subst h2
   rw [if_pos rfl, if_neg (by omega), if_neg (by omega), if_neg (by omega), if_pos (by omega)]
   congr 1; omega
  ·rw [if_neg h2]
   by_cases h3 : a ≤ k ∧ k < a + n
   ·rw [if_pos h3, if_pos (by omega)]
   ·rw [if_neg h3, if_neg (show ¬ (a ≤ k ∧ k < a + (n + 1)) by omega)]
    by_cases h4 : b ≤ k ∧ k < b + n
    ·rw [if_pos h4, if_pos (by omega)]
    ·rw [if_neg h4, if_neg (by omega)]
/-- a turn: from m on first, then from a on -/
def rot (f : Nat → Nat) (a m b : Nat) : Nat → Nat := fun k => if a ≤ k ∧ k < b then (if k < a + (b - m) then f (k + (m - a)) else f (k - (b - m))) else f k
theorem rot_left (f : Nat → Nat) (m b : Nat) : rot f m m b = f := by
 funext k
 unfold rot
 by_cases h : m ≤ k ∧ k < b
 ·rw [if_pos h, if_pos (by omega)]; congr 1; omega
 ·rw [if_neg h]
theorem rot_right (f : Nat → Nat) (a m : Nat) : rot f a m m = f := by
 funext k
 unfold rot
 by_cases h : a ≤ k ∧ k < m
 ·rw [if_pos h, if_neg (by omega)]; congr 1; omega
 ·rw [if_neg h]
/-- more on the left: the first of them are exchanged with all of the right -/
theorem rot_gt (f : Nat → Nat) {m i j : Nat} (hi : i ≤ m) (hj : j < i) : rot (xrange f (m - i) m j) (m - (i - j)) m (m + j) = rot f (m - i) m (m + j) := by
 funext k
 unfold rot
 by_cases h : m - i ≤ k ∧ k < m + j
 ·rw [if_pos h]
  by_cases h1 : m - (i - j) ≤ k
  ·rw [if_pos ⟨h1, h.2⟩]
   by_cases h2 : k < m - (i - j) + (m + j - m)
   ·rw [if_pos h2, if_neg (by omega)]
    unfold xrange
    by_cases h3 : k + (m - (m - (i - j))) < m
    ·omega
    ·rw [if_neg (by omega), if_pos (by omega)]; congr 1; omega
   ·rw [if_neg h2, if_neg (by omega)]
    unfold xrange
    rw [if_neg (by omega), if_neg (by omega)]
  ·rw [if_neg (by omega), if_pos (by omega)]
   unfold xrange
   rw [if_pos (by omega)]; congr 1; omega
 ·rw [if_neg h, if_neg (by omega)]
  unfold xrange
  rw [if_neg (by omega), if_neg (by omega)]
/-- more on the right -/
theorem rot_lt (f : Nat → Nat) {m i j : Nat} (hi : i ≤ m) (hj : i < j) : rot (xrange f (m - i) (m + j - i) i) (m - i) m (m + (j - i)) = rot f (m - i) m (m + j) := by
 funext k
 unfold rot
 by_cases h : m - i ≤ k ∧ k < m + j
 ·rw [if_pos h]
  by_cases h1 : k < m + (j - i)
  ·rw [if_pos ⟨h.1, h1⟩, if_pos (show k < m - i + (m + j - m) by omega)]
   by_cases h2 : k < m - i + (m + (j - i) - m)
   ·rw [if_pos h2]
    unfold xrange
    rw [if_neg (by omega), if_neg (by omega)]
   ·rw [if_neg h2]
    unfold xrange
    rw [if_pos (by omega)]; congr 1; omega
  ·rw [if_neg (by omega), if_neg (by omega)]
   unfold xrange
   rw [if_neg (by omega), if_pos (by omega)]; congr 1; omega
 ·rw [if_neg h, if_neg (by omega)]
  unfold xrange
  rw [if_neg (by omega), if_neg (by omega)]
theorem rot_eq (f : Nat → Nat) {m i : Nat} (hi : i ≤ m) : xrange f (m - i) m i = rot f (m - i) m (m + i) := by
 funext k
 unfold rot xrange
 by_cases h : m - i ≤ k ∧ k < m + i
 ·rw [if_pos h]
  by_cases h1 : k < m
  ·rw [if_pos (by omega), if_pos (by omega)]; congr 1; omega
  ·rw [if_neg (by omega), if_pos (by omega), if_neg (by omega)]; congr 1; omega
 ·rw [if_neg h, if_neg (by omega), if_neg (by omega)]
theorem rot_re (f : Nat → Nat) {a m b : Nat} (h1 : a ≤ m) (h2 : m ≤ b) : Re a b f (rot f a m b) := by
 refine ⟨fun k hk => ?_, fun k h3 h4 => ?_⟩
 ·unfold rot; rw [if_neg (by omega)]
 ·unfold rot
  rw [if_pos ⟨h3, h4⟩]
  by_cases h : k < a + (b - m)
  ·rw [if_pos h]; exact ⟨k + (m - a), by omega, by omega, rfl⟩
  ·rw [if_neg h]; exact ⟨k - (b - m), by omega, by omega, rfl⟩

/-! ### the merge by halves -/
/-- behind the turn: two merges are left, and what lies in the first is less than what lies in the second -/
structure Halves (o f : Nat → Nat) (a s mid e b : Nat) : Prop where
 l1 : Sor f a s
 l2 : Sor f s mid
 l3 : Sor f mid e
 l4 : Sor f e b
 b1 : Bef o f a s mid
 b2 : Bef o f mid e b
 lt : ∀ i j, a ≤ i → i < mid → mid ≤ j → j < b → f i < f j
theorem halves {o f : Nat → Nat} {a s m e b : Nat} (hs : Sor f a m) (ht : Sor f m b) (hb : Bef o f a m b) (h1 : a ≤ s) (h2 : s ≤ m) (h3 : m ≤ e) (h4 : e ≤ b)
  (c1 : a < s → e < b → f (s - 1) < f e) (c2 : s < m → m < e → f (e - 1) < f s) : Halves o (rot f s m e) a s (s + (e - m)) e b := by
 have u1 : ∀ k, k < s → rot f s m e k = f k := fun k hk => by unfold rot; rw [if_neg (by omega)]
 have v2 : ∀ k, e ≤ k → rot f s m e k = f k := fun k hk => by unfold rot; rw [if_neg (by omega)]
 have v1 : ∀ k, s ≤ k → k < s + (e - m) → rot f s m e k = f (k + (m - s)) := fun k hk hk' => by unfold rot; rw [if_pos (by omega), if_pos hk']
 have u2 : ∀ k, s + (e - m) ≤ k → k < e → rot f s m e k = f (k - (e - m)) := fun k hk hk' => by unfold rot; rw [if_pos (by omega), if_neg (by omega)]
 refine ⟨fun i j hi hij hj => ?_, fun i j hi hij hj => ?_, fun i j hi hij hj => ?_, fun i j hi hij hj => ?_, fun i j hi hi' hj hj' => ?_, fun i j hi hi' hj hj' => ?_, fun i j hi hi' hj hj' => ?_⟩
 ·rw [u1 i (by omega), u1 j hj]; exact hs i j hi hij (by omega)
 ·rw [v1 i hi (by omega), v1 j (by omega) hj]; exact ht _ _ (by omega) (by omega) (by omega)
 ·rw [u2 i hi (by omega), u2 j (by omega) hj]; exact hs _ _ (by omega) (by omega) (by omega)
 ·rw [v2 i hi, v2 j (by omega)]; exact ht i j (by omega) hij hj
 ·rw [u1 i hi', v1 j hj hj']; exact hb _ _ hi (by omega) (by omega) (by omega)
 ·rw [u2 i hi hi', v2 j hj]; exact hb _ _ (by omega) (by omega) (by omega) hj'
 ·by_cases d1 : i < s
  ·rw [u1 i d1]
   by_cases d2 : j < e
   ·rw [u2 j hj d2]; exact hs _ _ hi (by omega) (by omega)
   ·rw [v2 j (by omega)]
    have k := c1 (by omega) (by omega)
    have k1 : f i ≤ f (s - 1) := by
     rcases Nat.lt_or_ge i (s - 1) with h | h
     ·exact Nat.le_of_lt (hs i (s - 1) hi h (by omega))
     ·have : i = s - 1 := by omega
      rw [this]; exact Nat.le_refl _
    have k2 : f e ≤ f j := by
     rcases Nat.lt_or_ge e j with h | h
     ·exact Nat.le_of_lt (ht e j h3 h hj')
     ·have : j = e := by omega
      rw [this]; exact Nat.le_refl _
    omega
  ·rw [v1 i (by omega) hi']
   by_cases d2 : j < e
   ·rw [u2 j hj d2]
    have k := c2 (by omega) (by omega)
    have k1 : f (i + (m - s)) ≤ f (e - 1) := by
     rcases Nat.lt_or_ge (i + (m - s)) (e - 1) with h | h
     ·exact Nat.le_of_lt (ht _ _ (by omega) h (by omega))
     ·have : i + (m - s) = e - 1 := by omega
      rw [this]; exact Nat.le_refl _
    have k2 : f s ≤ f (j - (e - m)) := by
     rcases Nat.lt_or_ge s (j - (e - m)) with h | h
     ·exact Nat.le_of_lt (hs _ _ h1 h (by omega))
     ·have : j - (e - m) = s := by omega
      rw [this]; exact Nat.le_refl _
    omega
   ·rw [v2 j (by omega)]
    exact ht _ _ (by omega) (by omega) hj'
/-- the first of the two merges done -/
theorem Halves.first {o f g : Nat → Nat} {a s mid e b : Nat} (h : Halves o f a s mid e b) (hme : mid ≤ e) (hr : Re a mid f g) :
  Sor g mid e ∧ Sor g e b ∧ Bef o g mid e b ∧ ∀ i j, a ≤ i → i < mid → mid ≤ j → j < b → g i < g j := by
 have k : ∀ t, mid ≤ t → g t = f t := fun t ht => hr.1 t (.inr ht)
 refine ⟨fun i j hi hij hj => ?_, fun i j hi hij hj => ?_, fun i j hi hi' hj hj' => ?_, fun i j hi hi' hj hj' => ?_⟩
 ·rw [k i hi, k j (by omega)]; exact h.l3 i j hi hij hj
 ·rw [k i (by omega), k j (by omega)]; exact h.l4 i j hi hij hj
 ·rw [k i hi, k j (by omega)]; exact h.b2 i j hi hi' hj hj'
 ·obtain ⟨l, l1, l2, e1⟩ := hr.2 i hi hi'
  rw [e1, k j hj]; exact h.lt l j l1 l2 hj hj'
theorem sor_join {g : Nat → Nat} {a mid b : Nat} (h1 : Sor g a mid) (h2 : Sor g mid b) (h3 : ∀ i j, a ≤ i → i < mid → mid ≤ j → j < b → g i < g j) : Sor g a b := by
 intro i j hi hij hj
 by_cases c : j < mid
 ·exact h1 i j hi hij c
 ·by_cases c2 : i < mid
  ·exact h3 i j hi c2 (by omega) hj
  ·exact h2 i j (by omega) hij hj
theorem lt_keep {f g : Nat → Nat} {a mid b : Nat} (hr : Re mid b f g) (h : ∀ i j, a ≤ i → i < mid → mid ≤ j → j < b → f i < f j) : ∀ i j, a ≤ i → i < mid → mid ≤ j → j < b → g i < g j := by
 intro i j hi hi' hj hj'
 obtain ⟨l, l1, l2, e1⟩ := hr.2 j hj hj'
 rw [hr.1 i (.inl hi'), e1]
 exact h i l hi hi' l1 l2
theorem sor_keep {f g : Nat → Nat} {a mid b : Nat} (hr : Re mid b f g) (h : Sor f a mid) : Sor g a mid := by
 intro i j hi hij hj
 rw [hr.1 i (.inl (by omega)), hr.1 j (.inl hj)]
 exact h i j hi hij hj

/-! ### runs -/
/-- ascending within each bs places, and each bs places hold what they held -/
structure Runs (o f : Nat → Nat) (n bs : Nat) : Prop where
 up : ∀ i j, i < j → j < n → i / bs = j / bs → f i < f j
 own : ∀ k, k < n → o (f k) / bs = k / bs
/-- under way: so many pairs of runs are merged -/
structure RunsM (o f : Nat → Nat) (n bs t : Nat) : Prop where
 m1 : ∀ i j, i < j → j < n → i / (2 * bs) = j / (2 * bs) → i / (2 * bs) < t → f i < f j
 m2 : ∀ i j, i < j → j < n → i / bs = j / bs → t ≤ i / (2 * bs) → f i < f j
 m3 : ∀ k, k < n → o (f k) / (2 * bs) = k / (2 * bs)
 m4 : ∀ k, k < n → t ≤ k / (2 * bs) → o (f k) / bs = k / bs
theorem div2 (k bs : Nat) : k / (2 * bs) = k / bs / 2 := by rw [Nat.mul_comm, Nat.div_div_eq_div_mul]
theorem Runs.begin {o f : Nat → Nat} {n bs : Nat} (h : Runs o f n bs) : RunsM o f n bs 0 :=
 ⟨fun i j _ _ _ h0 => absurd h0 (Nat.not_lt_zero _), fun i j h1 h2 h3 _ => h.up i j h1 h2 h3, fun k hk => by rw [div2, div2, h.own k hk], fun k hk _ => h.own k hk⟩
theorem Runs.whole {o f : Nat → Nat} {n bs : Nat} (h : Runs o f n bs) (hn : n ≤ bs) : Sor f 0 n := by
 intro i j _ hij hj
 exact h.up i j hij hj (by rw [Nat.div_eq_of_lt (by omega), Nat.div_eq_of_lt (by omega)])
theorem div_is {k bs t : Nat} (_ : 0 < bs) (h1 : t * bs ≤ k) (h2 : k < t * bs + bs) : k / bs = t :=
 Nat.div_eq_of_lt_le h1 (by rw [Nat.add_mul, Nat.one_mul]; exact h2)
theorem div_at {k bs t : Nat} (h0 : 0 < bs) (h : k / bs = t) : t * bs ≤ k ∧ k < t * bs + bs := by
 subst h
 have a := Nat.div_mul_le_self k bs
 have b := Nat.lt_mul_div_succ k h0
 rw [Nat.mul_add, Nat.mul_one, Nat.mul_comm] at b
 exact ⟨a, b⟩
/-- a pair of runs merged -/
theorem RunsM.step {o f g : Nat → Nat} {n bs t b : Nat} (h : RunsM o f n bs t) (h0 : 0 < bs) (hb : b = t * (2 * bs) + 2 * bs ∧ b ≤ n ∨ b = n ∧ n < t * (2 * bs) + 2 * bs) (hr : Re (t * (2 * bs)) b f g) (hs : Sor g (t * (2 * bs)) b) : RunsM o g n bs (t + 1) := by
 have out : ∀ k, k < n → k / (2 * bs) ≠ t → g k = f k := fun k hk hne => by
  refine hr.1 k ?_
  by_cases c : k < t * (2 * bs)
  ·exact .inl c
  ·refine .inr ?_
   by_cases c2 : b ≤ k
   ·exact c2
   ·exact absurd (div_is (by omega) (by omega) (by omega)) hne
 have inn : ∀ k, k < n → k / (2 * bs) = t → t * (2 * bs) ≤ k ∧ k < b := fun k hk he => by
  have := div_at (by omega) he
  omega
 refine ⟨fun i j h1 h2 h3 h4 => ?_, fun i j h1 h2 h3 h4 => ?_, fun k hk => ?_, fun k hk h4 => ?_⟩
 ·by_cases c : i / (2 * bs) = t
  ·have ci := inn i (by omega) c
   have cj := inn j h2 (by omega)
   exact hs i j ci.1 h1 cj.2
  ·rw [out i (by omega) c, out j h2 (by omega)]
   exact h.m1 i j h1 h2 h3 (by omega)
 ·have e : i / (2 * bs) = j / (2 * bs) := by rw [div2, div2, h3]
  rw [out i (by omega) (by omega), out j h2 (by omega)]
  exact h.m2 i j h1 h2 h3 (by omega)
 ·by_cases c : k / (2 * bs) = t
  ·have ck := inn k hk c
   obtain ⟨l, l1, l2, e1⟩ := hr.2 k ck.1 ck.2
   have el : l / (2 * bs) = t := div_is (by omega) l1 (by omega)
   rw [e1, h.m3 l (by omega), el, c]
  ·rw [out k hk c]; exact h.m3 k hk
 ·rw [out k hk (by omega)]
  exact h.m4 k hk (by omega)
/-- what the merge of the pair asks -/
theorem RunsM.pre {o f : Nat → Nat} {n bs t b : Nat} (h : RunsM o f n bs t) (h0 : 0 < bs) (h1 : t * (2 * bs) + bs ≤ b) (h2 : b ≤ t * (2 * bs) + 2 * bs) (h3 : b ≤ n) :
  Sor f (t * (2 * bs)) (t * (2 * bs) + bs) ∧ Sor f (t * (2 * bs) + bs) b ∧ Bef o f (t * (2 * bs)) (t * (2 * bs) + bs) b := by
 have e1 : t * (2 * bs) = (2 * t) * bs := by rw [Nat.mul_left_comm, Nat.mul_assoc]
 have e2 : t * (2 * bs) + bs = (2 * t + 1) * bs := by rw [e1, Nat.add_mul, Nat.one_mul]
 have d1 : ∀ k, t * (2 * bs) ≤ k → k < t * (2 * bs) + bs → k / bs = 2 * t := fun k hk hk' => div_is h0 (by omega) (by omega)
 have d2 : ∀ k, t * (2 * bs) + bs ≤ k → k < b → k / bs = 2 * t + 1 := fun k hk hk' => div_is h0 (by omega) (by omega)
 refine ⟨fun i j hi hij hj => ?_, fun i j hi hij hj => ?_, fun i j hi hi' hj hj' => ?_⟩
 ·have a := d1 i hi (by omega)
  have b := d1 j (by omega) hj
  exact h.m2 i j hij (by omega) (by omega) (by rw [div2]; omega)
 ·have a := d2 i hi (by omega)
  have b := d2 j (by omega) hj
  exact h.m2 i j hij (by omega) (by omega) (by rw [div2]; omega)
 ·have a := d1 i hi hi'
  have b := d2 j hj hj'
  have p := h.m4 i (by omega) (by rw [div2]; omega)
  have q := h.m4 j (by omega) (by rw [div2]; omega)
  have pa := div_at h0 (p.trans a)
  have qa := div_at h0 (q.trans b)
  omega
/-- one run left, or none -/
theorem RunsM.end_ {o f : Nat → Nat} {n bs t : Nat} (h : RunsM o f n bs t) (h0 : 0 < bs) (hn : n ≤ t * (2 * bs) + bs) : Runs o f n (2 * bs) := by
 refine ⟨fun i j h1 h2 h3 => ?_, h.m3⟩
 by_cases c : i / (2 * bs) < t
 ·exact h.m1 i j h1 h2 h3 c
 ·have e1 : t * (2 * bs) = (2 * t) * bs := by rw [Nat.mul_left_comm, Nat.mul_assoc]
  have c1 : t ≤ i / (2 * bs) := by omega
  have c2 : t * (2 * bs) ≤ i := (Nat.le_div_iff_mul_le (by omega)).1 c1
  refine h.m2 i j h1 h2 ?_ c1
  rw [div_is (t := 2 * t) h0 (by omega) (by omega), div_is (t := 2 * t) h0 (by omega) (by omega)]
theorem RunsM.all {o f : Nat → Nat} {n bs t : Nat} (h : RunsM o f n bs t) (h0 : 0 < bs) (hn : n ≤ t * (2 * bs)) : Runs o f n (2 * bs) := h.end_ h0 (by omega)

/-- ascending ranks below n are the places themselves -/
theorem sor_id {f : Nat → Nat} {n : Nat} (hs : Sor f 0 n) (hl : ∀ k, k < n → f k < n) : ∀ k, k < n → f k = k := by
 have lo : ∀ k, k < n → k ≤ f k := by
  intro k
  induction k with
  | zero => intro _; exact Nat.zero_le _
  | succ k ih =>
   intro hk
   have := hs k (k + 1) (Nat.zero_le _) (by omega) hk
   have := ih (by omega)
   omega
 have hi : ∀ d k, k < n → n - k = d → f k + d ≤ n := by
  intro d
  induction d with
  | zero => intro k hk hd; omega
  | succ d ih =>
   intro k hk hd
   by_cases c : k + 1 < n
   ·have a := ih (k + 1) c (by omega)
    have b := hs k (k + 1) (Nat.zero_le _) (by omega) c
    omega
   ·have := hl k hk
    omega
 intro k hk
 have a := lo k hk
 have b := hi (n - k) k hk rfl
 omega

/-- the first runs, laid by insertion: up to a they are laid, behind it all is as it was -/
structure First (o f0 f : Nat → Nat) (n bs a : Nat) : Prop where
 up : ∀ i j, i < j → j < n → i / bs = j / bs → i < a → f i < f j
 own : ∀ k, k < n → o (f k) / bs = k / bs
 rest : ∀ k, a ≤ k → f k = f0 k
theorem First.zero {o f0 : Nat → Nat} {n bs : Nat} (h : ∀ k, k < n → o (f0 k) = k) : First o f0 f0 n bs 0 :=
 ⟨fun i j _ _ _ h0 => by omega, fun k hk => by rw [h k hk], fun _ _ => rfl⟩
theorem First.step {o f0 f g : Nat → Nat} {n bs t b : Nat} (h : First o f0 f n bs (t * bs)) (h0 : 0 < bs) (hb : b = t * bs + bs ∧ b ≤ n ∨ b = n ∧ n ≤ t * bs + bs) (hr : Re (t * bs) b f g) (hs : Sor g (t * bs) b) : First o f0 g n bs (t * bs + bs) := by
 refine ⟨fun i j h1 h2 h3 h4 => ?_, fun k hk => ?_, fun k hk => ?_⟩
 ·by_cases c : i < t * bs
  ·have cj : j < t * bs := by
    rcases Nat.lt_or_ge j (t * bs) with h5 | h5
    ·exact h5
    ·have h6 : t ≤ j / bs := (Nat.le_div_iff_mul_le h0).2 h5
     have h7 : i / bs < t := (Nat.div_lt_iff_lt_mul h0).2 c
     omega
   rw [hr.1 i (.inl c), hr.1 j (.inl cj)]
   exact h.up i j h1 h2 h3 c
  ·have ei : i / bs = t := div_is h0 (by omega) h4
   have ej := div_at h0 (h3.symm.trans ei)
   exact hs i j (by omega) h1 (by omega)
 ·by_cases c : t * bs ≤ k ∧ k < b
  ·obtain ⟨l, l1, l2, e1⟩ := hr.2 k c.1 c.2
   have el : l / bs = t := div_is h0 l1 (by omega)
   have ek : k / bs = t := div_is h0 c.1 (by omega)
   rw [e1, h.own l (by omega), el, ek]
  ·rw [hr.1 k (by omega)]; exact h.own k hk
 ·rcases hb with hb | hb
  ·rw [hr.1 k (.inr (by omega))]; exact h.rest k (by omega)
  ·rw [hr.1 k (.inr (by omega))]; exact h.rest k (by omega)
theorem First.runs {o f0 f : Nat → Nat} {n bs a : Nat} (h : First o f0 f n bs a) (hn : n ≤ a) : Runs o f n bs :=
 ⟨fun i j h1 h2 h3 => h.up i j h1 h2 h3 (by omega), h.own⟩

end Go.Proofs.YtbcmmecilheicaaGreatDoor

/- The row of a stable sort in memory: n elements of k cells each in a block of its own; what keeps it; regions that only read, whose callees may lay blocks. -/
namespace Go.Proofs.YtbcmmecilheicaaGreatDoor
open Go Go.RowKit

/-- the cells of n elements, the i-th of which is of rank f i -/
def rowF (enc : Nat → List Value) (f : Nat → Nat) (n : Nat) : List Value := ((List.range n).map fun i => enc (f i)).flatten
theorem rowF_len {enc : Nat → List Value} {f : Nat → Nat} {k : Nat} (hk : ∀ r, (enc r).length = k) : ∀ n, (rowF enc f n).length = n * k
 | 0 => by simp [rowF]
 | n + 1 => by
  have ih := rowF_len (f := f) hk n
  simp only [rowF, List.range_succ, List.map_append, List.flatten_append, List.map_cons, List.map_nil, List.flatten_cons, List.flatten_nil, List.append_nil, List.length_append] at ih ⊢
  rw [ih, hk, Nat.add_mul, Nat.one_mul]
theorem rowF_succ (enc : Nat → List Value) (f : Nat → Nat) (n : Nat) : rowF enc f (n + 1) = rowF enc f n ++ enc (f n) := by
 simp [rowF, List.range_succ]
theorem rowF_at {enc : Nat → List Value} {f : Nat → Nat} {k : Nat} (hk : ∀ r, (enc r).length = k) : ∀ {n i c : Nat}, i < n → c < k → (rowF enc f n)[i * k + c]? = (enc (f i))[c]?
 | 0, _, _, h, _ => absurd h (Nat.not_lt_zero _)
 | n + 1, i, c, h, hc => by
  rw [rowF_succ]
  by_cases e : i < n
  ·have hb : i * k + c < n * k := by
    have := Nat.mul_le_mul_right k (show i + 1 ≤ n from e)
    rw [Nat.add_mul, Nat.one_mul] at this
    omega
   rw [List.getElem?_append_left (by rw [rowF_len hk]; exact hb)]
   exact rowF_at hk e hc
  ·have : i = n := by omega
   subst this
   rw [List.getElem?_append_right (by rw [rowF_len hk]; omega), rowF_len hk]
   congr 1; omega

/-- the row of the sort in a world: w0 has grown, but for block g; and g holds it -/
structure SW (w0 : World) (g : Nat) (t : TypeId) (k cap n : Nat) (enc : Nat → List Value) (f : Nat → Nat) (W : World) : Prop where
 grown : w0.grownBy W (some g)
 lt : g < w0.heap.size
 row : ∃ cur : Array Value, W.heap[g]? = some (.cells cur t (0, 0)) ∧ cur.size = cap * k ∧ (n ≤ cap ∧ cap ≤ maxLen) ∧ ∀ i c, i < n → c < k → cur[i * k + c]? = (enc (f i))[c]?
section
variable {w0 W : World} {g : Nat} {t : TypeId} {k cap n : Nat} {enc : Nat → List Value} {f : Nat → Nat}
theorem SW.ltW (h : SW w0 g t k cap n enc f W) : g < W.heap.size := Nat.lt_of_lt_of_le h.lt h.grown.size
theorem SW.cell (h : SW w0 g t k cap n enc f W) {i c : Nat} (hi : i < n) (hc : c < k) : W.cell? ⟨g, i * k + c, none⟩ = (enc (f i))[c]? := by
 obtain ⟨cur, h1, -, -, h4⟩ := h.row
 rw [cell_of_row W g _ cur t (0, 0) h1]
 exact h4 i c hi hc
theorem SW.frozen (h : SW w0 g t k cap n enc f W) (o : Nat) : W.frozen? ⟨g, o, none⟩ = false := by
 obtain ⟨cur, h1, -, -, -⟩ := h.row
 simp [World.frozen?, h1]
theorem SW.below (h : SW w0 g t k cap n enc f W) {W' : World} (hb : Below W.heap.size W W') : SW w0 g t k cap n enc f W' := by
 refine ⟨⟨hb.os.trans h.grown.os, hb.tape.trans h.grown.tape, hb.output.trans h.grown.output, Nat.le_trans h.grown.size hb.size, fun j hj hne => ?_⟩, h.lt, ?_⟩
 ·rw [hb.block j (Nat.lt_of_lt_of_le hj h.grown.size)]
  exact h.grown.block j hj hne
 ·obtain ⟨cur, h1, h2, h3, h4⟩ := h.row
  exact ⟨cur, (hb.block g h.ltW).trans h1, h2, h3, h4⟩
/-- element i's cells laid anew -/
def upd (f : Nat → Nat) (i r : Nat) : Nat → Nat := fun j => if j = i then r else f j
theorem upd_xch (f : Nat → Nat) (i j : Nat) : upd (upd f i (f j)) j (f i) = xch f i j := by
 funext x
 unfold upd xch
 by_cases h1 : x = j
 ·subst h1
  rw [if_pos rfl]
  by_cases h2 : x = i
  ·subst h2; rw [if_pos rfl]
  ·rw [if_neg h2, if_pos rfl]
 ·rw [if_neg h1]
  by_cases h2 : x = i
  ·rw [if_pos h2, if_pos h2]
  ·rw [if_neg h2, if_neg h2, if_neg h1]
theorem heap_setCells (b : Nat) {t : TypeId} {z : Nat × Nat} : ∀ (vs : List Value) (o : Nat) (W : World) (cur : Array Value), W.heap[b]? = some (.cells cur t z) → o + vs.length ≤ cur.size →
  ∃ cur', (W.setCells b o vs).heap[b]? = some (.cells cur' t z) ∧ cur'.size = cur.size ∧ ∀ x, cur'[x]? = if o ≤ x ∧ x < o + vs.length then vs[x - o]? else cur[x]?
 | [], o, W, cur, h, _ => ⟨cur, h, rfl, fun x => by rw [if_neg (by simp)]⟩
 | v :: r, o, W, cur, h, hs => by
  simp only [List.length_cons] at hs
  have h1 : (W.setCell ⟨b, o, none⟩ v).heap[b]? = some (.cells (cur.setIfInBounds o v) t z) := by simp [World.setCell, Array.getElem?_modify, h]
  obtain ⟨cur', e1, e2, e3⟩ := heap_setCells b r (o + 1) _ _ h1 (by simp; omega)
  refine ⟨cur', e1, by rw [e2]; simp, fun x => ?_⟩
  rw [e3 x]
  by_cases c1 : o + 1 ≤ x ∧ x < o + 1 + r.length
  ·rw [if_pos c1, if_pos (by simp; omega)]
   obtain ⟨y, rfl⟩ : ∃ y, x = o + 1 + y := ⟨x - (o + 1), by omega⟩
   rw [show o + 1 + y - (o + 1) = y by omega, show o + 1 + y - o = y + 1 by omega]
   simp
  ·rw [if_neg c1]
   by_cases c2 : x = o
   ·subst c2
    rw [if_pos (by simp), Array.getElem?_setIfInBounds_self]
    simp; omega
   ·rw [if_neg (by simp; omega), Array.getElem?_setIfInBounds_ne (by omega)]
theorem other_setCells (b : Nat) {j : Nat} (hj : j ≠ b) : ∀ (vs : List Value) (o : Nat) (W : World), (W.setCells b o vs).heap[j]? = W.heap[j]?
 | [], _, _ => rfl
 | v :: r, o, W => by
  rw [World.setCells, other_setCells b hj r, Below.heap_setCell _ _ _ _ (by exact hj)]
theorem size_setCells' (b : Nat) : ∀ (vs : List Value) (o : Nat) (W : World), (W.setCells b o vs).heap.size = W.heap.size
 | [], _, _ => rfl
 | v :: r, o, W => by rw [World.setCells, size_setCells' b r]; simp
theorem os_setCells (b : Nat) : ∀ (vs : List Value) (o : Nat) (W : World), (W.setCells b o vs).os = W.os ∧ (W.setCells b o vs).tape = W.tape ∧ (W.setCells b o vs).output = W.output
 | [], _, _ => ⟨rfl, rfl, rfl⟩
 | v :: r, o, W => by
  rw [World.setCells]
  exact os_setCells b r (o + 1) _
theorem SW.put (h : SW w0 g t k cap n enc f W) (hk : ∀ r, (enc r).length = k) {i : Nat} (hi : i < n) (r : Nat) : SW w0 g t k cap n enc (upd f i r) (W.setCells g (i * k) (enc r)) := by
 obtain ⟨cur, h1, h2, h3, h4⟩ := h.row
 have hb : i * k + k ≤ cap * k := by
  have := Nat.mul_le_mul_right k (show i + 1 ≤ cap from Nat.le_trans hi h3.1)
  rw [Nat.add_mul, Nat.one_mul] at this
  exact this
 obtain ⟨cur', e1, e2, e3⟩ := heap_setCells g (enc r) (i * k) W cur h1 (by rw [hk, h2]; exact hb)
 obtain ⟨o1, o2, o3⟩ := os_setCells g (enc r) (i * k) W
 refine ⟨⟨o1.trans h.grown.os, o2.trans h.grown.tape, o3.trans h.grown.output, by rw [size_setCells']; exact h.grown.size, fun j hj hne => ?_⟩, h.lt, cur', e1, e2.trans h2, h3, fun j c hj hc => ?_⟩
 ·rw [other_setCells g (fun e => hne (by rw [e]))]
  exact h.grown.block j hj hne
 ·rw [e3, hk]
  unfold upd
  by_cases e : j = i
  ·subst e
   rw [if_pos (by omega), if_pos rfl]
   congr 1; omega
  ·rw [if_neg ?_, if_neg e]
   ·exact h4 j c hj hc
   ·rcases Nat.lt_or_ge j i with q | q
    ·have := Nat.mul_le_mul_right k (show j + 1 ≤ i from q)
     rw [Nat.add_mul, Nat.one_mul] at this
     omega
    ·have := Nat.mul_le_mul_right k (show i + 1 ≤ j by omega)
     rw [Nat.add_mul, Nat.one_mul] at this
     omega
theorem SW.drew (h : SW w0 g t k cap n enc f W) : SW w0 g t k cap n enc f W.drew := h.below (below_drew W)
theorem SW.exchange (h : SW w0 g t k cap n enc f W) (hk : ∀ r, (enc r).length = k) {i j : Nat} (hi : i < n) (hj : j < n) : SW w0 g t k cap n enc (xch f i j) ((W.setCells g (i * k) (enc (f j))).setCells g (j * k) (enc (f i))) := by
 rw [← upd_xch]
 exact (h.put hk hi (f j)).put hk hj (f i)
theorem SW.of_own {B : Nat} (h : W.ownsRow B t k (.slice (some ⟨g, 0, none⟩) n cap) n (rowF enc f n)) (hk : ∀ r, (enc r).length = k) : SW W g t k cap n enc f W := by
 obtain ⟨h1, h2⟩ := h
 rcases h2 with ⟨h2, -⟩ | ⟨g0, cap0, cur, h2, h3, h4, h5, h6, h7, h8⟩
 ·cases h2
 ·injection h2 with e1 e2 e3
  injection e1 with e1
  injection e1 with e1
  subst e1 e3
  refine ⟨⟨rfl, rfl, rfl, Nat.le_refl _, fun _ _ _ => rfl⟩, (Array.getElem?_eq_some_iff.1 h4).1, cur, h4, h7, ⟨h5, h6⟩, fun i c hi hc => ?_⟩
  rw [← rowF_at hk hi hc, ← h8]
  have hb : i * k + c < n * k := by
   have := Nat.mul_le_mul_right k (show i + 1 ≤ n from hi)
   rw [Nat.add_mul, Nat.one_mul] at this
   omega
  rw [List.getElem?_take_of_lt hb]
  simp
end

/-! ### regions that only read, whose callees may lay blocks -/
/-- a world that has come of W by growth alone -/
structure BelowW (W : World) where
 w : World
 h : Below W.heap.size W w
instance (W : World) : Inhabited (BelowW W) := ⟨⟨W, Below.refl _ _⟩⟩
theorem wp_region_quiet_below {P : Program} {id : Nat} {Q : Exit → Act → World → Prop} {a : Act} {w : World} {l : List Oper} (hm : P.follows .mixedOrders = true) (hB : Region.lexB .any l.toArray = true)
  (h : wpQuiet P l.toArray (fun w' => ∃ p : BelowW w, w' = p.w) (fun a' => ∀ w', (∃ p : BelowW w, w' = p.w) → Q .normal a' w') l a) : (Code.region id l.toArray true).wp P Q a w :=
 wp_region_quiet (C := fun w' => ∃ p : BelowW w, w' = p.w) hm hB ⟨⟨w.drew, below_drew w⟩, rfl⟩ (by simpa using h)
/-- a callee's contract, met in such a world -/
theorem calls_below {P : Program} {f : FuncId} {args : Array Value} {w : World} (p : BelowW w) {v : Value} (h : Calls P f args p.w fun e w' => e = .returned v ∧ Hid (Below p.w.heap.size p.w w')) :
  Calls P f args p.w fun e w'' => e = .returned v ∧ ∃ p' : BelowW w, w'' = p'.w :=
 h.mono fun _ w' ⟨he, hb⟩ => ⟨he, ⟨w', bt hb.out p.h⟩, rfl⟩

end Go.Proofs.YtbcmmecilheicaaGreatDoor
