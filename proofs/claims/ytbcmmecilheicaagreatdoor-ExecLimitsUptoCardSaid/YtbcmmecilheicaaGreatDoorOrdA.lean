/- Keys in order: slices.CompareFunc over value.Compare, order.Compare. Values and keys in order: a total preorder. Plain facts. Groups: places of rows with the same key stand together, in order. Plain facts, no program in sight. -/
import Derived.Test.YtbcmmecilheicaaGreatDoorValB
import Derived.Test.YtbcmmecilheicaaGreatDoorEvCE

/- Keys in order: slices.CompareFunc over value.Compare, order.Compare. -/
namespace Go.Proofs.YtbcmmecilheicaaGreatDoor
open Go Go.RowKit

/-- how lists of values stand to one another -/
def keyCmp : List Val → List Val → Int
 | [], [] => 0
 | [], _ :: _ => -1
 | _ :: _, [] => 1
 | a :: x, b :: y => if compareP a b ≠ 0 then compareP a b else keyCmp x y
theorem keyCmp_step {x y : List Val} {i : Nat} {a b : Val} (ha : x[i]? = some a) (hb : y[i]? = some b) : keyCmp (x.drop i) (y.drop i) = if compareP a b ≠ 0 then compareP a b else keyCmp (x.drop (i + 1)) (y.drop (i + 1)) := by
 obtain ⟨h1, rfl⟩ := List.getElem?_eq_some_iff.1 ha
 obtain ⟨h2, rfl⟩ := List.getElem?_eq_some_iff.1 hb
 rw [List.drop_eq_getElem_cons h1, List.drop_eq_getElem_cons h2, keyCmp]
theorem keyCmp_long {x y : List Val} {i : Nat} (ha : i < x.length) (hb : y.length ≤ i) : keyCmp (x.drop i) (y.drop i) = 1 := by
 rw [List.drop_eq_getElem_cons ha, List.drop_eq_nil_of_le hb, keyCmp]
theorem keyCmp_short {x y : List Val} {i : Nat} (ha : x.length ≤ i) (hb : i < y.length) : keyCmp (x.drop i) (y.drop i) = -1 := by
 rw [List.drop_eq_getElem_cons hb, List.drop_eq_nil_of_le ha, keyCmp]
theorem keyCmp_none {x y : List Val} {i : Nat} (ha : x.length ≤ i) (hb : y.length ≤ i) : keyCmp (x.drop i) (y.drop i) = 0 := by
 rw [List.drop_eq_nil_of_le hb, List.drop_eq_nil_of_le ha, keyCmp]

end Go.Proofs.YtbcmmecilheicaaGreatDoor

/- Values and keys in order: a total preorder. Plain facts. -/
namespace Go.Proofs.YtbcmmecilheicaaGreatDoor
open Go Go.RowKit

theorem bl_irrefl : ∀ x : List UInt8, Op.bytesLess x x = false
 | [] => rfl
 | a :: x => by simp [Op.bytesLess, bl_irrefl x]
theorem bl_asymm : ∀ x y : List UInt8, Op.bytesLess x y = true → Op.bytesLess y x = false
 | _, [], h => by simp [Op.bytesLess] at h
 | [], _ :: _, _ => by simp [Op.bytesLess]
 | a :: x, b :: y, h => by
  simp only [Op.bytesLess, Bool.or_eq_true, decide_eq_true_eq, Bool.and_eq_true, beq_iff_eq] at h
  simp only [Op.bytesLess, Bool.or_eq_false_iff, decide_eq_false_iff_not, Bool.and_eq_false_iff, beq_eq_false_iff_ne]
  rcases h with h | ⟨rfl, h⟩
  ·exact ⟨fun k => UInt8.lt_irrefl a (UInt8.lt_trans h k), .inl (fun e => UInt8.lt_irrefl a (e ▸ h))⟩
  ·exact ⟨UInt8.lt_irrefl a, .inr (bl_asymm x y h)⟩
theorem bl_total : ∀ x y : List UInt8, Op.bytesLess x y = false → Op.bytesLess y x = false → x = y
 | [], [], _, _ => rfl
 | [], _ :: _, h, _ => by simp [Op.bytesLess] at h
 | _ :: _, [], _, h => by simp [Op.bytesLess] at h
 | a :: x, b :: y, h1, h2 => by
  simp only [Op.bytesLess, Bool.or_eq_false_iff, decide_eq_false_iff_not, Bool.and_eq_false_iff, beq_eq_false_iff_ne] at h1 h2
  have hab : a = b := UInt8.le_antisymm (UInt8.not_lt.1 h2.1) (UInt8.not_lt.1 h1.1)
  subst hab
  have e1 : Op.bytesLess x y = false := by simpa using h1.2
  have e2 : Op.bytesLess y x = false := by simpa using h2.2
  rw [bl_total x y e1 e2]
theorem cmpI_flip (x y : Int) : cmpI y x = - cmpI x y := by
 unfold cmpI
 by_cases h1 : x < y
 ·rw [if_neg (by omega), if_pos h1, if_pos h1]; rfl
 ·by_cases h2 : y < x
  ·rw [if_pos h2, if_neg h1, if_pos h2]
  ·rw [if_neg h2, if_neg h1, if_neg h1, if_neg h2]; rfl
theorem cmpS_flip (x y : ByteArray) : cmpS y x = - cmpS x y := by
 unfold cmpS
 by_cases h1 : Op.bytesLess x.toList y.toList = true
 ·have h2 := bl_asymm _ _ h1
  have h3 : ¬ (y.toList == x.toList) = true := fun e => by
   have e' : y.toList = x.toList := by simpa using e
   rw [e', bl_irrefl] at h1; cases h1
  rw [if_pos h1, if_neg (by rw [h2]; decide), if_neg h3]; rfl
 ·by_cases h2 : Op.bytesLess y.toList x.toList = true
  ·have h3 : ¬ (x.toList == y.toList) = true := fun e => by
    have e' : x.toList = y.toList := by simpa using e
    rw [e', bl_irrefl] at h2; cases h2
   rw [if_pos h2, if_neg h1, if_neg h3]
  ·have e := bl_total _ _ (by simpa using h1) (by simpa using h2)
   rw [if_neg h1, if_neg h2, e]; simp
theorem compareP_flip (a b : Val) : compareP b a = - compareP a b := by
 unfold compareP
 by_cases h1 : a.kind < b.kind
 ·rw [if_neg (by omega), if_pos h1, if_pos h1]; rfl
 ·by_cases h2 : b.kind < a.kind
  ·rw [if_pos h2, if_neg h1, if_pos h2]
  ·have e : a.kind = b.kind := by omega
   rw [if_neg h1, if_neg h2, if_neg h1, if_neg h2, e]
   by_cases k1 : b.kind = 1
   ·rw [if_pos k1, if_pos k1]; exact cmpI_flip _ _
   rw [if_neg k1, if_neg k1]
   by_cases k2 : b.kind = 2
   ·rw [if_pos k2, if_pos k2]; exact cmpS_flip _ _
   rw [if_neg k2, if_neg k2]
   by_cases k3 : b.kind = 3
   ·rw [if_pos k3, if_pos k3]
    cases a.bool <;> cases b.bool <;> rfl
   rw [if_neg k3, if_neg k3]; rfl
theorem bl_trans : ∀ x y z : List UInt8, Op.bytesLess x y = true → Op.bytesLess y z = true → Op.bytesLess x z = true
 | _, [], _, h, _ => by simp [Op.bytesLess] at h
 | _, _ :: _, [], _, h => by simp [Op.bytesLess] at h
 | [], _ :: _, _ :: _, _, _ => by simp [Op.bytesLess]
 | a :: x, b :: y, c :: z, h1, h2 => by
  simp only [Op.bytesLess, Bool.or_eq_true, decide_eq_true_eq, Bool.and_eq_true, beq_iff_eq] at h1 h2 ⊢
  rcases h1 with h1 | ⟨rfl, h1⟩
  ·rcases h2 with h2 | ⟨rfl, h2⟩
   ·exact .inl (UInt8.lt_trans h1 h2)
   ·exact .inl h1
  ·rcases h2 with h2 | ⟨rfl, h2⟩
   ·exact .inl h2
   ·exact .inr ⟨rfl, bl_trans x y z h1 h2⟩
theorem cmpI_le {x y : Int} : cmpI x y ≤ 0 ↔ x ≤ y := by
 unfold cmpI
 by_cases h1 : x < y
 ·rw [if_pos h1]; omega
 ·rw [if_neg h1]
  by_cases h2 : y < x
  ·rw [if_pos h2]; omega
  ·rw [if_neg h2]; omega
theorem cmpS_le {x y : ByteArray} : cmpS x y ≤ 0 ↔ Op.bytesLess y.toList x.toList = false := by
 unfold cmpS
 by_cases h1 : Op.bytesLess x.toList y.toList = true
 ·rw [if_pos h1]
  have := bl_asymm _ _ h1
  simp [this]
 ·rw [if_neg h1]
  by_cases h2 : (x.toList == y.toList) = true
  ·rw [if_pos h2]
   have e : x.toList = y.toList := by simpa using h2
   rw [e, bl_irrefl]; simp
  ·rw [if_neg h2]
   cases h3 : Op.bytesLess y.toList x.toList with
   | true => simp
   | false =>
    have := bl_total _ _ (by simpa using h1) h3
    rw [this] at h2
    simp at h2
/-- by their kinds first -/
theorem compareP_kind {a b : Val} (h : compareP a b ≤ 0) : a.kind ≤ b.kind := by
 unfold compareP at h
 by_cases h1 : a.kind < b.kind
 ·omega
 ·rw [if_neg h1] at h
  by_cases h2 : b.kind < a.kind
  ·rw [if_pos h2] at h; omega
  ·omega
theorem compareP_lt {a b : Val} (h : a.kind < b.kind) : compareP a b = -1 := by
 unfold compareP
 rw [if_pos h]
theorem compareP_same {a b : Val} (h : a.kind = b.kind) : compareP a b = if a.kind = 1 then cmpI a.int b.int else if a.kind = 2 then cmpS a.text b.text else if a.kind = 3 then (if a.bool = b.bool then 0 else if a.bool = true then 1 else -1) else 0 := by
 unfold compareP
 rw [if_neg (by omega), if_neg (by omega)]
theorem compareP_trans {a b c : Val} (h1 : compareP a b ≤ 0) (h2 : compareP b c ≤ 0) : compareP a c ≤ 0 := by
 have k1 := compareP_kind h1
 have k2 := compareP_kind h2
 by_cases e : a.kind < c.kind
 ·rw [compareP_lt e]; omega
 ·have e1 : a.kind = b.kind := by omega
  have e2 : b.kind = c.kind := by omega
  rw [compareP_same e1] at h1
  rw [compareP_same e2] at h2
  rw [compareP_same (e1.trans e2)]
  rw [e1] at h1 ⊢
  by_cases c1 : b.kind = 1
  ·rw [if_pos c1] at h1 h2 ⊢
   rw [cmpI_le] at h1 h2 ⊢; omega
  rw [if_neg c1] at h1 h2 ⊢
  by_cases c2 : b.kind = 2
  ·rw [if_pos c2] at h1 h2 ⊢
   rw [cmpS_le] at h1 h2 ⊢
   cases h3 : Op.bytesLess c.text.toList a.text.toList with
   | false => rfl
   | true =>
    exfalso
    cases h4 : Op.bytesLess b.text.toList c.text.toList with
    | true => have := bl_trans _ _ _ h4 h3; rw [this] at h1; cases h1
    | false =>
     have := bl_total _ _ h4 h2
     rw [this, h3] at h1
     cases h1
  rw [if_neg c2] at h1 h2 ⊢
  by_cases c3 : b.kind = 3
  ·rw [if_pos c3] at h1 h2 ⊢
   revert h1 h2
   cases a.bool <;> cases b.bool <;> cases c.bool <;> decide
  rw [if_neg c3]; exact Int.le_refl _

/-- a total preorder, by a comparison -/
structure TotP {κ : Type} (cmp : κ → κ → Int) : Prop where
 flip : ∀ a b, cmp b a = - cmp a b
 trans : ∀ a b c, cmp a b ≤ 0 → cmp b c ≤ 0 → cmp a c ≤ 0
theorem totV : TotP compareP := ⟨compareP_flip, fun _ _ _ => compareP_trans⟩
theorem TotP.refl {κ : Type} {cmp : κ → κ → Int} (T : TotP cmp) (a : κ) : cmp a a = 0 := by
 have := T.flip a a
 omega
/-- from a strict and another one, a strict one -/
theorem TotP.lt_le {κ : Type} {cmp : κ → κ → Int} (T : TotP cmp) {a b c : κ} (h1 : cmp a b < 0) (h2 : cmp b c ≤ 0) : cmp a c < 0 := by
 have h3 := T.trans a b c (by omega) h2
 rcases Int.lt_or_eq_of_le h3 with h | h
 ·exact h
 ·exfalso
  have h4 : cmp c a ≤ 0 := by rw [T.flip a c]; omega
  have h5 := T.trans b c a h2 h4
  rw [T.flip a b] at h5
  omega
theorem TotP.le_lt {κ : Type} {cmp : κ → κ → Int} (T : TotP cmp) {a b c : κ} (h1 : cmp a b ≤ 0) (h2 : cmp b c < 0) : cmp a c < 0 := by
 have h3 := T.trans a b c h1 (by omega)
 rcases Int.lt_or_eq_of_le h3 with h | h
 ·exact h
 ·exfalso
  have h4 : cmp c a ≤ 0 := by rw [T.flip a c]; omega
  have h5 := T.trans c a b h4 h1
  rw [T.flip b c] at h5
  omega
theorem keyCmp_flip : ∀ x y, keyCmp y x = - keyCmp x y
 | [], [] => rfl
 | [], _ :: _ => rfl
 | _ :: _, [] => rfl
 | a :: x, b :: y => by
  rw [keyCmp, keyCmp, compareP_flip a b, keyCmp_flip x y]
  by_cases h : compareP a b = 0
  ·rw [if_neg (by omega), if_neg (by omega)]
  ·rw [if_pos (by omega), if_pos (by omega)]
theorem keyCmp_trans : ∀ x y z, keyCmp x y ≤ 0 → keyCmp y z ≤ 0 → keyCmp x z ≤ 0
 | [], _, [], _, _ => by simp [keyCmp]
 | [], _, _ :: _, _, _ => by simp [keyCmp]
 | _ :: _, [], _, h, _ => by simp [keyCmp] at h
 | _ :: _, _ :: _, [], _, h => by simp [keyCmp] at h
 | a :: x, b :: y, c :: z, h1, h2 => by
  rw [keyCmp] at h1 h2 ⊢
  have l1 : compareP a b ≤ 0 := by
   by_cases h : compareP a b = 0
   ·omega
   ·rw [if_pos (by omega)] at h1; exact h1
  have l2 : compareP b c ≤ 0 := by
   by_cases h : compareP b c = 0
   ·omega
   ·rw [if_pos (by omega)] at h2; exact h2
  by_cases e1 : compareP a b = 0
  ·by_cases e2 : compareP b c = 0
   ·have e3 : compareP a c = 0 := by
     have p := compareP_trans l1 l2
     have q := compareP_trans (a := c) (b := b) (c := a) (by rw [compareP_flip b c]; omega) (by rw [compareP_flip a b]; omega)
     rw [compareP_flip a c] at q
     omega
    rw [if_neg (by omega)] at h1 h2 ⊢
    exact keyCmp_trans x y z h1 h2
   ·have := totV.le_lt l1 (by omega : compareP b c < 0)
    rw [if_pos (by omega)]; omega
  ·have := totV.lt_le (by omega : compareP a b < 0) l2
   rw [if_pos (by omega)]; omega
theorem totK : TotP keyCmp := ⟨keyCmp_flip, keyCmp_trans⟩

end Go.Proofs.YtbcmmecilheicaaGreatDoor

/- Groups: places of rows with the same key stand together, in order. Plain facts, no program in sight. -/
namespace Go.Proofs.YtbcmmecilheicaaGreatDoor

section
variable {κ : Type} (cmp : κ → κ → Int) (key : Nat → κ)

/-- groups whose keys are less than the row's -/
def lowG (i : Nat) (g : List Nat) : Bool := decide (cmp (key (g.headD 0)) (key i) < 0)
/-- one row more, as the document lays it in -/
def refStep (out : List (List Nat)) (i : Nat) : List (List Nat) :=
 match out.dropWhile (lowG cmp key i) with
 | [] => out.takeWhile (lowG cmp key i) ++ [[i]]
 | g :: r => if cmp (key (g.headD 0)) (key i) = 0 then out.takeWhile (lowG cmp key i) ++ (g ++ [i]) :: r else out.takeWhile (lowG cmp key i) ++ [i] :: g :: r
def refGroups : Nat → List (List Nat)
 | 0 => []
 | n + 1 => refStep cmp key (refGroups n) n

/-- what groups are -/
structure GInv (n : Nat) (out : List (List Nat)) : Prop where
 ne : ∀ g ∈ out, g ≠ []
 same : ∀ g ∈ out, ∀ x ∈ g, ∀ y ∈ g, cmp (key x) (key y) = 0
 asc : ∀ g ∈ out, g.Pairwise (· < ·)
 ord : out.Pairwise fun g h => ∀ x ∈ g, ∀ y ∈ h, cmp (key x) (key y) < 0
 mem : ∀ j, j ∈ out.flatten ↔ j < n
end

section
variable {κ : Type} {cmp : κ → κ → Int} {key : Nat → κ}
theorem GInv.zero : GInv cmp key 0 [] := ⟨fun g h => (by cases h), fun g h => (by cases h), fun g h => (by cases h), .nil, fun j => by simp⟩
theorem head_mem {g : List Nat} (h : g ≠ []) : g.headD 0 ∈ g := by
 cases g with
 | nil => exact absurd rfl h
 | cons a g => simp
theorem GInv.step (T : TotP cmp) {n : Nat} {out : List (List Nat)} (h : GInv cmp key n out) : GInv cmp key (n + 1) (refStep cmp key out n) := by
 obtain ⟨A, hA⟩ : ∃ A, A = out.takeWhile (lowG cmp key n) := ⟨_, rfl⟩
 obtain ⟨D, hD⟩ : ∃ D, D = out.dropWhile (lowG cmp key n) := ⟨_, rfl⟩
 have hAD : A ++ D = out := by rw [hA, hD]; exact List.takeWhile_append_dropWhile
 have lowA : ∀ g ∈ A, ∀ x ∈ g, cmp (key x) (key n) < 0 := fun g hg x hx => by
  have hm : g ∈ out := by rw [← hAD]; exact List.mem_append_left _ hg
  have hl : lowG cmp key n g = true := by
   rw [hA] at hg
   exact List.all_eq_true.1 List.all_takeWhile g hg
  have hl2 : cmp (key (g.headD 0)) (key n) < 0 := by simpa [lowG] using hl
  have hs := h.same g hm x hx _ (head_mem (h.ne g hm))
  exact T.le_lt (by omega) hl2
 have hlt : ∀ g ∈ out, ∀ x ∈ g, x < n := fun g hg x hx => (h.mem x).1 (List.mem_flatten.2 ⟨g, hg, hx⟩)
 rw [← hAD] at h
 obtain ⟨ne, same, asc, ord, mem⟩ := h
 rw [List.pairwise_append] at ord
 obtain ⟨o1, o2, o3⟩ := ord
 unfold refStep
 rw [← hA, ← hD]
 cases hDc : D with
 | nil =>
  rw [hDc] at ne same asc mem o3
  simp only [List.append_nil] at ne same asc mem
  refine ⟨fun g hg => ?_, fun g hg x hx y hy => ?_, fun g hg => ?_, ?_, fun j => ?_⟩
  ·rcases List.mem_append.1 hg with hg | hg
   ·exact ne g hg
   ·simp at hg; rw [hg]; simp
  ·rcases List.mem_append.1 hg with hg | hg
   ·exact same g hg x hx y hy
   ·simp at hg; subst hg; simp at hx hy; subst hx hy; exact T.refl _
  ·rcases List.mem_append.1 hg with hg | hg
   ·exact asc g hg
   ·simp at hg; subst hg; simp
  ·rw [List.pairwise_append]
   refine ⟨o1, by simp, fun g hg k hk x hx y hy => ?_⟩
   simp at hk; subst hk; simp at hy; subst hy
   exact lowA g hg x hx
  ·rw [List.flatten_append, List.mem_append, mem j]
   simp; omega
 | cons g r =>
  rw [hDc] at ne same asc mem o2 o3
  have hgm : g ∈ out := by rw [← hAD, hDc]; simp
  have hg0 : ¬ cmp (key (g.headD 0)) (key n) < 0 := by
   have hx : out.dropWhile (lowG cmp key n) = g :: r := by rw [← hD, hDc]
   have := List.head_dropWhile_not (p := lowG cmp key n) (l := out) (by rw [hx]; simp)
   simp only [hx, List.head_cons] at this
   simpa [lowG] using this
  have hgne : g ≠ [] := ne g (by simp)
  have sameg : ∀ x ∈ g, cmp (key x) (key (g.headD 0)) = 0 := fun x hx => same g (by simp) x hx _ (head_mem hgne)
  rw [List.pairwise_cons] at o2
  simp only
  by_cases he : cmp (key (g.headD 0)) (key n) = 0
  ·rw [if_pos he]
   have eqn : ∀ x ∈ g, cmp (key x) (key n) = 0 := fun x hx => by
    have s1 := sameg x hx
    have a := T.trans (key x) (key (g.headD 0)) (key n) (by omega) (by omega)
    have b := T.trans (key n) (key (g.headD 0)) (key x) (by rw [T.flip (key (g.headD 0)) (key n)]; omega) (by rw [T.flip (key x)]; omega)
    rw [T.flip (key x) (key n)] at b
    omega
   refine ⟨fun k hk => ?_, fun k hk x hx y hy => ?_, fun k hk => ?_, ?_, fun j => ?_⟩
   ·rcases List.mem_append.1 hk with hk | hk
    ·exact ne k (List.mem_append_left _ hk)
    ·rcases List.mem_cons.1 hk with rfl | hk
     ·simp
     ·exact ne k (List.mem_append_right _ (List.mem_cons_of_mem _ hk))
   ·rcases List.mem_append.1 hk with hk | hk
    ·exact same k (List.mem_append_left _ hk) x hx y hy
    ·rcases List.mem_cons.1 hk with rfl | hk
     ·rcases List.mem_append.1 hx with hx1 | hx1 <;> rcases List.mem_append.1 hy with hy1 | hy1
      ·exact same g (by simp) x hx1 y hy1
      ·obtain rfl : y = n := by simpa using hy1
       exact eqn x hx1
      ·obtain rfl : x = n := by simpa using hx1
       rw [T.flip (key y), eqn y hy1]; rfl
      ·obtain rfl : x = n := by simpa using hx1
       obtain rfl : y = x := by simpa using hy1
       exact T.refl _
     ·exact same k (List.mem_append_right _ (List.mem_cons_of_mem _ hk)) x hx y hy
   ·rcases List.mem_append.1 hk with hk | hk
    ·exact asc k (List.mem_append_left _ hk)
    ·rcases List.mem_cons.1 hk with rfl | hk
     ·rw [List.pairwise_append]
      refine ⟨asc g (by simp), by simp, fun x hx y hy => ?_⟩
      simp at hy; subst hy; exact hlt g hgm x hx
     ·exact asc k (List.mem_append_right _ (List.mem_cons_of_mem _ hk))
   ·rw [List.pairwise_append, List.pairwise_cons]
    refine ⟨o1, ⟨fun k hk x hx y hy => ?_, o2.2⟩, fun k hk l hl x hx y hy => ?_⟩
    ·rcases List.mem_append.1 hx with hx | hx
     ·exact o2.1 k hk x hx y hy
     ·simp at hx; subst hx
      have := o2.1 k hk _ (head_mem hgne) y hy
      exact T.le_lt (by rw [T.flip (key (g.headD 0)) (key x)]; omega) this
    ·rcases List.mem_cons.1 hl with rfl | hl
     ·rcases List.mem_append.1 hy with hy | hy
      ·exact o3 k hk g (by simp) x hx y hy
      ·simp at hy; subst hy; exact lowA k hk x hx
     ·exact o3 k hk l (by simp [hl]) x hx y hy
   ·have e : j ∈ (A ++ (g ++ [n]) :: r).flatten ↔ j ∈ (A ++ g :: r).flatten ∨ j = n := by
     simp only [List.flatten_append, List.flatten_cons, List.mem_append, List.mem_cons, List.not_mem_nil, or_false]
     constructor
     ·rintro (h | (h | h) | h)
      ·exact .inl (.inl h)
      ·exact .inl (.inr (.inl h))
      ·exact .inr h
      ·exact .inl (.inr (.inr h))
     ·rintro ((h | h | h) | h)
      ·exact .inl h
      ·exact .inr (.inl (.inl h))
      ·exact .inr (.inr h)
      ·exact .inr (.inl (.inr h))
    rw [e, mem j]; omega
  ·rw [if_neg he]
   have hgt : ∀ x ∈ g, cmp (key n) (key x) < 0 := fun x hx => by
    have s1 := sameg x hx
    exact T.lt_le (b := key (g.headD 0)) (by rw [T.flip (key (g.headD 0)) (key n)]; omega) (by rw [T.flip (key x)]; omega)
   refine ⟨fun k hk => ?_, fun k hk x hx y hy => ?_, fun k hk => ?_, ?_, fun j => ?_⟩
   ·rcases List.mem_append.1 hk with hk | hk
    ·exact ne k (List.mem_append_left _ hk)
    ·rcases List.mem_cons.1 hk with rfl | hk
     ·simp
     ·exact ne k (List.mem_append_right _ hk)
   ·rcases List.mem_append.1 hk with hk | hk
    ·exact same k (List.mem_append_left _ hk) x hx y hy
    ·rcases List.mem_cons.1 hk with rfl | hk
     ·simp at hx hy; subst hx hy; exact T.refl _
     ·exact same k (List.mem_append_right _ hk) x hx y hy
   ·rcases List.mem_append.1 hk with hk | hk
    ·exact asc k (List.mem_append_left _ hk)
    ·rcases List.mem_cons.1 hk with rfl | hk
     ·simp
     ·exact asc k (List.mem_append_right _ hk)
   ·rw [List.pairwise_append, List.pairwise_cons, List.pairwise_cons]
    refine ⟨o1, ⟨fun k hk x hx y hy => ?_, o2⟩, fun k hk l hl x hx y hy => ?_⟩
    ·simp at hx; subst hx
     rcases List.mem_cons.1 hk with rfl | hk
     ·exact hgt y hy
     ·have a := o2.1 k hk _ (head_mem hgne) y hy
      exact T.lt_le (hgt _ (head_mem hgne)) (by omega)
    ·rcases List.mem_cons.1 hl with rfl | hl
     ·simp at hy; subst hy; exact lowA k hk x hx
     ·exact o3 k hk l hl x hx y hy
   ·have e : j ∈ (A ++ [n] :: g :: r).flatten ↔ j ∈ (A ++ g :: r).flatten ∨ j = n := by
     simp only [List.flatten_append, List.flatten_cons, List.mem_append, List.mem_cons, List.not_mem_nil, or_false]
     constructor
     ·rintro (h | h | h)
      ·exact .inl (.inl h)
      ·exact .inr h
      ·exact .inl (.inr h)
     ·rintro ((h | h) | h)
      ·exact .inl h
      ·exact .inr (.inr h)
      ·exact .inr (.inl h)
    rw [e, mem j]; omega
theorem ginv_ref (T : TotP cmp) : ∀ n, GInv cmp key n (refGroups cmp key n)
 | 0 => GInv.zero
 | n + 1 => (ginv_ref T n).step T

/-- by key, then by place -/
def lexR (cmp : κ → κ → Int) (key : Nat → κ) (x y : Nat) : Prop := cmp (key x) (key y) < 0 ∨ (cmp (key x) (key y) = 0 ∧ x < y)
theorem GInv.lex {n : Nat} {out : List (List Nat)} (h : GInv cmp key n out) : out.flatten.Pairwise (lexR cmp key) := by
 rw [List.pairwise_flatten]
 refine ⟨fun g hg => ?_, h.ord.imp fun {g k} hgk x hx y hy => .inl (hgk x hx y hy)⟩
 exact (h.asc g hg).imp_of_mem fun {x y} hx hy hxy => .inr ⟨h.same g hg x hx y hy, hxy⟩
theorem lex_ne (T : TotP cmp) {x y : Nat} (h : lexR cmp key x y) : x ≠ y := by
 rintro rfl
 rcases h with h | ⟨-, h⟩
 ·rw [T.refl] at h; omega
 ·omega
theorem GInv.nodup (T : TotP cmp) {n : Nat} {out : List (List Nat)} (h : GInv cmp key n out) : out.flatten.Nodup := h.lex.imp fun {_ _} hxy => lex_ne T hxy
theorem GInv.perm (T : TotP cmp) {n : Nat} {out : List (List Nat)} (h : GInv cmp key n out) : out.flatten.Perm (List.range n) :=
 (List.perm_ext_iff_of_nodup (h.nodup T) List.nodup_range).2 fun j => by rw [h.mem, List.mem_range]
theorem GInv.length (T : TotP cmp) {n : Nat} {out : List (List Nat)} (h : GInv cmp key n out) : out.flatten.length = n := by
 rw [(h.perm T).length_eq, List.length_range]

/-! ### groups out of an ordered row -/
/-- one place more, at the end -/
def pushG (cmp : κ → κ → Int) (key : Nat → κ) (acc : List (List Nat)) (j : Nat) : List (List Nat) :=
 match acc.getLast? with
 | none => [[j]]
 | some g => if cmp (key (g.getLastD 0)) (key j) = 0 then acc.dropLast ++ [g ++ [j]] else acc ++ [[j]]
def grpF (cmp : κ → κ → Int) (key : Nat → κ) (l : List Nat) : List (List Nat) := l.foldl (pushG cmp key) []
theorem grpF_snoc (l : List Nat) (j : Nat) : grpF cmp key (l ++ [j]) = pushG cmp key (grpF cmp key l) j := by simp [grpF]
theorem push_same (acc : List (List Nat)) : ∀ (g0 g : List Nat), g0 ≠ [] → (∀ x ∈ g0 ++ g, ∀ y ∈ g0 ++ g, cmp (key x) (key y) = 0) → g.foldl (pushG cmp key) (acc ++ [g0]) = acc ++ [g0 ++ g]
 | g0, [], _, _ => by simp
 | g0, j :: g, hne, h => by
  rw [List.foldl_cons]
  have e : pushG cmp key (acc ++ [g0]) j = acc ++ [g0 ++ [j]] := by
   unfold pushG
   rw [List.getLast?_append, List.getLast?_singleton]
   simp only [Option.some_or]
   rw [if_pos (h _ (List.mem_append_left _ (by
    rw [List.getLastD_eq_getLast?, List.getLast?_eq_some_getLast hne]; exact List.getLast_mem hne)) _ (by simp)), List.dropLast_concat]
  rw [e, push_same acc (g0 ++ [j]) g (by simp) (by simpa using h)]
  simp
theorem push_all (T : TotP cmp) : ∀ (out acc : List (List Nat)), (∀ g ∈ out, g ≠ []) → (∀ g ∈ acc, g ≠ []) → (∀ g ∈ out, ∀ x ∈ g, ∀ y ∈ g, cmp (key x) (key y) = 0) → (out.Pairwise fun g h => ∀ x ∈ g, ∀ y ∈ h, cmp (key x) (key y) < 0) → (∀ g ∈ acc, ∀ h ∈ out, ∀ x ∈ g, ∀ y ∈ h, cmp (key x) (key y) < 0) → out.flatten.foldl (pushG cmp key) acc = acc ++ out
 | [], acc, _, _, _, _, _ => by simp
 | g :: out, acc, hne, hna, hs, ho, ha => by
  obtain ⟨j, g', rfl⟩ : ∃ j g', g = j :: g' := by
   cases g with
   | nil => exact absurd rfl (hne [] (by simp))
   | cons j g' => exact ⟨j, g', rfl⟩
  rw [List.flatten_cons, List.foldl_append, List.foldl_cons]
  have e : pushG cmp key acc j = acc ++ [[j]] := by
   unfold pushG
   cases hl : acc.getLast? with
   | none =>
    have : acc = [] := List.getLast?_eq_none_iff.1 hl
    subst this; rfl
   | some h =>
    have hm : h ∈ acc := List.mem_of_getLast? hl
    have hx := hna h hm
    have : h.getLastD 0 ∈ h := by rw [List.getLastD_eq_getLast?, List.getLast?_eq_some_getLast hx]; exact List.getLast_mem hx
    have := ha h hm (j :: g') (by simp) _ this j (by simp)
    simp only
    rw [if_neg (by omega)]
  rw [e, push_same acc [j] g' (by simp) (by simpa using hs (j :: g') (by simp))]
  rw [List.pairwise_cons] at ho
  rw [push_all T out (acc ++ [[j] ++ g']) (fun g hg => hne g (by simp [hg])) (fun g hg => by
   rcases List.mem_append.1 hg with hg | hg
   ·exact hna g hg
   ·simp at hg; rw [hg]; simp) (fun g hg => hs g (by simp [hg])) ho.2 (fun g hg h hh => by
   rcases List.mem_append.1 hg with hg | hg
   ·exact ha g hg h (by simp [hh])
   ·simp at hg; subst hg; exact ho.1 h hh)]
  simp
theorem GInv.grp (T : TotP cmp) {n : Nat} {out : List (List Nat)} (h : GInv cmp key n out) : grpF cmp key out.flatten = out := by
 unfold grpF
 rw [push_all T out [] h.ne (fun g hg => (by cases hg)) h.same h.ord (fun g hg => (by cases hg))]
 simp
/-- the last place of the groups so far -/
theorem grpF_last : ∀ (l : List Nat) (g : List Nat), (grpF cmp key l).getLast? = some g → g ≠ [] ∧ l.getLast? = some (g.getLastD 0) := by
 intro l
 rcases List.eq_nil_or_concat l with rfl | ⟨l, j, rfl⟩
 ·intro g h; simp [grpF] at h
 ·rw [List.concat_eq_append]
  intro g h
  rw [grpF_snoc] at h
  rw [List.getLast?_append, List.getLast?_singleton]
  simp only [Option.some_or]
  unfold pushG at h
  cases hl : (grpF cmp key l).getLast? with
  | none =>
   rw [hl] at h
   simp at h
   subst h
   exact ⟨by simp, by simp⟩
  | some k =>
   rw [hl] at h
   simp only at h
   by_cases c : cmp (key (k.getLastD 0)) (key j) = 0
   ·rw [if_pos c, List.getLast?_append, List.getLast?_singleton] at h
    simp at h
    subst h
    exact ⟨by simp, by simp⟩
   ·rw [if_neg c, List.getLast?_append, List.getLast?_singleton] at h
    simp at h
    subst h
    exact ⟨by simp, by simp⟩
theorem grpF_nil_iff (l : List Nat) : grpF cmp key l = [] ↔ l = [] := by
 rcases List.eq_nil_or_concat l with rfl | ⟨l, j, rfl⟩
 ·simp [grpF]
 ·rw [List.concat_eq_append, grpF_snoc]
  unfold pushG
  cases (grpF cmp key l).getLast? with
  | none => simp
  | some g => simp only; split <;> simp
theorem push_len (acc : List (List Nat)) (j : Nat) : (pushG cmp key acc j).length ≤ acc.length + 1 := by
 unfold pushG
 cases acc.getLast? with
 | none => simp
 | some g => simp only; split <;> simp <;> omega
theorem grpF_len (l : List Nat) : (grpF cmp key l).length ≤ l.length := by
 have k : ∀ (l : List Nat) (acc : List (List Nat)), (l.foldl (pushG cmp key) acc).length ≤ acc.length + l.length := by
  intro l
  induction l with
  | nil => intro acc; simp
  | cons j l ih =>
   intro acc
   have a := ih (pushG cmp key acc j)
   have b := push_len (cmp := cmp) (key := key) acc j
   simp only [List.foldl_cons, List.length_cons]
   omega
 have := k l []
 simpa [grpF] using this
theorem grpF_le (cmp : κ → κ → Int) (key : Nat → κ) (l : List Nat) {n : Nat} (h : l.length ≤ n) : (grpF cmp key l).length ≤ n := Nat.le_trans (grpF_len l) h
theorem last_split {α : Type} {l : List α} {g : α} (h : l.getLast? = some g) : l = l.dropLast ++ [g] := by
 rcases List.eq_nil_or_concat l with rfl | ⟨l', x, rfl⟩
 ·simp at h
 ·rw [List.concat_eq_append] at h ⊢
  rw [List.getLast?_append, List.getLast?_singleton] at h
  simp at h
  subst h
  simp
theorem push_flat (acc : List (List Nat)) (j : Nat) : (pushG cmp key acc j).flatten = acc.flatten ++ [j] := by
 unfold pushG
 cases h : acc.getLast? with
 | none =>
  obtain rfl : acc = [] := List.getLast?_eq_none_iff.1 h
  rfl
 | some g =>
  simp only
  by_cases c : cmp (key (g.getLastD 0)) (key j) = 0
  ·rw [if_pos c]
   conv => rhs; rw [last_split h]
   simp
  ·rw [if_neg c]; simp
theorem grpF_flat (l : List Nat) : (grpF cmp key l).flatten = l := by
 have k : ∀ (l : List Nat) (acc : List (List Nat)), (l.foldl (pushG cmp key) acc).flatten = acc.flatten ++ l := by
  intro l
  induction l with
  | nil => intro acc; simp
  | cons j l ih => intro acc; rw [List.foldl_cons, ih, push_flat]; simp
 simpa [grpF] using k l []
theorem grpF_last_len {l : List Nat} {g : List Nat} (h : (grpF cmp key l).getLast? = some g) : g.length ≤ l.length := by
 have e := last_split h
 have f := grpF_flat (cmp := cmp) (key := key) l
 rw [e] at f
 rw [← f]
 simp
/-- what one place more does -/
theorem grpF_next {L : List Nat} {q j : Nat} (hj : L[q + 1]? = some j) {p : Nat} (hp : L[q]? = some p) :
  ∃ D g, grpF cmp key (L.take (q + 1)) = D ++ [g] ∧ g.length ≤ q + 1 ∧ (cmp (key p) (key j) = 0 → grpF cmp key (L.take (q + 2)) = D ++ [g ++ [j]]) ∧ (cmp (key p) (key j) ≠ 0 → grpF cmp key (L.take (q + 2)) = D ++ [g] ++ [[] ++ [j]]) := by
 have hl : (L.take (q + 1)).getLast? = some p := by
  rw [List.take_add_one, hp]
  simp
 cases hg : (grpF cmp key (L.take (q + 1))).getLast? with
 | none =>
  have := (grpF_nil_iff (cmp := cmp) (key := key) _).1 (List.getLast?_eq_none_iff.1 hg)
  rw [this] at hl
  simp at hl
 | some g =>
  obtain ⟨g1, g2⟩ := grpF_last _ _ hg
  rw [hl] at g2
  injection g2 with g2
  have e := last_split hg
  have e2 : grpF cmp key (L.take (q + 2)) = pushG cmp key (grpF cmp key (L.take (q + 1))) j := by
   rw [List.take_add_one (i := q + 1), hj]
   show grpF _ _ (L.take (q + 1) ++ [j]) = _
   rw [grpF_snoc]
  refine ⟨_, g, e, Nat.le_trans (grpF_last_len hg) (by rw [List.length_take]; exact Nat.min_le_left _ _), fun c => ?_, fun c => ?_⟩
  ·rw [e2]; unfold pushG; rw [hg]; simp only; rw [← g2, if_pos c]
  ·rw [e2]; unfold pushG; rw [hg]; simp only; rw [← g2, if_neg c, ← e]; rfl
end

end Go.Proofs.YtbcmmecilheicaaGreatDoor
