/- Plain facts about ordered keys, lists of pairs in order, and the shape of the tree: no program in sight. -/
import Derived.Laws.Strings
namespace Go.Proofs.Ytcidmaeclonilaa
open Go

/-! ### the order of keys -/
def klt (a b : ByteArray) : Bool := Op.bytesLess a.toList b.toList

theorem bl_irrefl : ∀ x : List UInt8, Op.bytesLess x x = false
  | [] => rfl
  | a :: x => by simp [Op.bytesLess, bl_irrefl x]

theorem bl_trans : ∀ x y z : List UInt8, Op.bytesLess x y = true → Op.bytesLess y z = true → Op.bytesLess x z = true
  | _, [], _, h, _ => by simp [Op.bytesLess] at h
  | _, _ :: _, [], _, h => by simp [Op.bytesLess] at h
  | [], _ :: _, _ :: _, _, _ => by simp [Op.bytesLess]
  | a :: x, b :: y, c :: z, h1, h2 => by
    simp only [Op.bytesLess, Bool.or_eq_true, decide_eq_true_eq, Bool.and_eq_true, beq_iff_eq] at h1 h2 ⊢
    rcases h1 with h1 | ⟨rfl, h1⟩
    · rcases h2 with h2 | ⟨rfl, h2⟩
      · exact .inl (UInt8.lt_trans h1 h2)
      · exact .inl h1
    · rcases h2 with h2 | ⟨rfl, h2⟩
      · exact .inl h2
      · exact .inr ⟨rfl, bl_trans x y z h1 h2⟩

theorem bl_total : ∀ x y : List UInt8, Op.bytesLess x y = false → Op.bytesLess y x = false → x = y
  | [], [], _, _ => rfl
  | [], _ :: _, h, _ => by simp [Op.bytesLess] at h
  | _ :: _, [], _, h => by simp [Op.bytesLess] at h
  | a :: x, b :: y, h1, h2 => by
    simp only [Op.bytesLess, Bool.or_eq_false_iff, decide_eq_false_iff_not, Bool.and_eq_false_iff, beq_eq_false_iff_ne] at h1 h2
    have hab : a = b := UInt8.le_antisymm (UInt8.not_lt.1 h2.1) (UInt8.not_lt.1 h1.1)
    subst hab
    have e1 : Op.bytesLess x y = false := by simpa using h1.2
    have e2 : Op.bytesLess y x = false := by simpa using h2.2
    rw [bl_total x y e1 e2]

theorem bytes_inj {a b : ByteArray} (h : a.toList = b.toList) : a = b := by
  rw [ByteArray.toList_eq, ByteArray.toList_eq] at h
  cases a; cases b
  simpa [Array.toList_inj] using h

theorem klt_irrefl (a : ByteArray) : klt a a = false := bl_irrefl _
theorem klt_trans {a b c : ByteArray} (h : klt a b = true) (k : klt b c = true) : klt a c = true := bl_trans _ _ _ h k
theorem klt_total {a b : ByteArray} (h : klt a b = false) (k : klt b a = false) : a = b := bytes_inj (bl_total _ _ h k)
theorem klt_asymm {a b : ByteArray} (h : klt a b = true) : klt b a = false := by
  cases e : klt b a
  · rfl
  · have := klt_trans h e; rw [klt_irrefl] at this; cases this
theorem klt_ne {a b : ByteArray} (h : klt a b = true) : a ≠ b := by
  rintro rfl; rw [klt_irrefl] at h; cases h
theorem klt_ne' {a b : ByteArray} (h : klt a b = true) : b ≠ a := fun e => klt_ne h e.symm
theorem klt_tri (a b : ByteArray) : klt a b = true ∨ a = b ∨ klt b a = true := by
  cases h : klt a b
  · cases k : klt b a
    · exact .inr (.inl (klt_total h k))
    · exact .inr (.inr rfl)
  · exact .inl rfl
theorem eq_iff_toList {a b : ByteArray} : a.toList = b.toList ↔ a = b := ⟨bytes_inj, fun h => h ▸ rfl⟩
theorem beq_toList (a b : ByteArray) : (a.toList == b.toList) = decide (a = b) := by
  rw [Bool.eq_iff_iff]; simp [eq_iff_toList]

/-! ### lists of pairs in order -/
abbrev KV := ByteArray × Value

def Srt (l : List KV) : Prop := l.Pairwise fun p q => klt p.1 q.1 = true

theorem Srt.append_iff {a b : List KV} : Srt (a ++ b) ↔ Srt a ∧ Srt b ∧ ∀ p ∈ a, ∀ q ∈ b, klt p.1 q.1 = true := List.pairwise_append

/-- all keys of l lie below k -/
def AllLt (l : List KV) (k : ByteArray) : Prop := ∀ p ∈ l, klt p.1 k = true
/-- all keys of l lie above k -/
def AllGt (l : List KV) (k : ByteArray) : Prop := ∀ p ∈ l, klt k p.1 = true

def ins (k : ByteArray) (v : Value) (l : List KV) : List KV := l.filter (fun p => klt p.1 k) ++ (k, v) :: l.filter (fun p => klt k p.1)
def del (k : ByteArray) (l : List KV) : List KV := l.filter (fun p => decide (p.1 ≠ k))
def look (k : ByteArray) (l : List KV) : Option Value := (l.find? (fun p => decide (p.1 = k))).map (·.2)
/-- does p lie from k on (behind: above k)? -/
def fromB (k : ByteArray) (behind : Bool) (p : KV) : Bool := klt k p.1 || (decide (p.1 = k) && !behind)
def toB (k : ByteArray) (ahead : Bool) (p : KV) : Bool := klt p.1 k || (decide (p.1 = k) && !ahead)
def fromL (k : ByteArray) (behind : Bool) (l : List KV) : Option KV := l.find? (fromB k behind)
def toLst (k : ByteArray) (ahead : Bool) (l : List KV) : Option KV := l.reverse.find? (toB k ahead)

theorem filter_lt_of_lt {l : List KV} {k} (h : AllLt l k) : l.filter (fun p => klt p.1 k) = l := List.filter_eq_self.2 fun p hp => h p hp
theorem filter_gt_of_lt {l : List KV} {k} (h : AllLt l k) : l.filter (fun p => klt k p.1) = [] := List.filter_eq_nil_iff.2 fun p hp => by simp [klt_asymm (h p hp)]
theorem filter_gt_of_gt {l : List KV} {k} (h : AllGt l k) : l.filter (fun p => klt k p.1) = l := List.filter_eq_self.2 fun p hp => h p hp
theorem filter_lt_of_gt {l : List KV} {k} (h : AllGt l k) : l.filter (fun p => klt p.1 k) = [] := List.filter_eq_nil_iff.2 fun p hp => by simp [klt_asymm (h p hp)]

theorem ins_mid {k v} {A M B : List KV} (hA : AllLt A k) (hB : AllGt B k) : ins k v (A ++ M ++ B) = A ++ ins k v M ++ B := by
  simp [ins, List.filter_append, filter_lt_of_lt hA, filter_gt_of_lt hA, filter_gt_of_gt hB, filter_lt_of_gt hB]
theorem ins_here {k v u} {A B : List KV} (hA : AllLt A k) (hB : AllGt B k) : ins k v (A ++ (k, u) :: B) = A ++ (k, v) :: B := by
  simp [ins, List.filter_append, filter_lt_of_lt hA, filter_gt_of_lt hA, filter_gt_of_gt hB, filter_lt_of_gt hB, klt_irrefl]
theorem ins_new {k v} {A B : List KV} (hA : AllLt A k) (hB : AllGt B k) : ins k v (A ++ B) = A ++ (k, v) :: B := by
  simp [ins, List.filter_append, filter_lt_of_lt hA, filter_gt_of_lt hA, filter_gt_of_gt hB, filter_lt_of_gt hB]

theorem del_lt {k} {A : List KV} (hA : AllLt A k) : del k A = A := List.filter_eq_self.2 fun p hp => by simp [klt_ne (hA p hp)]
theorem del_gt {k} {A : List KV} (hA : AllGt A k) : del k A = A := List.filter_eq_self.2 fun p hp => by simp [klt_ne' (hA p hp)]
theorem del_append {k} {A B : List KV} : del k (A ++ B) = del k A ++ del k B := List.filter_append ..
theorem del_mid {k} {A M B : List KV} (hA : AllLt A k) (hB : AllGt B k) : del k (A ++ M ++ B) = A ++ del k M ++ B := by
  rw [del_append, del_append, del_lt hA, del_gt hB]
theorem del_here {k u} {A B : List KV} (hA : AllLt A k) (hB : AllGt B k) : del k (A ++ (k, u) :: B) = A ++ B := by
  have : del k ((k, u) :: B) = del k B := by simp [del]
  rw [del_append, del_lt hA, this, del_gt hB]

theorem look_append {k} {A B : List KV} : look k (A ++ B) = (look k A).or (look k B) := by
  simp only [look, List.find?_append]
  cases List.find? _ A <;> simp
theorem look_lt {k} {A : List KV} (hA : AllLt A k) : look k A = none := by
  simp only [look, Option.map_eq_none_iff, List.find?_eq_none]
  intro p hp; simp [klt_ne (hA p hp)]
theorem look_gt {k} {A : List KV} (hA : AllGt A k) : look k A = none := by
  simp only [look, Option.map_eq_none_iff, List.find?_eq_none]
  intro p hp; simp [klt_ne' (hA p hp)]
theorem look_mid {k} {A M B : List KV} (hA : AllLt A k) (hB : AllGt B k) : look k (A ++ M ++ B) = look k M := by
  rw [look_append, look_append, look_lt hA, look_gt hB]; simp
theorem look_here {k u} {A B : List KV} (hA : AllLt A k) : look k (A ++ (k, u) :: B) = some u := by
  rw [look_append, look_lt hA]; simp [look]

theorem Srt.ins {k v} {l : List KV} (h : Srt l) : Srt (ins k v l) := by
  unfold Ytcidmaeclonilaa.ins
  refine Srt.append_iff.2 ⟨h.sublist List.filter_sublist, List.pairwise_cons.2 ⟨fun q hq => (by simpa using (List.mem_filter.1 hq).2), h.sublist List.filter_sublist⟩, fun p hp q hq => ?_⟩
  have hpk : klt p.1 k = true := by simpa using (List.mem_filter.1 hp).2
  rcases List.mem_cons.1 hq with rfl | hq
  · exact hpk
  · exact klt_trans hpk (by simpa using (List.mem_filter.1 hq).2)
theorem Srt.del {k} {l : List KV} (h : Srt l) : Srt (del k l) := h.sublist List.filter_sublist

/-! ### weaving: what lies in children, with a pair between two and two -/
section weave
variable {α : Type}
def wl : List (List α) → List α → List α
  | a :: A, x :: X => a ++ x :: wl A X
  | _, _ => []
def wr : List α → List (List α) → List α
  | x :: X, a :: A => x :: (a ++ wr X A)
  | _, _ => []
def weave : List (List α) → List α → List α
  | [], X => X
  | a :: A, X => a ++ wr X A

theorem wl_append {A B : List (List α)} {X Y : List α} (h : A.length = X.length) : wl (A ++ B) (X ++ Y) = wl A X ++ wl B Y := by
  induction A generalizing X with
  | nil => cases X with
    | nil => simp [wl]
    | cons => simp at h
  | cons a A ih => cases X with
    | nil => simp at h
    | cons x X => simp only [List.cons_append, wl]; rw [ih (by simpa using h)]; simp
theorem wr_append {A B : List (List α)} {X Y : List α} (h : A.length = X.length) : wr (X ++ Y) (A ++ B) = wr X A ++ wr Y B := by
  induction A generalizing X with
  | nil => cases X with
    | nil => simp [wr]
    | cons => simp at h
  | cons a A ih => cases X with
    | nil => simp at h
    | cons x X => simp only [List.cons_append, wr]; rw [ih (by simpa using h)]; simp
theorem weave_split {P Q : List (List α)} {c : List α} {Y Z : List α} (h : P.length = Y.length) : weave (P ++ c :: Q) (Y ++ Z) = wl P Y ++ c ++ wr Z Q := by
  induction P generalizing Y with
  | nil => cases Y with
    | nil => simp [wl, weave]
    | cons => simp at h
  | cons a P ih => cases Y with
    | nil => simp at h
    | cons y Y =>
      have ih' := ih (Y := Y) (by simpa using h)
      cases P with
      | nil =>
        have hY : Y = [] := by simpa using h
        subst hY
        simp [weave, wl, wr]
      | cons p P =>
        simp only [List.cons_append, weave, wl] at ih' ⊢
        cases Y with
        | nil => simp at h
        | cons z Y =>
          simp only [List.cons_append, wr] at ih' ⊢
          rw [ih']
          simp [wl]
theorem wl_last {P : List (List α)} {Y : List α} {c : List α} {y : α} (h : P.length = Y.length) : wl (P ++ [c]) (Y ++ [y]) = wl P Y ++ c ++ [y] := by
  rw [wl_append h]; simp [wl]
end weave

/-! ### the tree as it is seen from outside: a ghost -/
inductive GT where
  | node (b : Nat) (kv vv cv : Value) (ks : List ByteArray) (vs : List Value) (cs : List GT)
namespace GT
def b : GT → Nat | node b _ _ _ _ _ _ => b
def kv : GT → Value | node _ x _ _ _ _ _ => x
def vv : GT → Value | node _ _ x _ _ _ _ => x
def cv : GT → Value | node _ _ _ x _ _ _ => x
def ks : GT → List ByteArray | node _ _ _ _ x _ _ => x
def vs : GT → List Value | node _ _ _ _ _ x _ => x
def cs : GT → List GT | node _ _ _ _ _ _ x => x
@[simp] theorem b_node (b kv vv cv ks vs cs) : (node b kv vv cv ks vs cs).b = b := rfl
@[simp] theorem kv_node (b kv vv cv ks vs cs) : (node b kv vv cv ks vs cs).kv = kv := rfl
@[simp] theorem vv_node (b kv vv cv ks vs cs) : (node b kv vv cv ks vs cs).vv = vv := rfl
@[simp] theorem cv_node (b kv vv cv ks vs cs) : (node b kv vv cv ks vs cs).cv = cv := rfl
@[simp] theorem ks_node (b kv vv cv ks vs cs) : (node b kv vv cv ks vs cs).ks = ks := rfl
@[simp] theorem vs_node (b kv vv cv ks vs cs) : (node b kv vv cv ks vs cs).vs = vs := rfl
@[simp] theorem cs_node (b kv vv cv ks vs cs) : (node b kv vv cv ks vs cs).cs = cs := rfl
/-- its own pairs -/
def ps (t : GT) : List KV := t.ks.zip t.vs
end GT

/-- all pairs, in order; h: how many rows lie below -/
def toL : Nat → GT → List KV
  | 0, t => t.ps
  | h + 1, t => weave (t.cs.map (toL h)) t.ps

/-- the shape: all leaves at one depth, no node more than full, each but the root at least half full -/
def BT : Nat → GT → Prop
  | 0, t => t.cs = [] ∧ t.vs.length = t.ks.length ∧ t.ks.length ≤ 7
  | h + 1, t => t.cs.length = t.ks.length + 1 ∧ t.vs.length = t.ks.length ∧ t.ks.length ≤ 7 ∧ ∀ c ∈ t.cs, BT h c ∧ 3 ≤ c.ks.length

theorem BT.vs {h t} (H : BT h t) : t.vs.length = t.ks.length := by cases h with | zero => exact H.2.1 | succ h => exact H.2.1
theorem BT.ks {h t} (H : BT h t) : t.ks.length ≤ 7 := by cases h with | zero => exact H.2.2 | succ h => exact H.2.2.1
theorem BT.kid {h t c} (H : BT (h + 1) t) (hc : c ∈ t.cs) : BT h c ∧ 3 ≤ c.ks.length := H.2.2.2 c hc
theorem BT.ps_len {h t} (H : BT h t) : t.ps.length = t.ks.length := by simp [GT.ps, H.vs]
theorem BT.ps_get {h t} (H : BT h t) {i : Nat} (hi : i < t.ks.length) : ∃ v, t.vs[i]? = some v ∧ t.ps[i]? = some (t.ks[i], v) := by
  have hv : i < t.vs.length := by rw [H.vs]; exact hi
  refine ⟨t.vs[i], List.getElem?_eq_getElem hv, ?_⟩
  rw [GT.ps, List.getElem?_zip_eq_some]
  exact ⟨List.getElem?_eq_getElem hi, List.getElem?_eq_getElem hv⟩

/-- what lies ahead of child i, and behind it -/
def Lf (h : Nat) (t : GT) (i : Nat) : List KV := wl ((t.cs.take i).map (toL h)) (t.ps.take i)
def Rt (h : Nat) (t : GT) (i : Nat) : List KV := wr (t.ps.drop i) ((t.cs.drop (i + 1)).map (toL h))

theorem toL_split {h t} (H : BT (h + 1) t) {i : Nat} (hi : i ≤ t.ks.length) {c : GT} (hc : t.cs[i]? = some c) : toL (h + 1) t = Lf h t i ++ toL h c ++ Rt h t i := by
  have hcs : t.cs = t.cs.take i ++ c :: t.cs.drop (i + 1) := by
    obtain ⟨hlt, he⟩ := List.getElem?_eq_some_iff.1 hc
    conv => lhs; rw [← List.take_append_drop i t.cs]
    rw [List.drop_eq_getElem_cons hlt, he]
  have hps : t.ps = t.ps.take i ++ t.ps.drop i := (List.take_append_drop i t.ps).symm
  have hlen : ((t.cs.take i).map (toL h)).length = (t.ps.take i).length := by
    rw [List.length_map, List.length_take, List.length_take, H.ps_len, H.1]; omega
  show weave (t.cs.map (toL h)) t.ps = _
  unfold Lf Rt
  rw [← weave_split hlen, ← hps, ← List.map_cons (f := toL h), ← List.map_append, ← hcs]

theorem Lf_zero (h t) : Lf h t 0 = [] := by simp [Lf, wl]
theorem Lf_succ {h t} (H : BT (h + 1) t) {i : Nat} (hi : i < t.ks.length) {c : GT} (hc : t.cs[i]? = some c) {p : KV} (hp : t.ps[i]? = some p) :
    Lf h t (i + 1) = Lf h t i ++ toL h c ++ [p] := by
  unfold Lf
  have h1 : t.cs.take (i + 1) = t.cs.take i ++ [c] := by
    rw [List.take_add_one, hc]; rfl
  have h2 : t.ps.take (i + 1) = t.ps.take i ++ [p] := by
    rw [List.take_add_one, hp]; rfl
  rw [h1, h2, List.map_append]
  exact wl_last (by rw [List.length_map, List.length_take, List.length_take, H.ps_len, H.1]; omega)
theorem Rt_end {h t} (H : BT (h + 1) t) {i : Nat} (hi : t.ks.length ≤ i) : Rt h t i = [] := by
  unfold Rt
  rw [List.drop_of_length_le (by rw [H.ps_len]; exact hi)]
  rfl
theorem Rt_cons {h t} {i : Nat} {c : GT} (hc : t.cs[i + 1]? = some c) {p : KV} (hp : t.ps[i]? = some p) :
    Rt h t i = p :: (toL h c ++ Rt h t (i + 1)) := by
  unfold Rt
  obtain ⟨h1, rfl⟩ := List.getElem?_eq_some_iff.1 hp
  obtain ⟨h2, rfl⟩ := List.getElem?_eq_some_iff.1 hc
  rw [List.drop_eq_getElem_cons h1, List.drop_eq_getElem_cons h2]
  rfl

/-- i is the place of key k among ks -/
structure Plc (k : ByteArray) (ks : List ByteArray) (i : Nat) : Prop where
  le : i ≤ ks.length
  lt : ∀ j x, j < i → ks[j]? = some x → klt x k = true
  ge : ∀ j x, i ≤ j → ks[j]? = some x → klt x k = false

theorem Plc.gt {k ks i} (h : Plc k ks i) {j x} (hj : i ≤ j) (hx : ks[j]? = some x) (hne : x ≠ k) : klt k x = true := by
  rcases klt_tri k x with h1 | h1 | h1
  · exact h1
  · exact absurd h1.symm hne
  · rw [h.ge j x hj hx] at h1; cases h1

theorem allLt_last {A : List KV} {p : KV} {k} (h : Srt (A ++ [p])) (hp : klt p.1 k = true) : AllLt (A ++ [p]) k := by
  intro q hq
  rcases List.mem_append.1 hq with hq | hq
  · exact klt_trans ((Srt.append_iff.1 h).2.2 q hq p (by simp)) hp
  · obtain rfl : q = p := by simpa using hq
    exact hp
theorem allGt_head {A : List KV} {p : KV} {k} (h : Srt (p :: A)) (hp : klt k p.1 = true) : AllGt (p :: A) k := by
  intro q hq
  rcases List.mem_cons.1 hq with rfl | hq
  · exact hp
  · exact klt_trans hp ((List.pairwise_cons.1 h).1 q hq)

theorem Srt.left {A B : List KV} (h : Srt (A ++ B)) : Srt A := (Srt.append_iff.1 h).1
theorem Srt.right {A B : List KV} (h : Srt (A ++ B)) : Srt B := (Srt.append_iff.1 h).2.1

theorem Lf_lt {h t k i} (H : BT (h + 1) t) (hs : Srt (toL (h + 1) t)) (hp : Plc k t.ks i) : AllLt (Lf h t i) k := by
  have hi := hp.le
  cases i with
  | zero => rw [Lf_zero]; intro p hq; cases hq
  | succ i =>
    obtain ⟨c, hc⟩ : ∃ c, t.cs[i + 1]? = some c := ⟨_, List.getElem?_eq_getElem (by rw [H.1]; omega)⟩
    obtain ⟨c0, hc0⟩ : ∃ c, t.cs[i]? = some c := ⟨_, List.getElem?_eq_getElem (by rw [H.1]; omega)⟩
    obtain ⟨v, hv, hpi⟩ := H.ps_get (i := i) (by omega)
    rw [toL_split H hi hc, List.append_assoc] at hs
    have hs' := hs.left
    rw [Lf_succ H (by omega) hc0 hpi] at hs' ⊢
    exact allLt_last hs' (hp.lt i _ (by omega) (List.getElem?_eq_getElem (by omega)))
theorem Rt_gt {h t k i} (H : BT (h + 1) t) (hs : Srt (toL (h + 1) t)) (hp : Plc k t.ks i) (hne : t.ks[i]? ≠ some k) : AllGt (Rt h t i) k := by
  have hi := hp.le
  obtain ⟨c, hc⟩ : ∃ c, t.cs[i]? = some c := ⟨_, List.getElem?_eq_getElem (by rw [H.1]; omega)⟩
  rw [toL_split H hi hc] at hs
  have hs' := hs.right
  rcases Nat.lt_or_ge i t.ks.length with hlt | hge
  · obtain ⟨v, hv, hpi⟩ := H.ps_get hlt
    obtain ⟨c1, hc1⟩ : ∃ c, t.cs[i + 1]? = some c := ⟨_, List.getElem?_eq_getElem (by rw [H.1]; omega)⟩
    rw [Rt_cons hc1 hpi] at hs' ⊢
    have hx : t.ks[i]? = some t.ks[i] := List.getElem?_eq_getElem hlt
    exact allGt_head hs' (hp.gt (Nat.le_refl _) hx (fun e => hne (by rw [hx]; exact congrArg some e)))
  · rw [Rt_end H hge]; intro p hq; cases hq
/-- found: what lies behind the pair found lies above it -/
theorem Rt_here {h t k i} (H : BT (h + 1) t) (hs : Srt (toL (h + 1) t)) (hk : t.ks[i]? = some k) {v} (hv : t.vs[i]? = some v) {c1} (hc1 : t.cs[i + 1]? = some c1) :
    Rt h t i = (k, v) :: (toL h c1 ++ Rt h t (i + 1)) ∧ AllGt (toL h c1 ++ Rt h t (i + 1)) k := by
  obtain ⟨hlt, he⟩ := List.getElem?_eq_some_iff.1 hk
  obtain ⟨c, hc⟩ : ∃ c, t.cs[i]? = some c := ⟨_, List.getElem?_eq_getElem (by rw [H.1]; omega)⟩
  obtain ⟨v', hv', hpi⟩ := H.ps_get hlt
  rw [hv] at hv'; cases hv'
  rw [he] at hpi
  rw [toL_split H (by omega) hc] at hs
  have hs' := hs.right
  rw [Rt_cons hc1 hpi] at hs' ⊢
  exact ⟨rfl, (List.pairwise_cons.1 hs').1⟩

/-! ### a child is changed, a value is changed -/
theorem BT.setKid {h t i c'} (H : BT (h + 1) t) {t' : GT} (hk : t'.ks = t.ks) (hv : t'.vs = t.vs) (hc : t'.cs = t.cs.set i c') (Hc : BT h c') (h3 : 3 ≤ c'.ks.length) : BT (h + 1) t' := by
  refine ⟨by rw [hc, hk, List.length_set]; exact H.1, by rw [hv, hk]; exact H.2.1, by rw [hk]; exact H.2.2.1, fun c hcm => ?_⟩
  rw [hc] at hcm
  rcases List.mem_or_eq_of_mem_set hcm with hcm | rfl
  · exact H.2.2.2 c hcm
  · exact ⟨Hc, h3⟩
theorem Lf_setKid {h t i c'} {t' : GT} (hk : t'.ks = t.ks) (hv : t'.vs = t.vs) (hc : t'.cs = t.cs.set i c') : Lf h t' i = Lf h t i := by
  unfold Lf GT.ps
  rw [hk, hv, hc, List.take_set_of_le (Nat.le_refl _)]
theorem Rt_setKid {h t i c'} {t' : GT} (hk : t'.ks = t.ks) (hv : t'.vs = t.vs) (hc : t'.cs = t.cs.set i c') : Rt h t' i = Rt h t i := by
  unfold Rt GT.ps
  rw [hk, hv, hc, List.drop_set_of_lt (by omega)]
theorem toL_setKid {h t i c c'} (H : BT (h + 1) t) {t' : GT} (hk : t'.ks = t.ks) (hv : t'.vs = t.vs) (hc : t'.cs = t.cs.set i c') (hci : t.cs[i]? = some c) (Hc : BT h c') (h3 : 3 ≤ c'.ks.length) :
    toL (h + 1) t' = Lf h t i ++ toL h c' ++ Rt h t i := by
  have hlt : i < t.cs.length := (List.getElem?_eq_some_iff.1 hci).1
  have hc' : t'.cs[i]? = some c' := by rw [hc, List.getElem?_set_self hlt]
  rw [toL_split (H.setKid hk hv hc Hc h3) (by rw [hk]; have := H.1; omega) hc', Lf_setKid hk hv hc, Rt_setKid hk hv hc]

/-- putting into the child where the key belongs -/
theorem put_kid {h t i c c' k v} (H : BT (h + 1) t) (hs : Srt (toL (h + 1) t)) (hp : Plc k t.ks i) (hne : t.ks[i]? ≠ some k) (hci : t.cs[i]? = some c)
    {t' : GT} (hk : t'.ks = t.ks) (hv : t'.vs = t.vs) (hc : t'.cs = t.cs.set i c') (Hc : BT h c') (h3 : 3 ≤ c'.ks.length) (he : toL h c' = ins k v (toL h c)) :
    BT (h + 1) t' ∧ toL (h + 1) t' = ins k v (toL (h + 1) t) ∧ look k (toL (h + 1) t) = look k (toL h c) ∧ Srt (toL h c) := by
  have hL := Lf_lt H hs hp
  have hR := Rt_gt H hs hp hne
  have e := toL_split H hp.le hci
  refine ⟨H.setKid hk hv hc Hc h3, ?_, ?_, ?_⟩
  · rw [toL_setKid H hk hv hc hci Hc h3, e, ins_mid hL hR, he]
  · rw [e, look_mid hL hR]
  · rw [e] at hs; exact hs.left.right

theorem kid_srt {h t i c} (H : BT (h + 1) t) (hs : Srt (toL (h + 1) t)) (hi : i ≤ t.ks.length) (hci : t.cs[i]? = some c) : Srt (toL h c) := by
  rw [toL_split H hi hci] at hs; exact hs.left.right

theorem split_at {α : Type} {l : List α} {i : Nat} {x : α} (h : l[i]? = some x) : l = l.take i ++ x :: l.drop (i + 1) := by
  obtain ⟨hlt, rfl⟩ := List.getElem?_eq_some_iff.1 h
  rw [← List.drop_eq_getElem_cons hlt, List.take_append_drop]

theorem zip_take_drop {ks : List ByteArray} {vs : List Value} (i : Nat) (hl : vs.length = ks.length) (hi : i ≤ ks.length) :
    ks.zip vs = (ks.take i).zip (vs.take i) ++ (ks.drop i).zip (vs.drop i) := by
  rw [← List.zip_append (by simp; omega), List.take_append_drop, List.take_append_drop]
theorem ps_take {t : GT} {i : Nat} : t.ps.take i = (t.ks.take i).zip (t.vs.take i) := by
  simp [GT.ps, List.zip, List.take_zipWith]
theorem ps_drop {t : GT} {i : Nat} : t.ps.drop i = (t.ks.drop i).zip (t.vs.drop i) := by
  simp [GT.ps, List.zip, List.drop_zipWith]
theorem ps_here {t : GT} {i : Nat} {k v} (hk : t.ks[i]? = some k) (hv : t.vs[i]? = some v) : t.ps = t.ps.take i ++ (k, v) :: t.ps.drop (i + 1) := by
  refine split_at ?_
  rw [GT.ps, List.getElem?_zip_eq_some]
  exact ⟨hk, hv⟩
theorem ps_set {h t} (H : BT h t) {i : Nat} {k} (hk : t.ks[i]? = some k) (v : Value) {t' : GT} (hk' : t'.ks = t.ks) (hv' : t'.vs = t.vs.set i v) :
    t'.ps = t.ps.take i ++ (k, v) :: t.ps.drop (i + 1) := by
  have hlt := (List.getElem?_eq_some_iff.1 hk).1
  have hv : t'.vs[i]? = some v := by rw [hv', List.getElem?_set_self (by rw [H.vs]; exact hlt)]
  have h1 : t'.ps = t'.ps.take i ++ (k, v) :: t'.ps.drop (i + 1) := by
    refine split_at ?_
    rw [GT.ps, List.getElem?_zip_eq_some]
    exact ⟨by rw [hk']; exact hk, hv⟩
  rw [h1, ps_take, ps_drop, ps_take, ps_drop, hk', hv', List.take_set_of_le (Nat.le_refl _), List.drop_set_of_lt (by omega)]

/-- a value is changed in place -/
theorem put_here {h t i k v u} (H : BT h t) (hs : Srt (toL h t)) (hk : t.ks[i]? = some k) (hu : t.vs[i]? = some u) {t' : GT} (hk' : t'.ks = t.ks) (hv' : t'.vs = t.vs.set i v) (hc' : t'.cs = t.cs) :
    BT h t' ∧ toL h t' = ins k v (toL h t) ∧ look k (toL h t) = some u := by
  have e := ps_here hk hu
  have e' := ps_set H hk v hk' hv'
  cases h with
  | zero =>
    have es : toL 0 t = t.ps := rfl
    rw [es, e] at hs
    have h2 := Srt.append_iff.1 hs
    have hL : AllLt (t.ps.take i) k := fun p hp => h2.2.2 p hp (k, u) (by simp)
    have hR : AllGt (t.ps.drop (i + 1)) k := (List.pairwise_cons.1 h2.2.1).1
    refine ⟨⟨by rw [hc']; exact H.1, by rw [hv', hk', List.length_set]; exact H.2.1, by rw [hk']; exact H.2.2⟩, ?_, ?_⟩
    · show t'.ps = ins k v t.ps
      exact e'.trans ((ins_here (u := u) hL hR).symm.trans (congrArg (ins k v) e.symm))
    · show look k t.ps = some u
      exact (congrArg (look k) e).trans (look_here hL)
  | succ h =>
    have hlt := (List.getElem?_eq_some_iff.1 hk).1
    have Hb' : BT (h + 1) t' := ⟨by rw [hc', hk']; exact H.1, by rw [hv', hk', List.length_set]; exact H.2.1, by rw [hk']; exact H.2.2.1, by rw [hc']; exact H.2.2.2⟩
    obtain ⟨c, hc⟩ : ∃ c, t.cs[i]? = some c := ⟨_, List.getElem?_eq_getElem (by rw [H.1]; omega)⟩
    obtain ⟨c1, hc1⟩ : ∃ c, t.cs[i + 1]? = some c := ⟨_, List.getElem?_eq_getElem (by rw [H.1]; omega)⟩
    obtain ⟨r1, r2⟩ := Rt_here H hs hk hu hc1
    have hv2 : t'.vs[i]? = some v := by rw [hv', List.getElem?_set_self (by rw [H.vs]; exact hlt)]
    have hlf : Lf h t' i = Lf h t i := by
      unfold Lf; rw [hc', ps_take, ps_take, hk', hv', List.take_set_of_le (Nat.le_refl _)]
    have hrt : Rt h t' (i + 1) = Rt h t (i + 1) := by
      unfold Rt; rw [hc', ps_drop, ps_drop, hk', hv', List.drop_set_of_lt (by omega)]
    have hpi : t'.ps[i]? = some (k, v) := by
      rw [GT.ps, List.getElem?_zip_eq_some]; exact ⟨by rw [hk']; exact hk, hv2⟩
    have et := toL_split H (Nat.le_of_lt hlt) hc
    have et' : toL (h + 1) t' = Lf h t i ++ toL h c ++ (k, v) :: (toL h c1 ++ Rt h t (i + 1)) := by
      rw [toL_split (i := i) Hb' (by rw [hk']; omega) (by rw [hc']; exact hc), Rt_cons (by rw [hc']; exact hc1) hpi, hlf, hrt]
    rw [r1] at et
    have hL : AllLt (Lf h t i ++ toL h c) k := by
      rw [et] at hs
      exact fun p hp => (Srt.append_iff.1 hs).2.2 p hp (k, u) (by simp)
    refine ⟨Hb', ?_, ?_⟩
    · rw [et', et, ins_here hL r2]
    · rw [et]; exact look_here hL

/-- a new pair in a leaf -/
theorem put_leaf {t i k v} (H : BT 0 t) (h6 : t.ks.length ≤ 6) (hs : Srt (toL 0 t)) (hp : Plc k t.ks i) (hne : t.ks[i]? ≠ some k) {t' : GT}
    (hk' : t'.ks = t.ks.take i ++ k :: t.ks.drop i) (hv' : t'.vs = t.vs.take i ++ v :: t.vs.drop i) (hc' : t'.cs = t.cs) :
    BT 0 t' ∧ toL 0 t' = ins k v (toL 0 t) ∧ look k (toL 0 t) = none := by
  have hi := hp.le
  have hvl := H.2.1
  have hL : AllLt (t.ps.take i) k := by
    intro p hpm
    obtain ⟨j, hj⟩ := List.mem_iff_getElem?.1 hpm
    rw [List.getElem?_take] at hj
    split at hj
    case isFalse => cases hj
    rename_i hj1
    have hj2 := hj
    rw [GT.ps, List.getElem?_zip_eq_some] at hj2
    exact hp.lt j _ hj1 hj2.1
  have hR : AllGt (t.ps.drop i) k := by
    intro p hpm
    obtain ⟨j, hj⟩ := List.mem_iff_getElem?.1 hpm
    rw [List.getElem?_drop, GT.ps, List.getElem?_zip_eq_some] at hj
    by_cases hj0 : t.ks[i + j]? = some k
    · -- then the pair at i is below or k itself
      exfalso
      rcases Nat.eq_zero_or_pos j with rfl | hpos
      · exact hne hj0
      · obtain ⟨v0, hv0, hpi⟩ := H.ps_get (i := i) (by have := (List.getElem?_eq_some_iff.1 hj0).1; omega)
        have hlt0 := (List.getElem?_eq_some_iff.1 hj0).1
        have hx : t.ks[i]? = some t.ks[i] := List.getElem?_eq_getElem (by omega)
        have hgt := hp.gt (Nat.le_refl _) hx (fun e => hne (by rw [hx]; exact congrArg some e))
        obtain ⟨vj, hvj, hpj⟩ := H.ps_get (i := i + j) hlt0
        have hlt : klt t.ks[i] t.ks[i + j] = true := by
          have hs' : Srt t.ps := hs
          have hle : i + j < t.ps.length := by rw [H.ps_len]; exact hlt0
          have := (List.pairwise_iff_getElem.1 hs') i (i + j) (by omega) hle (by omega)
          rw [(List.getElem?_eq_some_iff.1 hpi).2, (List.getElem?_eq_some_iff.1 hpj).2] at this
          exact this
        have : t.ks[i + j] = k := by have := (List.getElem?_eq_some_iff.1 hj0).2; exact this
        rw [this] at hlt
        rw [klt_asymm hlt] at hgt
        cases hgt
    · exact hp.gt (by omega) hj.1 (fun e => hj0 (by rw [hj.1]; exact congrArg some e))
  have hps : t'.ps = t.ps.take i ++ (k, v) :: t.ps.drop i := by
    unfold GT.ps
    rw [hk', hv', List.zip_append (by simp; omega), List.zip_cons_cons]
    simp [List.zip, List.take_zipWith, List.drop_zipWith]
  have e : t.ps = t.ps.take i ++ t.ps.drop i := (List.take_append_drop _ _).symm
  refine ⟨⟨by rw [hc']; exact H.1, by rw [hv', hk']; simp; omega, by rw [hk']; simp; omega⟩, ?_, ?_⟩
  · show t'.ps = ins k v t.ps
    exact hps.trans ((ins_new hL hR).symm.trans (congrArg (ins k v) e.symm))
  · show look k t.ps = none
    refine (congrArg (look k) e).trans ?_
    rw [look_append, look_lt hL, look_gt hR]; rfl

end Go.Proofs.Ytcidmaeclonilaa
