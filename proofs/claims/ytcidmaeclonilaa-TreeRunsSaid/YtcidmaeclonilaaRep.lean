/- The tree in memory: each node a block of its own, each of its slices a block of its own. -/
import Derived.Test.YtcidmaeclonilaaMem
namespace Go.Proofs.Ytcidmaeclonilaa
open Go Go.RowKit

/-- the types' numbers: a node's struct, a value, a pointer to a node -/
structure Tys where
  nd : TypeId
  val : TypeId
  kid : TypeId
  isV : Value → Prop

/-- values of one kind -/
def StrV (u : Value) : Prop := ∃ s, u = .string s
def SlcV (u : Value) : Prop := ∃ A n c, u = .slice A n c
def PtrV (u : Value) : Prop := ∃ b, u = .pointer (some ⟨b, 0, none⟩)
theorem StrV.mid {l : List Value} (h : ∀ u ∈ l, StrV u) (s : ByteArray) (i : Nat) : ∀ u ∈ l.take i ++ .string s :: l.drop i, StrV u := fun u hu => by
  rcases List.mem_append.1 hu with hu | hu
  · exact h u (List.mem_of_mem_take hu)
  · rcases List.mem_cons.1 hu with rfl | hu
    · exact ⟨_, rfl⟩
    · exact h u (List.mem_of_mem_drop hu)
theorem SlcV.mid {l : List Value} (h : ∀ u ∈ l, SlcV u) (A : Option Addr) (n c : Nat) (i : Nat) : ∀ u ∈ l.take i ++ .slice A n c :: l.drop i, SlcV u := fun u hu => by
  rcases List.mem_append.1 hu with hu | hu
  · exact h u (List.mem_of_mem_take hu)
  · rcases List.mem_cons.1 hu with rfl | hu
    · exact ⟨_, _, _, rfl⟩
    · exact h u (List.mem_of_mem_drop hu)
theorem PtrV.mid {l : List Value} (h : ∀ u ∈ l, PtrV u) (b : Nat) (i : Nat) : ∀ u ∈ l.take i ++ .pointer (some ⟨b, 0, none⟩) :: l.drop i, PtrV u := fun u hu => by
  rcases List.mem_append.1 hu with hu | hu
  · exact h u (List.mem_of_mem_take hu)
  · rcases List.mem_cons.1 hu with rfl | hu
    · exact ⟨_, rfl⟩
    · exact h u (List.mem_of_mem_drop hu)
theorem StrV.one {l : List Value} (h : ∀ u ∈ l, StrV u) : ∀ u ∈ l, u.oneCell' = true := fun u hu => by obtain ⟨s, rfl⟩ := h u hu; rfl
theorem SlcV.one {l : List Value} (h : ∀ u ∈ l, SlcV u) : ∀ u ∈ l, u.oneCell' = true := fun u hu => by obtain ⟨a, n, c, rfl⟩ := h u hu; rfl
theorem PtrV.one {l : List Value} (h : ∀ u ∈ l, PtrV u) : ∀ u ∈ l, u.oneCell' = true := fun u hu => by obtain ⟨b, rfl⟩ := h u hu; rfl

def ptr (c : GT) : Value := .pointer (some ⟨c.b, 0, none⟩)

structure Nod (T : Tys) (w : World) (t : GT) : Prop where
  blk : Blk w t.b T.nd #[t.kv, t.vv, t.cv]
  kr : Row w 9 t.kv (t.ks.map Value.string)
  vr : Row w T.val t.vv t.vs
  cr : Row w T.kid t.cv (t.cs.map ptr)
  v1 : ∀ u ∈ t.vs, T.isV u

/-- the blocks of a node -/
def own (t : GT) : List Nat := t.b :: (ob t.kv ++ (ob t.vv ++ ob t.cv))
/-- the blocks of a tree -/
def fp : Nat → GT → List Nat
  | 0, t => own t
  | h + 1, t => own t ++ (t.cs.map (fp h)).flatten

def Rep (T : Tys) (w : World) : Nat → GT → Prop
  | 0, t => Nod T w t
  | h + 1, t => Nod T w t ∧ ∀ c ∈ t.cs, Rep T w h c

/-- each block once -/
def Sep (h : Nat) (t : GT) : Prop := ∀ k, (fp h t).count k ≤ 1

structure Tre (T : Tys) (w : World) (h : Nat) (t : GT) : Prop where
  rep : Rep T w h t
  sep : Sep h t

section
variable {T : Tys} {w w' : World} {h : Nat} {t : GT}

theorem own_sub_fp : ∀ k ∈ own t, k ∈ fp h t := by
  intro k hk
  cases h with
  | zero => exact hk
  | succ h => exact List.mem_append_left _ hk
theorem Nod.lt (H : Nod T w t) : ∀ k ∈ own t, k < w.heap.size := by
  intro k hk
  rcases List.mem_cons.1 hk with rfl | hk
  · exact H.blk.lt
  · rcases List.mem_append.1 hk with hk | hk
    · exact H.kr.lt k hk
    · rcases List.mem_append.1 hk with hk | hk
      · exact H.vr.lt k hk
      · exact H.cr.lt k hk
theorem Nod.kept (H : Nod T w t) (hk : ∀ k ∈ own t, w'.heap[k]? = w.heap[k]?) : Nod T w' t :=
  ⟨(hk t.b (by simp [own])).trans H.blk, H.kr.kept fun k hm => hk k (by simp [own, hm]), H.vr.kept fun k hm => hk k (by simp [own, hm]), H.cr.kept fun k hm => hk k (by simp [own, hm]), H.v1⟩
theorem Rep.nod (H : Rep T w h t) : Nod T w t := by
  cases h with
  | zero => exact H
  | succ h => exact H.1
theorem Rep.lt : ∀ {h : Nat} {t : GT}, Rep T w h t → ∀ k ∈ fp h t, k < w.heap.size
  | 0, _, H, k, hk => Nod.lt H k hk
  | h + 1, t, H, k, hk => by
    rcases List.mem_append.1 hk with hk | hk
    · exact H.1.lt k hk
    · obtain ⟨l, hl, hkl⟩ := List.mem_flatten.1 hk
      obtain ⟨c, hc, rfl⟩ := List.mem_map.1 hl
      exact Rep.lt (H.2 c hc) k hkl
theorem Rep.kept : ∀ {h : Nat} {t : GT}, Rep T w h t → (∀ k ∈ fp h t, w'.heap[k]? = w.heap[k]?) → Rep T w' h t
  | 0, _, H, hk => Nod.kept H hk
  | _ + 1, _, H, hk => ⟨H.1.kept fun k hm => hk k (List.mem_append_left _ hm), fun c hc => Rep.kept (H.2 c hc) fun k hm =>
      hk k (List.mem_append_right _ (List.mem_flatten.2 ⟨_, List.mem_map.2 ⟨c, hc, rfl⟩, hm⟩))⟩
theorem Rep.chg {L : List Nat} (H : Rep T w h t) (hb : Chg L w w') (hd : ∀ k ∈ fp h t, k ∉ L) : Rep T w' h t :=
  H.kept fun k hk => hb.block k (H.lt k hk) (hd k hk)
theorem Rep.below (H : Rep T w h t) (hb : Below w.heap.size w w') : Rep T w' h t := H.kept fun k hk => hb.block k (H.lt k hk)
theorem Tre.below (H : Tre T w h t) (hb : Below w.heap.size w w') : Tre T w' h t := ⟨H.rep.below hb, H.sep⟩
theorem Tre.nod (H : Tre T w h t) : Nod T w t := H.rep.nod

theorem fp_kid {c : GT} {i : Nat} (hc : t.cs[i]? = some c) : fp (h + 1) t = own t ++ (((t.cs.take i).map (fp h)).flatten ++ (fp h c ++ ((t.cs.drop (i + 1)).map (fp h)).flatten)) := by
  show own t ++ (t.cs.map (fp h)).flatten = _
  conv => lhs; rw [split_at hc]
  simp
theorem Tre.kid (H : Tre T w (h + 1) t) {c : GT} {i : Nat} (hc : t.cs[i]? = some c) : Tre T w h c := by
  refine ⟨H.rep.2 c (List.mem_of_getElem? hc), fun k => ?_⟩
  have := H.sep k
  rw [fp_kid hc] at this
  simp only [List.count_append] at this
  omega
/-- what is in a child's blocks is in no block of the node's own -/
theorem Sep.apart (H : Sep (h + 1) t) {c : GT} {i : Nat} (hc : t.cs[i]? = some c) {k : Nat} (hk : k ∈ own t) : k ∉ fp h c := by
  intro hm
  have := H k
  rw [fp_kid hc] at this
  simp only [List.count_append] at this
  have h1 := List.count_pos_iff.2 hk
  have h2 := List.count_pos_iff.2 hm
  omega
theorem Sep.apart2 (H : Sep (h + 1) t) {c d : GT} {i j : Nat} (hc : t.cs[i]? = some c) (hd : t.cs[j]? = some d) (hij : i ≠ j) {k : Nat} (hk : k ∈ fp h d) : k ∉ fp h c := by
  intro hm
  have h0 := H k
  rw [fp_kid hc] at h0
  simp only [List.count_append] at h0
  have h2 := List.count_pos_iff.2 hm
  have h1 : 0 < List.count k (((t.cs.take i).map (fp h)).flatten) ∨ 0 < List.count k (((t.cs.drop (i + 1)).map (fp h)).flatten) := by
    rcases Nat.lt_or_gt_of_ne hij with hlt | hlt
    · refine .inr (List.count_pos_iff.2 (List.mem_flatten.2 ⟨_, List.mem_map.2 ⟨d, List.mem_of_getElem? (i := j - (i + 1)) ?_, rfl⟩, hk⟩))
      rw [List.getElem?_drop, show i + 1 + (j - (i + 1)) = j by omega]; exact hd
    · refine .inl (List.count_pos_iff.2 (List.mem_flatten.2 ⟨_, List.mem_map.2 ⟨d, List.mem_of_getElem? (i := j) ?_, rfl⟩, hk⟩))
      rw [List.getElem?_take_of_lt hlt]; exact hd
  omega

/-- new footprint: each block is an old one or a new one -/
def Sub (w : World) (L M : List Nat) : Prop := ∀ k ∈ L, k ∈ M ∨ w.heap.size ≤ k
theorem Sub.refl (w : World) (L : List Nat) : Sub w L L := fun _ h => .inl h
theorem Sub.trans {L M N : List Nat} (h : Sub w L M) (k : Sub w' M N) (hs : w'.heap.size ≤ w.heap.size) : Sub w' L N := fun x hx =>
  (h x hx).elim (fun hm => k x hm) (fun hn => .inr (Nat.le_trans hs hn))

/-- a child has changed, in its own blocks and new ones alone -/
theorem Tre.setKid (H : Tre T w (h + 1) t) {c c' : GT} {i : Nat} (hc : t.cs[i]? = some c) (hg : Chg (fp h c) w w') (H' : Tre T w' h c') (hb : c'.b = c.b) (hs : Sub w (fp h c') (fp h c)) :
    Tre T w' (h + 1) (.node t.b t.kv t.vv t.cv t.ks t.vs (t.cs.set i c')) ∧ Sub w (fp (h + 1) (.node t.b t.kv t.vv t.cv t.ks t.vs (t.cs.set i c'))) (fp (h + 1) t) := by
  have hlt : i < t.cs.length := (List.getElem?_eq_some_iff.1 hc).1
  have hptr : (t.cs.set i c').map ptr = t.cs.map ptr := by
    apply List.ext_getElem?
    intro j
    rw [List.getElem?_map, List.getElem?_map]
    by_cases hij : i = j
    · subst hij
      rw [List.getElem?_set_self hlt, hc]
      simp [ptr, hb]
    · rw [List.getElem?_set_ne hij]
  have hN : Nod T w' t := H.rep.1.kept fun k hk => hg.block k (H.rep.1.lt k hk) (H.sep.apart hc hk)
  have hc' : (GT.node t.b t.kv t.vv t.cv t.ks t.vs (t.cs.set i c')).cs[i]? = some c' := by rw [GT.cs_node, List.getElem?_set_self hlt]
  have hfp : fp (h + 1) (GT.node t.b t.kv t.vv t.cv t.ks t.vs (t.cs.set i c')) = own t ++ (((t.cs.take i).map (fp h)).flatten ++ (fp h c' ++ ((t.cs.drop (i + 1)).map (fp h)).flatten)) := by
    rw [fp_kid hc']
    simp only [GT.cs_node, List.take_set_of_le (Nat.le_refl _), List.drop_set_of_lt (show i < i + 1 by omega)]
    rfl
  refine ⟨⟨⟨⟨hN.blk, hN.kr, hN.vr, by simpa [hptr] using hN.cr, hN.v1⟩, fun d hd => ?_⟩, fun k => ?_⟩, fun k hk => ?_⟩
  · simp only [GT.cs_node] at hd
    obtain ⟨j, hj⟩ := List.mem_iff_getElem?.1 hd
    by_cases hij : i = j
    · subst hij
      rw [List.getElem?_set_self hlt] at hj
      cases hj
      exact H'.rep
    · rw [List.getElem?_set_ne hij] at hj
      exact (H.rep.2 d (List.mem_of_getElem? hj)).chg hg fun k hk => H.sep.apart2 hc hj hij hk
  · have h0 := H.sep k
    have h1 := H'.sep k
    rw [hfp]
    rw [fp_kid hc] at h0
    simp only [List.count_append] at h0 ⊢
    by_cases hm : k ∈ fp h c'
    · rcases hs k hm with hm' | hge
      · have := List.count_pos_iff.2 hm'
        omega
      · have hz : ∀ L : List Nat, (∀ x ∈ L, x < w.heap.size) → L.count k = 0 := fun L hL => List.count_eq_zero.2 fun hx => by have := hL k hx; omega
        have hall : ∀ x ∈ fp (h + 1) t, x < w.heap.size := H.rep.lt
        rw [fp_kid hc] at hall
        rw [hz (own t) (fun x hx => hall x (by simp [hx])), hz _ (fun x hx => hall x (List.mem_append_right _ (List.mem_append_left _ hx))),
          hz (((t.cs.drop (i + 1)).map (fp h)).flatten) (fun x hx => hall x (List.mem_append_right _ (List.mem_append_right _ (List.mem_append_right _ hx))))]
        omega
    · rw [List.count_eq_zero.2 hm]
      omega
  · rw [hfp] at hk
    rw [fp_kid hc]
    simp only [List.mem_append] at hk ⊢
    rcases hk with hk | hk | hk | hk
    · exact .inl (.inl hk)
    · exact .inl (.inr (.inl hk))
    · exact (hs k hk).imp (fun x => .inr (.inr (.inl x))) id
    · exact .inl (.inr (.inr (.inr hk)))
end

end Go.Proofs.Ytcidmaeclonilaa
