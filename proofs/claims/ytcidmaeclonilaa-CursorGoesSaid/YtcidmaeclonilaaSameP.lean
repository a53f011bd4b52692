/- What TreeSame's loops make of two lists of pairs: no program in sight. -/
import Derived.Test.YtcidmaeclonilaaTDrop
namespace Go.Proofs.Ytcidmaeclonilaa
open Go

theorem look_ins (l : List KV) (k k' : ByteArray) (v : Value) : look k (ins k' v l) = if k = k' then some v else look k l := by
  unfold ins
  by_cases h : k = k'
  · subst h
    rw [if_pos rfl, look_append]
    have e : look k (l.filter fun p => klt p.1 k) = none := by
      simp only [look, Option.map_eq_none_iff, List.find?_eq_none]
      intro p hp
      have := (List.mem_filter.1 hp).2
      simp only [decide_eq_true_eq]
      exact klt_ne (by simpa using this)
    rw [e]; simp [look]
  · rw [if_neg h]
    have key : ∀ l : List KV, look k (l.filter (fun p => klt p.1 k')) = (if klt k k' = true then look k l else none) ∧ look k (l.filter (fun p => klt k' p.1)) = (if klt k' k = true then look k l else none) := by
      intro l
      induction l with
      | nil => simp [look]
      | cons p l ih =>
        by_cases hp : p.1 = k
        · subst hp
          constructor
          · by_cases h1 : klt p.1 k' = true
            · simp [List.filter_cons, h1, look]
            · rw [List.filter_cons, if_neg h1, ih.1, if_neg h1]; simp [h1]
          · by_cases h1 : klt k' p.1 = true
            · simp [List.filter_cons, h1, look]
            · rw [List.filter_cons, if_neg h1, ih.2, if_neg h1]; simp [h1]
        · have e : look k (p :: l) = look k l := by simp [look, List.find?_cons, hp]
          rw [e]
          constructor
          · rw [List.filter_cons]
            split
            · rw [show look k (p :: l.filter fun p => klt p.1 k') = look k (l.filter fun p => klt p.1 k') by simp [look, List.find?_cons, hp]]
              exact ih.1
            · exact ih.1
          · rw [List.filter_cons]
            split
            · rw [show look k (p :: l.filter fun p => klt k' p.1) = look k (l.filter fun p => klt k' p.1) by simp [look, List.find?_cons, hp]]
              exact ih.2
            · exact ih.2
    rw [look_append, (key l).1]
    have e2 : look k ((k', v) :: l.filter fun p => klt k' p.1) = look k (l.filter fun p => klt k' p.1) := by
      simp [look, List.find?_cons, Ne.symm h]
    rw [e2, (key l).2]
    rcases klt_tri k k' with h1 | h1 | h1
    · rw [if_pos h1, if_neg (by rw [klt_asymm h1]; decide)]; simp
    · exact absurd h1 h
    · rw [if_neg (by rw [klt_asymm h1]; decide), if_pos h1]; simp
theorem look_del (l : List KV) (k k' : ByteArray) : look k (del k' l) = if k = k' then none else look k l := by
  unfold del look
  induction l with
  | nil => simp
  | cons p l ih =>
    by_cases hp : p.1 = k'
    · rw [List.filter_cons, if_neg (by simp [hp])]
      rw [ih]
      by_cases h : k = k'
      · rw [if_pos h, if_pos h]
      · rw [if_neg h, if_neg h, List.find?_cons]
        have : ¬ (p.1 = k) := fun e => h (e.symm.trans hp)
        simp [this]
    · rw [List.filter_cons, if_pos (by simp [hp])]
      by_cases hk : p.1 = k
      · have : ¬ (k = k') := fun e => hp (hk.trans e)
        simp [List.find?_cons, hk, this]
      · simp only [List.find?_cons, hk, decide_false]
        exact ih
theorem look_mem {l : List KV} (hs : Srt l) {p : KV} (hp : p ∈ l) : look p.1 l = some p.2 := by
  obtain ⟨A, B, rfl⟩ := List.append_of_mem hp
  exact look_here fun q hq => (Srt.append_iff.1 hs).2.2 q hq p (by simp)
theorem mem_of_look {l : List KV} {k : ByteArray} {v : Value} (h : look k l = some v) : (k, v) ∈ l := by
  unfold look at h
  obtain ⟨p, hp, rfl⟩ := Option.map_eq_some_iff.1 h
  have h1 := List.mem_of_find?_eq_some hp
  have h2 : p.1 = k := by simpa using List.find?_some hp
  rw [← h2]; exact h1
/-- two lists in order that tell the same of each key are the same -/
theorem srt_ext : ∀ {l m : List KV}, Srt l → Srt m → (∀ k, look k l = look k m) → l = m
  | [], [], _, _, _ => rfl
  | [], q :: m, _, hm, h => by have := h q.1; rw [look_mem hm (by simp)] at this; simp [look] at this
  | p :: l, [], hl, _, h => by have := h p.1; rw [look_mem hl (by simp)] at this; simp [look] at this
  | p :: l, q :: m, hl, hm, h => by
    have hp : p ∈ q :: m := mem_of_look (by rw [← h]; exact look_mem hl (by simp))
    have hq : q ∈ p :: l := mem_of_look (by rw [h]; exact look_mem hm (by simp))
    have e : p = q := by
      rcases List.mem_cons.1 hp with e | hp
      · exact e
      · rcases List.mem_cons.1 hq with e | hq
        · exact e.symm
        · have h1 := (List.pairwise_cons.1 hm).1 p hp
          have h2 := (List.pairwise_cons.1 hl).1 q hq
          rw [klt_asymm h1] at h2; cases h2
    subst e
    have hl' := List.pairwise_cons.1 hl
    have hm' := List.pairwise_cons.1 hm
    rw [srt_ext hl'.2 hm'.2 fun k => ?_]
    by_cases hk : p.1 = k
    · subst hk
      rw [look_gt (fun q hq => hl'.1 q hq), look_gt (fun q hq => hm'.1 q hq)]
    · have := h k
      simpa [look, List.find?_cons, hk] using this

/-- a key's value -/
def kvV (z : ByteArray) : Value := .string (z ++ ⟨#[118]⟩)
def kvX : Value := .string ⟨#[120]⟩
/-- keys put with their values, in order; in the other order; with one value -/
def putV (l : List KV) (zs : List ByteArray) : List KV := zs.foldl (fun l k => ins k (kvV k) l) l
def putR (zs : List ByteArray) (l : List KV) : List KV := zs.foldr (fun k l => ins k (kvV k) l) l
def putX (l : List KV) (zs : List ByteArray) : List KV := zs.foldl (fun l k => ins k kvX l) l
/-- keys dropped that m has not -/
def dropN (m l : List KV) (zs : List ByteArray) : List KV := zs.foldl (fun l k => if (look k m).isSome = true then l else del k l) l

theorem putV_take {l : List KV} {zs : List ByteArray} {i : Nat} {z : ByteArray} (h : zs[i]? = some z) : putV l (zs.take (i + 1)) = ins z (kvV z) (putV l (zs.take i)) := by
  unfold putV; rw [List.take_add_one, h]; simp
theorem putX_take {l : List KV} {zs : List ByteArray} {i : Nat} {z : ByteArray} (h : zs[i]? = some z) : putX l (zs.take (i + 1)) = ins z kvX (putX l (zs.take i)) := by
  unfold putX; rw [List.take_add_one, h]; simp
theorem dropN_take {m l : List KV} {zs : List ByteArray} {i : Nat} {z : ByteArray} (h : zs[i]? = some z) : dropN m l (zs.take (i + 1)) = if (look z m).isSome = true then dropN m l (zs.take i) else del z (dropN m l (zs.take i)) := by
  unfold dropN; rw [List.take_add_one, h]; simp
theorem putR_drop {l : List KV} {zs : List ByteArray} {i : Nat} {z : ByteArray} (h : zs[i]? = some z) : putR (zs.drop i) l = ins z (kvV z) (putR (zs.drop (i + 1)) l) := by
  obtain ⟨hlt, rfl⟩ := List.getElem?_eq_some_iff.1 h
  unfold putR; rw [List.drop_eq_getElem_cons hlt]; rfl

theorem ins_len_le' {k : ByteArray} {v : Value} {l : List KV} (hs : Srt l) : (ins k v l).length ≤ l.length + 1 := by
  rw [ins_len hs]; split <;> omega
theorem del_len_le {k : ByteArray} {l : List KV} : (del k l).length ≤ l.length := List.length_filter_le _ _
open Classical in
theorem putV_ok (zs : List ByteArray) : ∀ l : List KV, Srt l → Srt (putV l zs) ∧ (putV l zs).length ≤ l.length + zs.length ∧ ∀ k, look k (putV l zs) = if k ∈ zs then some (kvV k) else look k l := by
  induction zs with
  | nil => intro l h; exact ⟨h, Nat.le_refl _, fun k => by simp [putV]⟩
  | cons z zs ih =>
    intro l h
    obtain ⟨h1, h2, h3⟩ := ih (ins z (kvV z) l) h.ins
    have := ins_len_le' (k := z) (v := kvV z) h
    refine ⟨h1, by simp only [putV, List.foldl_cons, List.length_cons] at h2 ⊢; omega, fun k => ?_⟩
    have e := h3 k
    rw [look_ins] at e
    show look k (putV (ins z (kvV z) l) zs) = _
    rw [e]
    by_cases hz : k ∈ zs
    · simp [hz]
    · by_cases hk : k = z
      · subst hk; simp
      · simp [hz, hk]
open Classical in
theorem putX_ok (zs : List ByteArray) : ∀ l : List KV, Srt l → Srt (putX l zs) ∧ (putX l zs).length ≤ l.length + zs.length ∧ ∀ k, look k (putX l zs) = if k ∈ zs then some kvX else look k l := by
  induction zs with
  | nil => intro l h; exact ⟨h, Nat.le_refl _, fun k => by simp [putX]⟩
  | cons z zs ih =>
    intro l h
    obtain ⟨h1, h2, h3⟩ := ih (ins z kvX l) h.ins
    have := ins_len_le' (k := z) (v := kvX) h
    refine ⟨h1, by simp only [putX, List.foldl_cons, List.length_cons] at h2 ⊢; omega, fun k => ?_⟩
    have e := h3 k
    rw [look_ins] at e
    show look k (putX (ins z kvX l) zs) = _
    rw [e]
    by_cases hz : k ∈ zs
    · simp [hz]
    · by_cases hk : k = z
      · subst hk; simp
      · simp [hz, hk]
open Classical in
theorem putR_ok (l : List KV) (hs : Srt l) : ∀ zs : List ByteArray, Srt (putR zs l) ∧ (putR zs l).length ≤ l.length + zs.length ∧ ∀ k, look k (putR zs l) = if k ∈ zs then some (kvV k) else look k l
  | [] => ⟨hs, Nat.le_refl _, fun k => by simp [putR]⟩
  | z :: zs => by
    obtain ⟨h1, h2, h3⟩ := putR_ok l hs zs
    have := ins_len_le' (k := z) (v := kvV z) h1
    refine ⟨h1.ins, by simp only [putR, List.foldr_cons, List.length_cons] at h2 this ⊢; omega, fun k => ?_⟩
    show look k (ins z (kvV z) (putR zs l)) = _
    rw [look_ins, h3 k]
    by_cases hk : k = z
    · subst hk; simp
    · simp [hk]
open Classical in
theorem dropN_ok (m : List KV) (zs : List ByteArray) : ∀ l : List KV, Srt l → Srt (dropN m l zs) ∧ (dropN m l zs).length ≤ l.length ∧ ∀ k, look k (dropN m l zs) = if k ∈ zs ∧ look k m = none then none else look k l := by
  induction zs with
  | nil => intro l h; exact ⟨h, Nat.le_refl _, fun k => by simp [dropN]⟩
  | cons z zs ih =>
    intro l h
    show Srt (dropN m (if (look z m).isSome = true then l else del z l) zs) ∧ (dropN m (if (look z m).isSome = true then l else del z l) zs).length ≤ _ ∧ ∀ k, look k (dropN m (if (look z m).isSome = true then l else del z l) zs) = _
    by_cases hz : (look z m).isSome = true
    · rw [if_pos hz]
      obtain ⟨h1, h2, h3⟩ := ih l h
      refine ⟨h1, h2, fun k => ?_⟩
      rw [h3 k]
      by_cases hk : k = z
      · subst hk
        have : look k m ≠ none := fun e => by rw [e] at hz; cases hz
        simp [this]
      · simp [hk]
    · rw [if_neg hz]
      have hn : look z m = none := by simpa using hz
      obtain ⟨h1, h2, h3⟩ := ih (del z l) h.del
      have := del_len_le (k := z) (l := l)
      refine ⟨h1, by omega, fun k => ?_⟩
      rw [h3 k, look_del]
      by_cases hk : k = z
      · subst hk; simp [hn]
      · simp [hk]

/-- TreeSame's two trees hold the same -/
theorem same_pure (zs gs : List ByteArray) : dropN (putV [] zs) (putR zs (putX [] gs)) gs = putV [] zs ∧ ∀ p ∈ putV [] zs, p.2 = kvV p.1 := by
  obtain ⟨a1, -, a3⟩ := putV_ok zs [] List.Pairwise.nil
  obtain ⟨x1, -, x3⟩ := putX_ok gs [] List.Pairwise.nil
  obtain ⟨r1, -, r3⟩ := putR_ok (putX [] gs) x1 zs
  obtain ⟨d1, -, d3⟩ := dropN_ok (putV [] zs) gs (putR zs (putX [] gs)) r1
  refine ⟨srt_ext d1 a1 fun k => ?_, fun p hp => ?_⟩
  · rw [d3, r3, x3, a3]
    have hn : look k ([] : List KV) = none := rfl
    by_cases hk : k ∈ zs
    · simp [hk]
    · by_cases hg : k ∈ gs
      · simp [hk, hg, hn]
      · simp [hk, hg, hn]
  · have := look_mem a1 hp
    rw [a3] at this
    by_cases hk : p.1 ∈ zs
    · rw [if_pos hk] at this; exact (Option.some.inj this).symm
    · rw [if_neg hk] at this; simp [look] at this

end Go.Proofs.Ytcidmaeclonilaa
