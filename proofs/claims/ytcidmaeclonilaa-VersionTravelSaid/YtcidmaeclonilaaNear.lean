/- The neighbours of a text in a tree, in plain Lean. -/
import Derived.Test.YtcidmaeclonilaaPut
namespace Go.Proofs.Ytcidmaeclonilaa
open Go Go.RowKit

/-- a property that passes on to greater keys -/
def UpP (P : ByteArray → Bool) : Prop := ∀ x y, klt x y = true → P x = true → P y = true
/-- i is where P begins to hold -/
structure Pos (P : ByteArray → Bool) (ks : List ByteArray) (i : Nat) : Prop where
  le : i ≤ ks.length
  lo : ∀ j x, j < i → ks[j]? = some x → P x = false
  hi : ∀ j x, i ≤ j → ks[j]? = some x → P x = true

def fromK (k : ByteArray) (behind : Bool) (x : ByteArray) : Bool := klt k x || (decide (x = k) && !behind)
theorem fromK_up (k : ByteArray) (b : Bool) : UpP (fromK k b) := fun x y h hx => by
  unfold fromK at hx ⊢
  rw [Bool.or_eq_true, Bool.and_eq_true] at hx
  rcases hx with hx | ⟨hx, _⟩
  · rw [klt_trans hx h]; rfl
  · have : x = k := by simpa using hx
    subst this; rw [h]; rfl
/-- what the first, the last pair is for which P holds, does not hold -/
def firstP (P : ByteArray → Bool) (l : List KV) : Option KV := l.find? fun p => P p.1
def lastP (P : ByteArray → Bool) (l : List KV) : Option KV := l.reverse.find? fun p => !P p.1
theorem fromL_eq (k : ByteArray) (b : Bool) (l : List KV) : fromL k b l = firstP (fromK k b) l := rfl
theorem toLst_eq (k : ByteArray) (b : Bool) (l : List KV) : toLst k b l = lastP (fromK k (!b)) l := by
  unfold toLst lastP
  congr 1
  funext p
  unfold toB fromK
  rcases klt_tri p.1 k with h | h | h
  · simp [h, klt_asymm h, klt_ne h]
  · subst h; simp [klt_irrefl]
  · simp [h, klt_asymm h, klt_ne' h]

theorem find_none {P : ByteArray → Bool} {l : List KV} (h : ∀ p ∈ l, P p.1 = false) : l.find? (fun p => P p.1) = none :=
  List.find?_eq_none.2 fun p hp => by simp [h p hp]
theorem rfind_none {P : ByteArray → Bool} {l : List KV} (h : ∀ p ∈ l, P p.1 = true) : l.reverse.find? (fun p => !P p.1) = none :=
  List.find?_eq_none.2 fun p hp => by simp [h p (by simpa using hp)]

theorem first_cut {P : ByteArray → Bool} {A M B : List KV} (hA : ∀ p ∈ A, P p.1 = false) (hB : ∀ p ∈ B, P p.1 = true) : firstP P (A ++ M ++ B) = (firstP P M).or B.head? := by
  unfold firstP
  rw [List.find?_append, List.find?_append, find_none hA, Option.none_or]
  congr 1
  cases B with
  | nil => rfl
  | cons b B => simp [hB b (by simp)]
theorem last_cut {P : ByteArray → Bool} {A M B : List KV} (hA : ∀ p ∈ A, P p.1 = false) (hB : ∀ p ∈ B, P p.1 = true) : lastP P (A ++ M ++ B) = (lastP P M).or A.getLast? := by
  unfold lastP
  rw [List.reverse_append, List.reverse_append, List.find?_append, List.find?_append, rfind_none hB, Option.none_or]
  congr 1
  rw [← List.head?_reverse]
  have hA' : ∀ p ∈ A.reverse, P p.1 = false := fun p hp => hA p (by simpa using hp)
  cases h : A.reverse with
  | nil => rfl
  | cons b B => simp [hA' b (by rw [h]; simp)]

theorem Lf_fail {P : ByteArray → Bool} {h t i} (hP : UpP P) (H : BT (h + 1) t) (hs : Srt (toL (h + 1) t)) (hp : Pos P t.ks i) : (∀ q ∈ Lf h t i, P q.1 = false) ∧ (Lf h t i).getLast? = if i = 0 then none else t.ps[i - 1]? := by
  have hi := hp.le
  cases i with
  | zero => rw [Lf_zero]; exact ⟨fun p hq => (by cases hq), rfl⟩
  | succ i =>
    obtain ⟨c, hc⟩ : ∃ c, t.cs[i + 1]? = some c := ⟨_, List.getElem?_eq_getElem (by rw [H.1]; omega)⟩
    obtain ⟨c0, hc0⟩ : ∃ c, t.cs[i]? = some c := ⟨_, List.getElem?_eq_getElem (by rw [H.1]; omega)⟩
    obtain ⟨v, hv, hpi⟩ := H.ps_get (i := i) (by omega)
    rw [toL_split H hi hc, List.append_assoc] at hs
    have hs' := hs.left
    rw [Lf_succ H (by omega) hc0 hpi] at hs' ⊢
    have h0 := hp.lo i _ (by omega) (List.getElem?_eq_getElem (by omega))
    refine ⟨fun q hq => ?_, by simp [hpi]⟩
    rcases List.mem_append.1 hq with hq | hq
    · have hlt := (Srt.append_iff.1 hs').2.2 q hq (t.ks[i], v) (by simp)
      cases hPq : P q.1 with
      | false => rfl
      | true => have := hP _ _ hlt hPq; rw [h0] at this; cases this
    · obtain rfl : q = (t.ks[i], v) := by simpa using hq
      exact h0
theorem Rt_pass {P : ByteArray → Bool} {h t i} (hP : UpP P) (H : BT (h + 1) t) (hs : Srt (toL (h + 1) t)) (hp : Pos P t.ks i) : (∀ q ∈ Rt h t i, P q.1 = true) ∧ (Rt h t i).head? = t.ps[i]? := by
  have hi := hp.le
  obtain ⟨c, hc⟩ : ∃ c, t.cs[i]? = some c := ⟨_, List.getElem?_eq_getElem (by rw [H.1]; omega)⟩
  rw [toL_split H hi hc] at hs
  have hs' := hs.right
  rcases Nat.lt_or_ge i t.ks.length with hlt | hge
  · obtain ⟨v, hv, hpi⟩ := H.ps_get hlt
    obtain ⟨c1, hc1⟩ : ∃ c, t.cs[i + 1]? = some c := ⟨_, List.getElem?_eq_getElem (by rw [H.1]; omega)⟩
    rw [Rt_cons hc1 hpi] at hs' ⊢
    have h0 := hp.hi i _ (Nat.le_refl _) (List.getElem?_eq_getElem hlt)
    refine ⟨fun q hq => ?_, by simp [hpi]⟩
    rcases List.mem_cons.1 hq with rfl | hq
    · exact h0
    · exact hP _ _ ((List.pairwise_cons.1 hs').1 q hq) h0
  · rw [Rt_end H hge]
    exact ⟨fun p hq => (by cases hq), by rw [List.getElem?_eq_none (by rw [H.ps_len]; exact hge)]; rfl⟩

theorem pos_kid {P : ByteArray → Bool} {h t i c} (hP : UpP P) (H : BT (h + 1) t) (hs : Srt (toL (h + 1) t)) (hp : Pos P t.ks i) (hc : t.cs[i]? = some c) :
    firstP P (toL (h + 1) t) = (firstP P (toL h c)).or t.ps[i]? ∧ lastP P (toL (h + 1) t) = (lastP P (toL h c)).or (if i = 0 then none else t.ps[i - 1]?) := by
  have hl := Lf_fail hP H hs hp
  have hr := Rt_pass hP H hs hp
  rw [toL_split H hp.le hc]
  exact ⟨by rw [first_cut hl.1 hr.1, hr.2], by rw [last_cut hl.1 hr.1, hl.2]⟩
theorem pos_leaf {P : ByteArray → Bool} {t i} (H : BT 0 t) (hp : Pos P t.ks i) :
    firstP P (toL 0 t) = t.ps[i]? ∧ lastP P (toL 0 t) = (if i = 0 then none else t.ps[i - 1]?) := by
  have hl : t.ps = t.ps.take i ++ [] ++ t.ps.drop i := by simp
  have key : ∀ (j : Nat) (p : KV), t.ps[j]? = some p → t.ks[j]? = some p.1 := fun j p hj => by
    unfold GT.ps at hj
    rw [List.getElem?_zip_eq_some] at hj
    exact hj.1
  have hA : ∀ p ∈ t.ps.take i, P p.1 = false := fun p hm => by
    obtain ⟨j, hj⟩ := List.mem_iff_getElem?.1 hm
    have hlt : j < i := by have := (List.getElem?_eq_some_iff.1 hj).1; simp at this; omega
    rw [List.getElem?_take_of_lt hlt] at hj
    exact hp.lo j _ hlt (key j p hj)
  have hB : ∀ p ∈ t.ps.drop i, P p.1 = true := fun p hm => by
    obtain ⟨j, hj⟩ := List.mem_iff_getElem?.1 hm
    rw [List.getElem?_drop] at hj
    exact hp.hi (i + j) _ (by omega) (key _ p hj)
  show firstP P t.ps = _ ∧ lastP P t.ps = _
  rw [hl, first_cut hA hB, last_cut hA hB, ← hl]
  refine ⟨by simp [firstP], ?_⟩
  have hle := hp.le
  rw [← H.ps_len] at hle
  cases i with
  | zero => simp [lastP]
  | succ i => simp [lastP, List.getLast?_eq_getElem?, Nat.min_eq_left hle]

theorem ps_mem {h t} (H : BT h t) {i : Nat} {k : ByteArray} {v : Value} (hk : t.ks[i]? = some k) (hv : t.vs[i]? = some v) : (k, v) ∈ toL h t := by
  have hpi : t.ps[i]? = some (k, v) := by
    unfold GT.ps; rw [List.getElem?_zip_eq_some]; exact ⟨hk, hv⟩
  cases h with
  | zero => exact List.mem_of_getElem? hpi
  | succ h =>
    have hlt := (List.getElem?_eq_some_iff.1 hk).1
    obtain ⟨c, hc⟩ : ∃ c, t.cs[i]? = some c := ⟨_, List.getElem?_eq_getElem (by have := H.1; omega)⟩
    obtain ⟨c1, hc1⟩ : ∃ c, t.cs[i + 1]? = some c := ⟨_, List.getElem?_eq_getElem (by have := H.1; omega)⟩
    rw [toL_split H (by omega) hc, Rt_cons hc1 hpi]
    simp
theorem srt_split {l : List KV} (hs : Srt l) {p : KV} (hm : p ∈ l) : ∃ A B, l = A ++ p :: B ∧ AllLt A p.1 ∧ AllGt B p.1 := by
  obtain ⟨A, B, rfl⟩ := List.append_of_mem hm
  have := Srt.append_iff.1 hs
  exact ⟨A, B, rfl, fun q hq => this.2.2 q hq p (by simp), fun q hq => (List.pairwise_cons.1 this.2.1).1 q hq⟩
/-- the pair itself is the first from its key on, and the last up to it -/
theorem from_here {l : List KV} (hs : Srt l) {p : KV} (hm : p ∈ l) : fromL p.1 false l = some p ∧ toLst p.1 false l = some p ∧ look p.1 l = some p.2 := by
  obtain ⟨A, B, rfl, hA, hB⟩ := srt_split hs hm
  refine ⟨?_, ?_, look_here hA⟩
  · have := first_cut (P := fromK p.1 false) (A := A) (M := []) (B := p :: B) (fun q hq => by simp [fromK, klt_asymm (hA q hq), klt_ne (hA q hq)]) (fun q hq => by
      rcases List.mem_cons.1 hq with rfl | hq
      · simp [fromK]
      · simp [fromK, hB q hq])
    rw [fromL_eq]; simpa [firstP] using this
  · have := last_cut (P := fromK p.1 true) (A := A ++ [p]) (M := []) (B := B) (fun q hq => by
      rcases List.mem_append.1 hq with hq | hq
      · simp [fromK, klt_asymm (hA q hq)]
      · obtain rfl : q = p := by simpa using hq
        simp [fromK, klt_irrefl]) (fun q hq => by simp [fromK, hB q hq])
    rw [toLst_eq]; simpa [lastP] using this

/-- what find tells, and what From, To make of it -/
theorem pos_of_plc {key : ByteArray} {ks : List ByteArray} {i : Nat} (hs : KSrt ks) (hp : Plc key ks i) (b : Bool) (hf : ks[i]? = some key → b = false) : Pos (fromK key b) ks i :=
  ⟨hp.le, fun j x hj hx => by have := hp.lt j x hj hx; simp [fromK, klt_asymm this, klt_ne this], fun j x hj hx => by
    by_cases he : x = key
    · subst he
      have hij : j = i := by
        rcases Nat.lt_or_ge i j with h | h
        · have hi : i < ks.length := by have := (List.getElem?_eq_some_iff.1 hx).1; omega
          obtain ⟨hj', rfl⟩ := List.getElem?_eq_some_iff.1 hx
          have h1 := (List.pairwise_iff_getElem.1 hs) i j hi hj' h
          have h2 := hp.ge i _ (Nat.le_refl _) (List.getElem?_eq_getElem hi)
          rw [h1] at h2; cases h2
        · omega
      subst hij
      simp [fromK, hf hx]
    · simp [fromK, hp.gt hj hx he]⟩
theorem pos_succ {key : ByteArray} {ks : List ByteArray} {i : Nat} (hs : KSrt ks) (hf : ks[i]? = some key) : Pos (fromK key true) ks (i + 1) := by
  obtain ⟨hi, hk⟩ := List.getElem?_eq_some_iff.1 hf
  refine ⟨hi, fun j x hj hx => ?_, fun j x hj hx => ?_⟩
  · obtain ⟨hj', rfl⟩ := List.getElem?_eq_some_iff.1 hx
    rcases Nat.lt_or_ge j i with h | h
    · have h1 := (List.pairwise_iff_getElem.1 hs) j i hj' hi h
      rw [hk] at h1
      simp [fromK, klt_asymm h1]
    · obtain rfl : j = i := by omega
      rw [hk]; simp [fromK, klt_irrefl]
  · obtain ⟨hj', rfl⟩ := List.getElem?_eq_some_iff.1 hx
    have h1 := (List.pairwise_iff_getElem.1 hs) i j hi hj' (by omega)
    rw [hk] at h1
    simp [fromK, h1]

/-- the last pair -/
theorem last_kid {h t c} (H : BT (h + 1) t) (hc : t.cs[t.ks.length]? = some c) (hne : toL h c ≠ []) : (toL (h + 1) t).getLast? = (toL h c).getLast? := by
  rw [toL_split H (Nat.le_refl _) hc, Rt_end H (Nat.le_refl _), List.append_nil, List.getLast?_append]
  cases hx : (toL h c).getLast? with
  | none => exact absurd (List.getLast?_eq_none_iff.1 hx) hne
  | some p => rfl
theorem toL_ne {h t} (H : BT h t) (h0 : 0 < t.ks.length) : toL h t ≠ [] := fun e => by
  obtain ⟨v, hv, -⟩ := H.ps_get h0
  have := ps_mem H (List.getElem?_eq_getElem h0) hv
  rw [e] at this; cases this
theorem last_leaf {t} (H : BT 0 t) : (toL 0 t).getLast? = t.ps[t.ks.length - 1]? := by
  show t.ps.getLast? = _
  rw [List.getLast?_eq_getElem?, H.ps_len]
theorem last_leafN {t : GT} {m : Nat} {k : ByteArray} {v : Value} (H : BT 0 t) (hm : t.ks.length = m + 1) (hk : t.ks[m]? = some k) (hv : t.vs[m]? = some v) : (toL 0 t).getLast? = some (k, v) := by
  rw [last_leaf H, hm]
  show (t.ks.zip t.vs)[m]? = _
  rw [List.getElem?_zip_eq_some]; exact ⟨hk, hv⟩
theorem vs_get {h : Nat} {t : GT} (H : BT h t) {i : Nat} {k : ByteArray} (hk : t.ks[i]? = some k) : ∃ v, t.vs[i]? = some v ∧ t.ps[i]? = some (k, v) := by
  obtain ⟨hlt, rfl⟩ := List.getElem?_eq_some_iff.1 hk
  exact H.ps_get hlt
theorem hit_get {h : Nat} {t : GT} (H : BT h t) (hs : Srt (toL h t)) {i : Nat} {key k : ByteArray} {v : Value} (hf : t.ks[i]? = some key) (hk : t.ks[i]? = some k) (hv : t.vs[i]? = some v) : fromL key false (toL h t) = some (k, v) ∧ toLst key false (toL h t) = some (k, v) ∧ k = key := by
  obtain rfl : k = key := by rw [hf] at hk; exact (Option.some.inj hk).symm
  have := from_here hs (ps_mem H hk hv)
  exact ⟨this.1, this.2.1, rfl⟩

theorem wpList_append_runI {P : Program} (w : World) {ops : Array Oper} {rest : List Oper} {o : Oper} {a : Act} {Q : Exit → Act → World → Prop} (hgd : o.guard = none) (d s : Operand) (t t' : TypeId)
    (ho : o.op = .call { callee := .builtin .append, args := #[d, s], argTypes := #[t, t'] }) (v u : Value) (hd : a.eval d = v) (hs : a.eval s = u) {v' : Value} {w' : World}
    (hr : (Builtin.append_ #[t, t'] o.type #[v, u]).run P w = .ok v' w') (h : wpList P ops Q rest (a.put o.dst v') w') : wpList P ops Q (o :: rest) a w :=
  wpList_plain hgd fun K hK => by
    unfold Oper.wp execOp
    simp only [ho, resolve, invoke, builtin, Sem.run_bind, Sem.run_pure, Result.andThen_ok, List.map_toArray, List.map_cons, List.map_nil, hd, hs, hr]
    exact hK _ _ h

theorem klt_empty (x : ByteArray) : klt x ⟨#[]⟩ = false := by
  unfold klt
  have : (⟨#[]⟩ : ByteArray).toList = [] := by
    unfold ByteArray.toList
    unfold ByteArray.toList.loop
    rfl
  rw [this]
  cases x.toList <;> rfl
theorem fromL_first (l : List KV) : fromL ⟨#[]⟩ false l = l.head? := by
  cases l with
  | nil => rfl
  | cons p l =>
    have : fromB ⟨#[]⟩ false p = true := by
      unfold fromB
      rcases klt_tri p.1 ⟨#[]⟩ with h | h | h
      · rw [klt_empty] at h; cases h
      · simp [h]
      · simp [h]
    simp [fromL, this]
theorem look_from {l : List KV} (hs : Srt l) (key : ByteArray) : look key l = match fromL key false l with | some p => if p.1 = key then some p.2 else none | none => none := by
  cases h : fromL key false l with
  | none =>
    have := List.find?_eq_none.1 h
    have hn : l.find? (fun p => decide (p.1 = key)) = none := List.find?_eq_none.2 fun p hp hk => this p hp (by
      have hk' : p.1 = key := by simpa using hk
      subst hk'; simp [fromB])
    simp [look, hn]
  | some p =>
    have hm := List.mem_of_find?_eq_some h
    simp only
    by_cases hk : p.1 = key
    · subst hk
      rw [if_pos rfl]; exact (from_here hs hm).2.2
    · rw [if_neg hk]
      cases hl : look key l with
      | none => rfl
      | some v =>
        unfold look at hl
        cases hq : l.find? (fun p => decide (p.1 = key)) with
        | none => rw [hq] at hl; cases hl
        | some q =>
          have hqk : q.1 = key := by simpa using List.find?_some hq
          have := (from_here hs (List.mem_of_find?_eq_some hq)).1
          rw [hqk, h] at this
          exact absurd (by rw [Option.some.inj this]; exact hqk) hk
/-- from a key on, behind it: the next one -/
theorem from_next {l : List KV} (hs : Srt l) {n : Nat} {p : KV} (hp : l[n]? = some p) : fromL p.1 true l = l[n + 1]? := by
  obtain ⟨hlt, rfl⟩ := List.getElem?_eq_some_iff.1 hp
  have hl := split_at hp
  have hs' := hs
  rw [hl] at hs'
  have h1 := Srt.append_iff.1 hs'
  have := first_cut (P := fromK l[n].1 true) (A := l.take n ++ [l[n]]) (M := []) (B := l.drop (n + 1)) (fun q hq => by
    rcases List.mem_append.1 hq with hq | hq
    · have := h1.2.2 q hq l[n] (List.mem_cons_self ..)
      simp [fromK, klt_asymm this]
    · obtain rfl : q = l[n] := by simpa using hq
      simp [fromK, klt_irrefl]) (fun q hq => by simp [fromK, (List.pairwise_cons.1 h1.2.1).1 q hq])
  rw [List.append_nil, List.append_assoc, List.singleton_append, ← hl] at this
  rw [fromL_eq, this]
  simp [firstP]
theorem to_next {l : List KV} (hs : Srt l) {n : Nat} {p : KV} (hp : l[n]? = some p) : toLst p.1 true l = if n = 0 then none else l[n - 1]? := by
  obtain ⟨hlt, rfl⟩ := List.getElem?_eq_some_iff.1 hp
  have hl := split_at hp
  have hs' := hs
  rw [hl] at hs'
  have h1 := Srt.append_iff.1 hs'
  have := last_cut (P := fromK l[n].1 (!true)) (A := l.take n) (M := []) (B := l[n] :: l.drop (n + 1)) (fun q hq => by
      have := h1.2.2 q hq l[n] (List.mem_cons_self ..)
      simp [fromK, klt_asymm this, klt_ne this]) (fun q hq => by
    rcases List.mem_cons.1 hq with rfl | hq
    · simp [fromK]
    · simp [fromK, (List.pairwise_cons.1 h1.2.1).1 q hq])
  rw [List.append_nil, ← hl] at this
  rw [toLst_eq, this]
  cases n with
  | zero => simp [lastP]
  | succ n => simp [lastP, List.getLast?_eq_getElem?, Nat.min_eq_left (Nat.le_of_lt hlt)]

theorem mem_wr {α : Type} {p : α} : ∀ {X : List α} {A : List (List α)}, p ∈ wr X A → p ∈ X ∨ ∃ a ∈ A, p ∈ a
  | [], _, h => by cases h
  | _ :: _, [], h => by cases h
  | x :: X, a :: A, h => by
    rcases List.mem_cons.1 (show p ∈ x :: (a ++ wr X A) from h) with rfl | h
    · exact .inl (by simp)
    · rcases List.mem_append.1 h with h | h
      · exact .inr ⟨a, by simp, h⟩
      · rcases mem_wr h with h | ⟨b, hb, h⟩
        · exact .inl (by simp [h])
        · exact .inr ⟨b, by simp [hb], h⟩
theorem mem_weave {α : Type} {p : α} {A : List (List α)} {X : List α} (h : p ∈ weave A X) : (∃ a ∈ A, p ∈ a) ∨ p ∈ X := by
  cases A with
  | nil => exact .inr h
  | cons a A =>
    rcases List.mem_append.1 (show p ∈ a ++ wr X A from h) with h | h
    · exact .inl ⟨a, by simp, h⟩
    · rcases mem_wr h with h | ⟨b, hb, h⟩
      · exact .inr h
      · exact .inl ⟨b, by simp [hb], h⟩

end Go.Proofs.Ytcidmaeclonilaa
