/- A few nodes at hand, and all else that must stay: what each piece of work does to them. -/
import Derived.Test.YtcidmaeclonilaaRep
namespace Go.Proofs.Ytcidmaeclonilaa
open Go Go.RowKit

/-- a node as it lies: its block, its three slices, and what they hold -/
structure RN where
  b : Nat
  kv : Value
  vv : Value
  cv : Value
  ks : List Value
  vs : List Value
  ps : List Value
def RN.own (n : RN) : List Nat := n.b :: (ob n.kv ++ (ob n.vv ++ ob n.cv))

structure NodR (T : Tys) (W : World) (n : RN) : Prop where
  blk : Blk W n.b T.nd #[n.kv, n.vv, n.cv]
  kr : Row W 9 n.kv n.ks
  vr : Row W T.val n.vv n.vs
  cr : Row W T.kid n.cv n.ps
  kS : ∀ u ∈ n.ks, StrV u
  vS : ∀ u ∈ n.vs, T.isV u
  pS : ∀ u ∈ n.ps, PtrV u

theorem NodR.lt {T : Tys} {W : World} {n : RN} (H : NodR T W n) : ∀ k ∈ n.own, k < W.heap.size := by
  intro k hk
  rcases List.mem_cons.1 hk with rfl | hk
  · exact H.blk.lt
  · rcases List.mem_append.1 hk with hk | hk
    · exact H.kr.lt k hk
    · rcases List.mem_append.1 hk with hk | hk
      · exact H.vr.lt k hk
      · exact H.cr.lt k hk
theorem NodR.kept {T : Tys} {W W' : World} {n : RN} (H : NodR T W n) (hk : ∀ k ∈ n.own, W'.heap[k]? = W.heap[k]?) : NodR T W' n :=
  ⟨(hk n.b (by simp [RN.own])).trans H.blk, H.kr.kept fun k hm => hk k (by simp [RN.own, hm]), H.vr.kept fun k hm => hk k (by simp [RN.own, hm]), H.cr.kept fun k hm => hk k (by simp [RN.own, hm]), H.kS, H.vS, H.pS⟩

/-- the blocks of some nodes -/
def owns (l : List RN) : List Nat := (l.map RN.own).flatten
@[simp] theorem owns_nil : owns [] = [] := rfl
@[simp] theorem owns_cons (n : RN) (l : List RN) : owns (n :: l) = n.own ++ owns l := rfl
@[simp] theorem owns_append (l m : List RN) : owns (l ++ m) = owns l ++ owns m := by simp [owns]
theorem own_sub_owns {n : RN} {l : List RN} (h : n ∈ l) : ∀ k ∈ n.own, k ∈ owns l := fun _ hk => List.mem_flatten.2 ⟨_, List.mem_map.2 ⟨n, h, rfl⟩, hk⟩

/-- nodes l at hand in W; of what was there in w only blocks of L may have changed, none of F -/
structure Nds (T : Tys) (L F : List Nat) (w W : World) (l : List RN) : Prop where
  nod : ∀ n ∈ l, NodR T W n
  sep : ∀ k, (owns l).count k + F.count k ≤ 1
  fr : ∀ k ∈ F, k < w.heap.size ∧ W.heap[k]? = w.heap[k]?
  chg : Chg L w W
  new : ∀ k ∈ owns l, k ∈ L ∨ w.heap.size ≤ k

section
variable {T : Tys} {L F : List Nat} {w W W' : World} {l A B : List RN} {n : RN}

theorem Nds.F_lt (H : Nds T L F w W l) {k : Nat} (hk : k ∈ F) : k < W.heap.size := Nat.lt_of_lt_of_le (H.fr k hk).1 H.chg.size

/-- nothing at hand has changed -/
theorem Nds.keep (H : Nds T L F w W l) (hg : Chg [] W W') : Nds T L F w W' l :=
  ⟨fun n hn => (H.nod n hn).kept fun k hk => hg.block k ((H.nod n hn).lt k hk) (by simp), H.sep, fun k hk => ⟨(H.fr k hk).1, (hg.block k (H.F_lt hk) (by simp)).trans (H.fr k hk).2⟩, H.chg.trans hg (by simp), H.new⟩
theorem Nds.drew (H : Nds T L F w W l) : Nds T L F w W.drew l := H.keep (Chg.refl _ _).drew
theorem Nds.drewN (H : Nds T L F w W l) (n : Nat) : Nds T L F w (W.drewN n) l := H.keep ((Chg.refl _ _).drewN n)
theorem Nds.alloc (H : Nds T L F w W l) (o : Obj) : Nds T L F w (W.alloc o) l := H.keep ((Chg.refl _ _).alloc o)
theorem Nds.below (H : Nds T L F w W l) (hb : Below W.heap.size W W') : Nds T L F w W' l := H.keep (Chg.of_below hb)

/-- a new node -/
theorem Nds.add (H : Nds T L F w W l) (hn : NodR T W n) (hs : ∀ k, n.own.count k ≤ 1) (hnew : ∀ k ∈ n.own, w.heap.size ≤ k ∧ k ∉ owns l) : Nds T L F w W (n :: l) :=
  ⟨fun m hm => by
    rcases List.mem_cons.1 hm with rfl | hm
    · exact hn
    · exact H.nod m hm, fun k => by
    have h1 := H.sep k
    have h2 := hs k
    rw [owns_cons, List.count_append]
    by_cases hk : k ∈ n.own
    · have h3 := hnew k hk
      have z1 : (owns l).count k = 0 := List.count_eq_zero.2 h3.2
      have z2 : F.count k = 0 := List.count_eq_zero.2 (fun hF => by have := (H.fr k hF).1; omega)
      omega
    · rw [List.count_eq_zero.2 hk]; omega, H.fr, H.chg, fun k hk => by
    rw [owns_cons] at hk
    rcases List.mem_append.1 hk with hk | hk
    · exact .inr (hnew k hk).1
    · exact H.new k hk⟩

theorem Nds.perm (H : Nds T L F w W l) {l' : List RN} (hp : l.Perm l') : Nds T L F w W l' :=
  ⟨fun n hn => H.nod n (hp.mem_iff.2 hn), fun k => by
    have h1 := H.sep k
    have : (owns l').count k = (owns l).count k := List.Perm.count_eq (List.Perm.flatten (hp.symm.map _)) k
    rw [this]; exact h1, H.fr, H.chg, fun k hk => H.new k ((List.Perm.flatten (hp.symm.map RN.own)).mem_iff.1 hk)⟩

theorem count_own (n : RN) (k : Nat) : n.own.count k = (if n.b = k then 1 else 0) + (ob n.kv).count k + (ob n.vv).count k + (ob n.cv).count k := by
  unfold RN.own
  rw [List.count_cons, List.count_append, List.count_append]
  simp only [beq_iff_eq]
  omega

/-- what one piece of work leaves of the others: a change in the node's own blocks L0 alone -/
theorem Nds.others (H : Nds T L F w W (n :: l)) {L0 : List Nat} (hL : ∀ k ∈ L0, k ∈ n.own) (hg : Chg L0 W W') :
    (∀ m ∈ l, NodR T W' m) ∧ (∀ k ∈ F, k < w.heap.size ∧ W'.heap[k]? = w.heap[k]?) ∧ Chg L w W' := by
  have hno : ∀ k, k ∈ L0 → k ∉ owns l ∧ k ∉ F := fun k hk => by
    have h0 := H.sep k
    rw [owns_cons, List.count_append] at h0
    have h1 := List.count_pos_iff.2 (hL k hk)
    exact ⟨fun h => by have := List.count_pos_iff.2 h; omega, fun h => by have := List.count_pos_iff.2 h; omega⟩
  refine ⟨fun m hm => (H.nod m (List.mem_cons_of_mem _ hm)).kept fun k hk => hg.block k ((H.nod m (List.mem_cons_of_mem _ hm)).lt k hk) (fun h => (hno k h).1 (own_sub_owns hm k hk)),
    fun k hk => ⟨(H.fr k hk).1, (hg.block k (H.F_lt hk) (fun h => (hno k h).2 hk)).trans (H.fr k hk).2⟩, H.chg.trans hg fun x hx => H.new x (by rw [owns_cons]; exact List.mem_append_left _ (hL x hx))⟩

/-- the first node is another one now, in its own blocks and new ones -/
theorem Nds.turn (H : Nds T L F w W (n :: l)) {L0 : List Nat} (hL : ∀ k ∈ L0, k ∈ n.own) (hg : Chg L0 W W') {n' : RN} (hn : NodR T W' n') (hs : ∀ k, n'.own.count k ≤ 1) (hsub : ∀ k ∈ n'.own, k ∈ n.own ∨ W.heap.size ≤ k) :
    Nds T L F w W' (n' :: l) := by
  obtain ⟨h1, h2, h3⟩ := H.others hL hg
  refine ⟨fun m hm => ?_, fun k => ?_, h2, h3, fun k hk => ?_⟩
  · rcases List.mem_cons.1 hm with rfl | hm
    · exact hn
    · exact h1 m hm
  · have h0 := H.sep k
    have hk1 := hs k
    rw [owns_cons, List.count_append] at h0 ⊢
    by_cases hk : k ∈ n'.own
    · rcases hsub k hk with hm | hge
      · have := List.count_pos_iff.2 hm
        omega
      · have hz1 : (owns l).count k = 0 := List.count_eq_zero.2 fun h => by
          obtain ⟨o, ho, hko⟩ := List.mem_flatten.1 h
          obtain ⟨m, hm, rfl⟩ := List.mem_map.1 ho
          have := (H.nod m (List.mem_cons_of_mem _ hm)).lt k hko
          omega
        have hz2 : F.count k = 0 := List.count_eq_zero.2 fun h => by have := H.F_lt h; omega
        omega
    · rw [List.count_eq_zero.2 hk]; omega
  · rw [owns_cons] at hk
    rcases List.mem_append.1 hk with hk | hk
    · rcases hsub k hk with hm | hge
      · exact H.new k (by rw [owns_cons]; exact List.mem_append_left _ hm)
      · exact .inr (Nat.le_trans H.chg.size hge)
    · exact H.new k (by rw [owns_cons]; exact List.mem_append_right _ hk)

theorem sep_own (H : Nds T L F w W (n :: l)) (k : Nat) : n.own.count k ≤ 1 := by
  have h0 := H.sep k
  rw [owns_cons, List.count_append] at h0
  omega

theorem ob_le (v : Value) (k : Nat) : (ob v).count k ≤ 1 := by
  unfold ob
  cases v.ownBlock with
  | none => simp
  | some j => simp only [Option.toList_some, List.count_singleton]; split <;> omega

/-- where the new slice of a node lies -/
theorem turn_own {W : World} {v v' : Value} (hown : OwnNew W v v') : ∀ k, k ∈ ob v' → k ∈ ob v ∨ W.heap.size ≤ k := by
  intro k hk
  rcases hown with h | ⟨q, h, hq⟩
  · exact .inl (h ▸ hk)
  · rw [h] at hk; obtain rfl : k = q := by simpa using hk
    exact .inr hq

theorem blk_set3 {W : World} {b : Nat} {t : TypeId} {x y z u : Value} (h : Blk W b t #[x, y, z]) :
    Blk (W.setCell ⟨b, 0, none⟩ u) b t #[u, y, z] ∧ Blk (W.setCell ⟨b, 1, none⟩ u) b t #[x, u, z] ∧ Blk (W.setCell ⟨b, 2, none⟩ u) b t #[x, y, u] := ⟨h.set_ 0 u, h.set_ 1 u, h.set_ 2 u⟩

/-- facts on a node's blocks being apart -/
theorem own_apart (h : ∀ k, n.own.count k ≤ 1) : n.b ∉ ob n.kv ∧ n.b ∉ ob n.vv ∧ n.b ∉ ob n.cv ∧ (∀ k ∈ ob n.kv, k ∉ ob n.vv) ∧ (∀ k ∈ ob n.kv, k ∉ ob n.cv) ∧ (∀ k ∈ ob n.vv, k ∉ ob n.cv) := by
  have hc : ∀ k, (if n.b = k then 1 else 0) + (ob n.kv).count k + (ob n.vv).count k + (ob n.cv).count k ≤ 1 := fun k => by rw [← count_own]; exact h k
  refine ⟨fun hm => ?_, fun hm => ?_, fun hm => ?_, fun k h1 h2 => ?_, fun k h1 h2 => ?_, fun k h1 h2 => ?_⟩
  · have := hc n.b; have := List.count_pos_iff.2 hm; simp only [if_true] at *; omega
  · have := hc n.b; have := List.count_pos_iff.2 hm; simp only [if_true] at *; omega
  · have := hc n.b; have := List.count_pos_iff.2 hm; simp only [if_true] at *; omega
  · have := hc k; have := List.count_pos_iff.2 h1; have := List.count_pos_iff.2 h2; omega
  · have := hc k; have := List.count_pos_iff.2 h1; have := List.count_pos_iff.2 h2; omega
  · have := hc k; have := List.count_pos_iff.2 h1; have := List.count_pos_iff.2 h2; omega

/-- the keys' slice is another one now: the call has turned its block, then the field is set -/
theorem Nds.slotK (H : Nds T L F w W (n :: l)) {kv' : Value} {ks' : List Value} (hg : Chg (ob n.kv) W W') (hr : Row W' 9 kv' ks') (hok : ∀ u ∈ ks', StrV u) (hown : OwnNew W n.kv kv') :
    Nds T L F w (W'.setCell ⟨n.b, 0, none⟩ kv') ({ n with kv := kv', ks := ks' } :: l) := by
  obtain ⟨a1, a2, a3, a4, a5, a6⟩ := own_apart (sep_own H)
  have hN := H.nod n (by simp)
  have hbb : n.b ∉ ob kv' := fun h => (turn_own hown _ h).elim a1 (fun e => by have := hN.blk.lt; omega)
  refine H.turn (L0 := n.b :: ob n.kv) (fun k hk => by
    rcases List.mem_cons.1 hk with rfl | hk
    · simp [RN.own]
    · simp [RN.own, hk]) ((hg.mono (fun x hx => .inl (List.mem_cons_of_mem _ hx))).setCell (.inl (by simp)) _) ⟨?_, ?_, ?_, ?_, hok, hN.vS, hN.pS⟩ ?_ ?_
  · exact (blk_set3 (hN.blk.chg hg a1)).1
  · exact hr.setCell hbb _
  · exact (hN.vr.chg hg (fun k h1 h2 => a4 k h2 h1)).setCell a2 _
  · exact (hN.cr.chg hg (fun k h1 h2 => a5 k h2 h1)).setCell a3 _
  · intro k
    have h0 := sep_own H k
    rw [count_own] at h0 ⊢
    show (if n.b = k then 1 else 0) + (ob kv').count k + (ob n.vv).count k + (ob n.cv).count k ≤ 1
    rcases hown with e | ⟨q, e, hq⟩
    · rw [e]; exact h0
    · rw [e]
      by_cases hk : q = k
      · subst hk
        have z1 : ¬ n.b = q := fun e => by have := hN.blk.lt; omega
        have z2 : (ob n.vv).count q = 0 := List.count_eq_zero.2 fun h => by have := hN.vr.lt _ h; omega
        have z3 : (ob n.cv).count q = 0 := List.count_eq_zero.2 fun h => by have := hN.cr.lt _ h; omega
        rw [if_neg z1, z2, z3]; simp
      · rw [List.count_eq_zero.2 (show k ∉ [q] by simpa using fun e => hk e.symm)]; omega
  · intro k hk
    rcases List.mem_cons.1 hk with rfl | hk
    · exact .inl (by simp [RN.own])
    · rcases List.mem_append.1 hk with hk | hk
      · exact (turn_own hown k hk).imp (fun h => by simp [RN.own, h]) (fun h => by omega)
      · exact .inl (List.mem_cons_of_mem _ (List.mem_append_right _ hk))

theorem Nds.slotV (H : Nds T L F w W (n :: l)) {vv' : Value} {vs' : List Value} (hg : Chg (ob n.vv) W W') (hr : Row W' T.val vv' vs') (hok : ∀ u ∈ vs', T.isV u) (hown : OwnNew W n.vv vv') :
    Nds T L F w (W'.setCell ⟨n.b, 1, none⟩ vv') ({ n with vv := vv', vs := vs' } :: l) := by
  obtain ⟨a1, a2, a3, a4, a5, a6⟩ := own_apart (sep_own H)
  have hN := H.nod n (by simp)
  have hbb : n.b ∉ ob vv' := fun h => (turn_own hown _ h).elim a2 (fun e => by have := hN.blk.lt; omega)
  refine H.turn (L0 := n.b :: ob n.vv) (fun k hk => by
    rcases List.mem_cons.1 hk with rfl | hk
    · simp [RN.own]
    · simp [RN.own, hk]) ((hg.mono (fun x hx => .inl (List.mem_cons_of_mem _ hx))).setCell (.inl (by simp)) _) ⟨?_, ?_, ?_, ?_, hN.kS, hok, hN.pS⟩ ?_ ?_
  · exact (blk_set3 (hN.blk.chg hg a2)).2.1
  · exact (hN.kr.chg hg (fun k h1 h2 => a4 k h1 h2)).setCell a1 _
  · exact hr.setCell hbb _
  · exact (hN.cr.chg hg (fun k h1 h2 => a6 k h2 h1)).setCell a3 _
  · intro k
    have h0 := sep_own H k
    rw [count_own] at h0 ⊢
    show (if n.b = k then 1 else 0) + (ob n.kv).count k + (ob vv').count k + (ob n.cv).count k ≤ 1
    rcases hown with e | ⟨q, e, hq⟩
    · rw [e]; exact h0
    · rw [e]
      by_cases hk : q = k
      · subst hk
        have z1 : ¬ n.b = q := fun e => by have := hN.blk.lt; omega
        have z2 : (ob n.kv).count q = 0 := List.count_eq_zero.2 fun h => by have := hN.kr.lt _ h; omega
        have z3 : (ob n.cv).count q = 0 := List.count_eq_zero.2 fun h => by have := hN.cr.lt _ h; omega
        rw [if_neg z1, z2, z3]; simp
      · rw [List.count_eq_zero.2 (show k ∉ [q] by simpa using fun e => hk e.symm)]; omega
  · intro k hk
    rcases List.mem_cons.1 hk with rfl | hk
    · exact .inl (by simp [RN.own])
    · rcases List.mem_append.1 hk with hk | hk
      · exact .inl (by simp [RN.own]; exact .inr (.inl hk))
      · rcases List.mem_append.1 hk with hk | hk
        · exact (turn_own hown k hk).imp (fun h => by simp [RN.own, h]) (fun h => by omega)
        · exact .inl (by simp [RN.own]; exact .inr (.inr (.inr hk)))

theorem Nds.slotC (H : Nds T L F w W (n :: l)) {cv' : Value} {ps' : List Value} (hg : Chg (ob n.cv) W W') (hr : Row W' T.kid cv' ps') (hok : ∀ u ∈ ps', PtrV u) (hown : OwnNew W n.cv cv') :
    Nds T L F w (W'.setCell ⟨n.b, 2, none⟩ cv') ({ n with cv := cv', ps := ps' } :: l) := by
  obtain ⟨a1, a2, a3, a4, a5, a6⟩ := own_apart (sep_own H)
  have hN := H.nod n (by simp)
  have hbb : n.b ∉ ob cv' := fun h => (turn_own hown _ h).elim a3 (fun e => by have := hN.blk.lt; omega)
  refine H.turn (L0 := n.b :: ob n.cv) (fun k hk => by
    rcases List.mem_cons.1 hk with rfl | hk
    · simp [RN.own]
    · simp [RN.own, hk]) ((hg.mono (fun x hx => .inl (List.mem_cons_of_mem _ hx))).setCell (.inl (by simp)) _) ⟨?_, ?_, ?_, ?_, hN.kS, hN.vS, hok⟩ ?_ ?_
  · exact (blk_set3 (hN.blk.chg hg a3)).2.2
  · exact (hN.kr.chg hg (fun k h1 h2 => a5 k h1 h2)).setCell a1 _
  · exact (hN.vr.chg hg (fun k h1 h2 => a6 k h1 h2)).setCell a2 _
  · exact hr.setCell hbb _
  · intro k
    have h0 := sep_own H k
    rw [count_own] at h0 ⊢
    show (if n.b = k then 1 else 0) + (ob n.kv).count k + (ob n.vv).count k + (ob cv').count k ≤ 1
    rcases hown with e | ⟨q, e, hq⟩
    · rw [e]; exact h0
    · rw [e]
      by_cases hk : q = k
      · subst hk
        have z1 : ¬ n.b = q := fun e => by have := hN.blk.lt; omega
        have z2 : (ob n.kv).count q = 0 := List.count_eq_zero.2 fun h => by have := hN.kr.lt _ h; omega
        have z3 : (ob n.vv).count q = 0 := List.count_eq_zero.2 fun h => by have := hN.vr.lt _ h; omega
        rw [if_neg z1, z2, z3]; simp
      · rw [List.count_eq_zero.2 (show k ∉ [q] by simpa using fun e => hk e.symm)]; omega
  · intro k hk
    rcases List.mem_cons.1 hk with rfl | hk
    · exact .inl (by simp [RN.own])
    · rcases List.mem_append.1 hk with hk | hk
      · exact .inl (by simp [RN.own]; exact .inr (.inl hk))
      · rcases List.mem_append.1 hk with hk | hk
        · exact .inl (by simp [RN.own]; exact .inr (.inr (.inl hk)))
        · exact (turn_own hown k hk).imp (fun h => by simp [RN.own, h]) (fun h => by omega)
end

/-- behind a call that turned a slice of the first node alone: its fields and the other nodes are as they were -/
theorem Nds.mid {T : Tys} {L F : List Nat} {w W W' : World} {l : List RN} {n : RN} (H : Nds T L F w W (n :: l)) {v : Value} (hv : v = n.kv ∨ v = n.vv ∨ v = n.cv) (hg : Chg (ob v) W W') :
    Blk W' n.b T.nd #[n.kv, n.vv, n.cv] ∧ ∀ m ∈ l, NodR T W' m := by
  obtain ⟨a1, a2, a3, a4, a5, a6⟩ := own_apart (sep_own H)
  have hN := H.nod n (by simp)
  refine ⟨hN.blk.chg hg ?_, (H.others (L0 := ob v) (fun k hk => ?_) hg).1⟩
  · rcases hv with rfl | rfl | rfl <;> assumption
  · rcases hv with rfl | rfl | rfl <;> simp [RN.own, hk]

theorem NodR.kcell {T : Tys} {W : World} {b g n c : Nat} {vv cv : Value} {ks vs ps : List Value} (H : NodR T W ⟨b, .slice (some ⟨g, 0, none⟩) n c, vv, cv, ks, vs, ps⟩) {j : Nat} {u : Value} (h : ks[j]? = some u) : W.cell? ⟨g, j, none⟩ = some u := by
  obtain ⟨A, c', he, _, _, hh⟩ := H.kr
  injection he with e1 _ _
  subst e1
  rcases hh with ⟨h, _⟩ | ⟨g', cur, h', hB, _, hxs⟩
  · cases h
  · injection h' with h'; injection h' with h'; subst h'
    exact (hB.cell j).trans (hxs j u h)
theorem NodR.vcell {T : Tys} {W : World} {b g n c : Nat} {kv cv : Value} {ks vs ps : List Value} (H : NodR T W ⟨b, kv, .slice (some ⟨g, 0, none⟩) n c, cv, ks, vs, ps⟩) {j : Nat} {u : Value} (h : vs[j]? = some u) : W.cell? ⟨g, j, none⟩ = some u := by
  obtain ⟨A, c', he, _, _, hh⟩ := H.vr
  injection he with e1 _ _
  subst e1
  rcases hh with ⟨h, _⟩ | ⟨g', cur, h', hB, _, hxs⟩
  · cases h
  · injection h' with h'; injection h' with h'; subst h'
    exact (hB.cell j).trans (hxs j u h)

/-! ### rows cut, rows with one element set -/
theorem Row.pre {w : World} {e : TypeId} {A : Option Addr} {n c : Nat} {xs : List Value} (h : Row w e (.slice A n c) xs) {d c' : Nat} (hd : d ≤ n) (hc : d ≤ c') (hcc : c' ≤ c) (hA : A ≠ none) :
    Row w e (.slice A d c') (xs.take d) := by
  obtain ⟨A', c0, he, h1, h2, h⟩ := h
  injection he with e1 e2 e3
  subst e1 e3
  have hl : (xs.take d).length = d := by rw [List.length_take]; omega
  refine ⟨A, c', by rw [hl], by rw [hl]; exact hc, Nat.le_trans hcc h2, ?_⟩
  rcases h with ⟨rfl, _⟩ | ⟨g, cur, rfl, hB, hcs, hxs⟩
  · exact absurd rfl hA
  · exact .inr ⟨g, cur, rfl, hB, by omega, fun j u hj => by
      rw [List.getElem?_take] at hj
      split at hj
      · exact hxs j u hj
      · cases hj⟩

theorem Row.setAt {w : World} {e : TypeId} {g n c i : Nat} {xs : List Value} {u : Value} (h : Row w e (.slice (some ⟨g, 0, none⟩) n c) xs) (hi : i < n) : Row (w.setCell ⟨g, i, none⟩ u) e (.slice (some ⟨g, 0, none⟩) n c) (xs.set i u) := by
  obtain ⟨A', c0, he, h1, h2, h⟩ := h
  injection he with e1 e2 e3
  subst e1 e3
  rcases h with ⟨h, _⟩ | ⟨g', cur, h, hB, hcs, hxs⟩
  · cases h
  injection h with h
  injection h with h
  subst h
  refine ⟨_, c, by rw [List.length_set, e2], by rw [List.length_set]; exact h1, h2, .inr ⟨g, _, rfl, hB.set_ i u, by simpa using hcs, fun j x hj => ?_⟩⟩
  by_cases hij : i = j
  · subst hij
    rw [List.getElem?_set_self (by omega)] at hj
    rw [Array.getElem?_setIfInBounds_self_of_lt (by omega)]
    exact hj
  · rw [List.getElem?_set_ne hij] at hj
    rw [Array.getElem?_setIfInBounds_ne hij]
    exact hxs j x hj

/-- the slice's own form -/
theorem Row.form {w : World} {e : TypeId} {v : Value} {xs : List Value} (h : Row w e v xs) : ∃ (A : Option Addr) (c : Nat), v = .slice A xs.length c ∧ xs.length ≤ c ∧ c ≤ 9223372036854775807 ∧
    (∀ j u, xs[j]? = some u → ∃ g, A = some ⟨g, 0, none⟩ ∧ w.cell? ⟨g, j, none⟩ = some u ∧ w.frozen? ⟨g, j, none⟩ = false) ∧ (0 < xs.length → ∃ g, A = some ⟨g, 0, none⟩) := by
  obtain ⟨A, c, rfl, h1, h2, h⟩ := h
  refine ⟨A, c, rfl, h1, by unfold maxLen at h2; exact h2, fun j u hj => ?_, fun h0 => ?_⟩
  · rcases h with ⟨rfl, h⟩ | ⟨g, cur, rfl, hB, hcs, hxs⟩
    · have := (List.getElem?_eq_some_iff.1 hj).1; omega
    · exact ⟨g, rfl, (hB.cell j).trans (hxs j u hj), hB.frozen j⟩
  · rcases h with ⟨rfl, h⟩ | ⟨g, cur, rfl, hB, hcs, hxs⟩
    · omega
    · exact ⟨g, rfl⟩

theorem Row.formN {w : World} {e : TypeId} {v : Value} {xs : List Value} (h : Row w e v xs) {n : Nat} (hn : xs.length = n) : ∃ (A : Option Addr) (c : Nat), v = .slice A n c ∧ n ≤ c ∧ c ≤ 9223372036854775807 ∧
    (∀ j u, xs[j]? = some u → ∃ g, A = some ⟨g, 0, none⟩ ∧ w.cell? ⟨g, j, none⟩ = some u ∧ w.frozen? ⟨g, j, none⟩ = false) ∧ (0 < n → ∃ g, A = some ⟨g, 0, none⟩) := by
  subst hn; exact h.form

/-- a node of the ghost tree as it lies -/
def rn (t : GT) : RN := ⟨t.b, t.kv, t.vv, t.cv, t.ks.map Value.string, t.vs, t.cs.map ptr⟩
theorem Nod.rn {T : Tys} {w : World} {t : GT} (h : Nod T w t) : NodR T w (rn t) := ⟨h.blk, h.kr, h.vr, h.cr, fun u hu => by
  obtain ⟨s, _, rfl⟩ := List.mem_map.1 hu; exact ⟨s, rfl⟩, h.v1, fun u hu => by
  obtain ⟨c, _, rfl⟩ := List.mem_map.1 hu; exact ⟨c.b, rfl⟩⟩
theorem own_rn (t : GT) : (rn t).own = own t := rfl

/-- an element of the first node is set -/
theorem Nds.setV {T : Tys} {L F : List Nat} {w W : World} {l : List RN} {n : RN} (H : Nds T L F w W (n :: l)) {g m c i : Nat} {u : Value} (hv : n.vv = .slice (some ⟨g, 0, none⟩) m c) (hi : i < m) (hu : T.isV u) :
    Nds T L F w (W.setCell ⟨g, i, none⟩ u) ({ n with vs := n.vs.set i u } :: l) := by
  obtain ⟨a1, a2, a3, a4, a5, a6⟩ := own_apart (sep_own H)
  have hN := H.nod n (by simp)
  have hg : g ∈ ob n.vv := by rw [hv]; simp
  refine H.turn (L0 := [g]) (fun k hk => by obtain rfl : k = g := by simpa using hk
                                            simp [RN.own, hg]) ((Chg.refl [g] W).setCell (.inl (by simp)) _) ⟨?_, ?_, ?_, ?_, hN.kS, fun x hx => ?_, hN.pS⟩ (fun k => (sep_own H k : n.own.count k ≤ 1)) (fun k hk => .inl hk)
  · exact hN.blk.far (fun e => a2 (by rw [show n.b = g from e]; exact hg)) _
  · exact hN.kr.setCell (fun h => a4 g h hg) _
  · have := hN.vr
    rw [hv] at this
    show Row _ T.val n.vv (n.vs.set i u)
    rw [hv]
    exact this.setAt hi
  · exact hN.cr.setCell (fun h => a6 g hg h) _
  · rcases List.mem_or_eq_of_mem_set hx with hx | rfl
    · exact hN.vS x hx
    · exact hu
theorem Nds.setK {T : Tys} {L F : List Nat} {w W : World} {l : List RN} {n : RN} (H : Nds T L F w W (n :: l)) {g m c i : Nat} {u : Value} (hv : n.kv = .slice (some ⟨g, 0, none⟩) m c) (hi : i < m) (hu : StrV u) :
    Nds T L F w (W.setCell ⟨g, i, none⟩ u) ({ n with ks := n.ks.set i u } :: l) := by
  obtain ⟨a1, a2, a3, a4, a5, a6⟩ := own_apart (sep_own H)
  have hN := H.nod n (by simp)
  have hg : g ∈ ob n.kv := by rw [hv]; simp
  refine H.turn (L0 := [g]) (fun k hk => by obtain rfl : k = g := by simpa using hk
                                            simp [RN.own, hg]) ((Chg.refl [g] W).setCell (.inl (by simp)) _) ⟨?_, ?_, ?_, ?_, fun x hx => ?_, hN.vS, hN.pS⟩ (fun k => (sep_own H k : n.own.count k ≤ 1)) (fun k hk => .inl hk)
  · exact hN.blk.far (fun e => a1 (by rw [show n.b = g from e]; exact hg)) _
  · have := hN.kr
    rw [hv] at this
    show Row _ 9 n.kv (n.ks.set i u)
    rw [hv]
    exact this.setAt hi
  · exact hN.vr.setCell (fun h => a4 g hg h) _
  · exact hN.cr.setCell (fun h => a5 g hg h) _
  · rcases List.mem_or_eq_of_mem_set hx with hx | rfl
    · exact hN.kS x hx
    · exact hu

end Go.Proofs.Ytcidmaeclonilaa
