/- Some children of a node, side by side, are regrouped: what that means for the tree in memory. -/
import Derived.Test.YtcidmaeclonilaaSplitG
namespace Go.Proofs.Ytcidmaeclonilaa
open Go Go.RowKit

/-- the rest of a tree beside a node and some of its children -/
def restM (h : Nat) (A Os B : List GT) : List Nat := (A.map (fp h)).flatten ++ ((Os.map (sb h)).flatten ++ (B.map (fp h)).flatten)

theorem fp_owns (h : Nat) (Os : List GT) (k : Nat) : ((Os.map (fp h)).flatten).count k = (owns (Os.map rn)).count k + ((Os.map (sb h)).flatten).count k := by
  induction Os with
  | nil => simp
  | cons o Os ih =>
    simp only [List.map_cons, List.flatten_cons, List.count_append, owns_cons, own_rn, fp_sb h o, ih]
    omega
theorem fp_many {h : Nat} {t : GT} {A Os B : List GT} (ht : t.cs = A ++ Os ++ B) (k : Nat) : (fp (h + 1) t).count k = (own t).count k + (owns (Os.map rn)).count k + (restM h A Os B).count k := by
  show (own t ++ (t.cs.map (fp h)).flatten).count k = _
  have hO := fp_owns h Os k
  rw [ht]
  simp only [List.map_append, List.flatten_append, List.count_append, restM]
  omega
theorem sb_flat_zero (Os : List GT) : (Os.map (sb 0)).flatten = [] := by
  induction Os with
  | nil => rfl
  | cons o Os ih => simp only [List.map_cons, List.flatten_cons, ih]; rfl
theorem sb_flat_succ (h : Nat) (Os : List GT) : (Os.map (sb (h + 1))).flatten = ((Os.flatMap GT.cs).map (fp h)).flatten := by
  induction Os with
  | nil => rfl
  | cons o Os ih => simp only [List.map_cons, List.flatten_cons, ih, List.flatMap_cons, List.map_append, List.flatten_append]; rfl
theorem sb_flat {h : Nat} {Os Ns : List GT} (hk : Ns.flatMap GT.cs = Os.flatMap GT.cs) : (Ns.map (sb h)).flatten = (Os.map (sb h)).flatten := by
  cases h with
  | zero => rw [sb_flat_zero, sb_flat_zero]
  | succ h => rw [sb_flat_succ, sb_flat_succ, hk]

/-- a node and some of its children at hand -/
theorem Tre.many {T : Tys} {w : World} {h : Nat} {t : GT} {A Os B : List GT} (H : Tre T w (h + 1) t) (ht : t.cs = A ++ Os ++ B) : Nds T (fp (h + 1) t) (restM h A Os B) w w (rn t :: Os.map rn) := by
  refine ⟨fun n hn => ?_, fun k => ?_, fun k hk => ⟨H.rep.lt k ?_, rfl⟩, Chg.refl _ _, fun k hk => .inl ?_⟩
  · rcases List.mem_cons.1 hn with rfl | hn
    · exact H.nod.rn
    · obtain ⟨o, ho, rfl⟩ := List.mem_map.1 hn
      exact (H.rep.2 o (by rw [ht]; simp [ho])).nod.rn
  · have h1 := H.sep k
    rw [fp_many ht] at h1
    rw [owns_cons, List.count_append, own_rn]
    omega
  · have := fp_many (h := h) ht k
    have := List.count_pos_iff.2 hk
    exact List.count_pos_iff.1 (by omega)
  · have := fp_many (h := h) ht k
    have h2 := List.count_pos_iff.2 hk
    rw [owns_cons, List.count_append, own_rn] at h2
    exact List.count_pos_iff.1 (by omega)

/-- the children at hand have been regrouped; what lies below them is the same, in order -/
theorem Tre.regroup {T : Tys} {w w' : World} {h : Nat} {t t' : GT} {A Os Ns B : List GT} (H : Tre T w (h + 1) t) (ht : t.cs = A ++ Os ++ B) (hN : Nds T (fp (h + 1) t) (restM h A Os B) w w' (rn t' :: Ns.map rn))
    (ht' : t'.cs = A ++ Ns ++ B) (hk : Ns.flatMap GT.cs = Os.flatMap GT.cs) : Tre T w' (h + 1) t' ∧ Sub w (fp (h + 1) t') (fp (h + 1) t) := by
  have hcount : ∀ k, (fp (h + 1) t').count k = (owns (rn t' :: Ns.map rn)).count k + (restM h A Os B).count k := by
    intro k
    have e : restM h A Ns B = restM h A Os B := by unfold restM; rw [sb_flat hk]
    rw [fp_many ht' k, e, owns_cons, List.count_append, own_rn]
  have hA : ∀ d ∈ A, Rep T w' h d := fun d hd => hN.sub (H.rep.2 d (by rw [ht]; simp [hd])) fun k hk =>
    List.mem_append_left _ (List.mem_flatten.2 ⟨_, List.mem_map.2 ⟨d, hd, rfl⟩, hk⟩)
  have hB : ∀ d ∈ B, Rep T w' h d := fun d hd => hN.sub (H.rep.2 d (by rw [ht]; simp [hd])) fun k hk =>
    List.mem_append_right _ (List.mem_append_right _ (List.mem_flatten.2 ⟨_, List.mem_map.2 ⟨d, hd, rfl⟩, hk⟩))
  refine ⟨⟨⟨nod_of_rn (hN.nod _ (by simp)), fun d hd => ?_⟩, fun k => ?_⟩, fun k hk' => ?_⟩
  · rw [ht'] at hd
    rcases List.mem_append.1 hd with hd | hd
    · rcases List.mem_append.1 hd with hd | hd
      · exact hA d hd
      · have hn : Nod T w' d := nod_of_rn (hN.nod (rn d) (List.mem_cons_of_mem _ (List.mem_map.2 ⟨d, hd, rfl⟩)))
        cases h with
        | zero => exact hn
        | succ h =>
          refine ⟨hn, fun e he => ?_⟩
          have hm : e ∈ Ns.flatMap GT.cs := List.mem_flatMap.2 ⟨d, hd, he⟩
          rw [hk] at hm
          obtain ⟨o, ho, heo⟩ := List.mem_flatMap.1 hm
          exact hN.sub ((H.rep.2 o (by rw [ht]; simp [ho])).2 e heo) fun k hk2 =>
            List.mem_append_right _ (List.mem_append_left _ (List.mem_flatten.2 ⟨_, List.mem_map.2 ⟨o, ho, rfl⟩, List.mem_flatten.2 ⟨_, List.mem_map.2 ⟨e, heo, rfl⟩, hk2⟩⟩))
    · exact hB d hd
  · rw [hcount]; exact hN.sep k
  · have h0 := hcount k
    have h1 := List.count_pos_iff.2 hk'
    by_cases hm : k ∈ owns (rn t' :: Ns.map rn)
    · exact hN.new k hm
    · have hm' := List.count_eq_zero.2 hm
      left
      have := fp_many (h := h) ht k
      exact List.count_pos_iff.1 (by omega)

theorem Nds.forget {T : Tys} {L F : List Nat} {w W : World} {n : RN} {l : List RN} (H : Nds T L F w W (n :: l)) : Nds T L F w W l :=
  ⟨fun m hm => H.nod m (List.mem_cons_of_mem _ hm), fun k => by have := H.sep k; rw [owns_cons, List.count_append] at this; omega, H.fr, H.chg, fun k hk => H.new k (by rw [owns_cons]; exact List.mem_append_right _ hk)⟩

/-- a node as it lies, seen as a node of the ghost tree -/
def mk (r : RN) (ks : List ByteArray) (cs : List GT) : GT := .node r.b r.kv r.vv r.cv ks r.vs cs
theorem rn_mk {r : RN} {ks : List ByteArray} {cs : List GT} (hk : r.ks = ks.map Value.string) (hp : r.ps = cs.map ptr) : rn (mk r ks cs) = r := by
  obtain ⟨b, kv, vv, cv, k, v, p⟩ := r
  simp only at hk hp
  subst hk hp
  rfl
@[simp] theorem mk_b (r : RN) (ks : List ByteArray) (cs : List GT) : (mk r ks cs).b = r.b := rfl
@[simp] theorem mk_ks (r : RN) (ks : List ByteArray) (cs : List GT) : (mk r ks cs).ks = ks := rfl
@[simp] theorem mk_vs (r : RN) (ks : List ByteArray) (cs : List GT) : (mk r ks cs).vs = r.vs := rfl
@[simp] theorem mk_cs (r : RN) (ks : List ByteArray) (cs : List GT) : (mk r ks cs).cs = cs := rfl

/-! ### the lists -/
theorem weave_join {α : Type} {A B : List (List α)} {X Y : List α} {x : α} (hA : A.length = X.length + 1) (hB : B.length = Y.length + 1) : weave (A ++ B) (X ++ x :: Y) = weave A X ++ x :: weave B Y := by
  have h := weave_at (A := A ++ B) (X := X ++ x :: Y) (j := X.length) (x := x) (by simp; omega) (by simp)
  have e1 : (A ++ B).take (X.length + 1) = A := List.take_left' hA
  have e2 : (A ++ B).drop (X.length + 1) = B := List.drop_left' hA
  have e3 : (X ++ x :: Y).take X.length = X := List.take_left' rfl
  have e4 : (X ++ x :: Y).drop (X.length + 1) = Y := by
    rw [show X ++ x :: Y = (X ++ [x]) ++ Y by simp]
    exact List.drop_left' (by simp)
  rw [h, e1, e2, e3, e4]
theorem weave_one {α : Type} (c : List α) : weave [c] [] = c := by simp [weave, wr]

/-- two nodes and the pair between as one -/
theorem toL_join {h : Nat} {a b c : GT} {p : KV} (Ba : BT h a) (Bb : BT h b) (hp : c.ps = a.ps ++ p :: b.ps) (hc : c.cs = a.cs ++ b.cs) : toL h c = toL h a ++ p :: toL h b := by
  cases h with
  | zero => exact hp
  | succ h =>
    show weave (c.cs.map (toL h)) c.ps = weave (a.cs.map (toL h)) a.ps ++ p :: weave (b.cs.map (toL h)) b.ps
    rw [hp, hc, List.map_append]
    exact weave_join (by rw [List.length_map, Ba.ps_len]; exact Ba.1) (by rw [List.length_map, Bb.ps_len]; exact Bb.1)

theorem zip_mid {k : ByteArray} {v : Value} {ka kb : List ByteArray} {va vb : List Value} (h : va.length = ka.length) : (ka ++ k :: kb).zip (va ++ v :: vb) = ka.zip va ++ (k, v) :: kb.zip vb := by
  rw [List.zip_append h.symm, List.zip_cons_cons]

theorem BT.kid_at {h : Nat} {t c : GT} {i : Nat} (B : BT (h + 1) t) (hc : t.cs[i]? = some c) : BT h c ∧ 3 ≤ c.ks.length := B.kid (List.mem_of_getElem? hc)
theorem two_at {α : Type} {l : List α} {i : Nat} {a b : α} (ha : l[i]? = some a) (hb : l[i + 1]? = some b) : l = l.take i ++ [a, b] ++ l.drop (i + 2) := by
  have h1 := split_at ha
  have h2 : l.drop (i + 1) = b :: l.drop (i + 2) := by
    obtain ⟨h3, rfl⟩ := List.getElem?_eq_some_iff.1 hb
    rw [List.drop_eq_getElem_cons h3]
  rw [h2] at h1
  simpa using h1

/-! ### merge -/
theorem merge_shape {h : Nat} {t a b t' c : GT} {i : Nat} {k : ByteArray} {v : Value} (B : BT (h + 1) t) (hk : t.ks[i]? = some k) (hv : t.vs[i]? = some v) (ha : t.cs[i]? = some a) (hb : t.cs[i + 1]? = some b)
    (a3 : a.ks.length = 3) (b3 : b.ks.length = 3) (k1 : t'.ks = t.ks.take i ++ t.ks.drop (i + 1)) (v1 : t'.vs = t.vs.take i ++ t.vs.drop (i + 1)) (c1 : t'.cs = t.cs.take i ++ [c] ++ t.cs.drop (i + 2))
    (k2 : c.ks = a.ks ++ k :: b.ks) (v2 : c.vs = a.vs ++ v :: b.vs) (c2 : c.cs = a.cs ++ b.cs) :
    BT (h + 1) t' ∧ BT h c ∧ toL h c = toL h a ++ (k, v) :: toL h b ∧ t'.cs[i]? = some c ∧ Lf h t' i = Lf h t i ∧ Rt h t' i = Rt h t (i + 1) := by
  have Ba := (B.kid_at ha).1
  have Bb := (B.kid_at hb).1
  have hi := (List.getElem?_eq_some_iff.1 hk).1
  have b1 := B.1
  have b2 := B.2.1
  have b7 := B.2.2.1
  have ilt : i < t.cs.length := by omega
  have va := Ba.vs
  have vb := Bb.vs
  have Bc : BT h c := by
    cases h with
    | zero => exact ⟨by rw [c2, Ba.1, Bb.1]; rfl, by rw [v2, k2]; simp; omega, by rw [k2]; simp; omega⟩
    | succ h => exact ⟨by rw [c2, k2]; have := Ba.1; have := Bb.1; simp; omega, by rw [v2, k2]; simp; omega, by rw [k2]; simp; omega, fun d hd => by
        rw [c2] at hd
        rcases List.mem_append.1 hd with hd | hd
        · exact Ba.2.2.2 d hd
        · exact Bb.2.2.2 d hd⟩
  have B' : BT (h + 1) t' := by
    refine ⟨by rw [c1, k1]; simp; omega, by rw [v1, k1]; simp; omega, by rw [k1]; simp; omega, fun d hd => ?_⟩
    rw [c1] at hd
    rcases List.mem_append.1 hd with hd | hd
    · rcases List.mem_append.1 hd with hd | hd
      · exact B.2.2.2 d (List.mem_of_mem_take hd)
      · obtain rfl : d = c := by simpa using hd
        exact ⟨Bc, by rw [k2]; simp; omega⟩
    · exact B.2.2.2 d (List.mem_of_mem_drop hd)
  have hci : t'.cs[i]? = some c := by
    rw [c1, List.append_assoc, List.getElem?_append_right (by simp; omega)]
    simp [Nat.min_eq_left (Nat.le_of_lt ilt)]
  have tk : ∀ {α : Type} (l m : List α), i ≤ l.length → (l.take i ++ m).take i = l.take i := fun l m hl => List.take_left' (by simp; omega)
  have dr : ∀ {α : Type} (l m : List α), i ≤ l.length → (l.take i ++ m).drop i = m := fun l m hl => List.drop_left' (by simp; omega)
  refine ⟨B', Bc, toL_join Ba Bb (by unfold GT.ps; rw [k2, v2]; exact zip_mid va) c2, hci, ?_, ?_⟩
  · unfold Lf
    rw [ps_take, ps_take, k1, v1, c1, List.append_assoc, tk _ _ (by omega), tk _ _ (by omega), tk _ _ (by omega)]
  · unfold Rt
    rw [ps_drop, ps_drop, k1, v1, c1, dr _ _ (by omega), dr _ _ (by omega)]
    have e : (t.cs.take i ++ [c] ++ t.cs.drop (i + 2)).drop (i + 1) = t.cs.drop (i + 1 + 1) := List.drop_left' (by simp; omega)
    rw [e]

end Go.Proofs.Ytcidmaeclonilaa
