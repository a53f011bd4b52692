/- What split of nodes means for the tree. -/
import Derived.Test.YtcidmaeclonilaaNds
namespace Go.Proofs.Ytcidmaeclonilaa
open Go Go.RowKit

theorem weave_at {α : Type} {A : List (List α)} {X : List α} {j : Nat} {x : α} (hl : A.length = X.length + 1) (hx : X[j]? = some x) :
    weave A X = weave (A.take (j + 1)) (X.take j) ++ x :: weave (A.drop (j + 1)) (X.drop (j + 1)) := by
  have hj := (List.getElem?_eq_some_iff.1 hx).1
  obtain ⟨c, hc⟩ : ∃ c, A[j]? = some c := ⟨_, List.getElem?_eq_getElem (by omega)⟩
  have hA := split_at hc
  have hX := split_at hx
  have h1 : weave A X = wl (A.take j) (X.take j) ++ c ++ wr (x :: X.drop (j + 1)) (A.drop (j + 1)) :=
    (congr (congrArg weave hA) hX).trans (weave_split (by simp; omega))
  have h2 : weave (A.take (j + 1)) (X.take j) = wl (A.take j) (X.take j) ++ c := by
    have e1 : A.take (j + 1) = A.take j ++ c :: [] := by
      rw [List.take_add_one, hc]; rfl
    have e2 : X.take j = X.take j ++ [] := by simp
    rw [e1, e2, weave_split (by simp; omega)]
    simp [wr]
  obtain ⟨b, B, hB⟩ : ∃ b B, A.drop (j + 1) = b :: B := by
    cases h : A.drop (j + 1) with
    | nil => have := congrArg List.length h; simp at this; omega
    | cons b B => exact ⟨b, B, rfl⟩
  rw [h1, h2, hB]
  simp [wr, weave]

/-- what lies below a node's own blocks -/
def sb : Nat → GT → List Nat
  | 0, _ => []
  | h + 1, t => (t.cs.map (fp h)).flatten
theorem fp_sb (h : Nat) (t : GT) : fp h t = own t ++ sb h t := by cases h <;> simp [fp, sb]

/-- the rest of a tree beside a node and its child i -/
def rest (h : Nat) (t c : GT) (i : Nat) : List Nat := ((t.cs.take i).map (fp h)).flatten ++ (sb h c ++ ((t.cs.drop (i + 1)).map (fp h)).flatten)

theorem nod_of_rn {T : Tys} {w : World} {t : GT} (h : NodR T w (rn t)) : Nod T w t := ⟨h.blk, h.kr, h.vr, h.cr, h.vS⟩

theorem fp_rest {h : Nat} {t c : GT} {i : Nat} (hc : t.cs[i]? = some c) (k : Nat) : (fp (h + 1) t).count k = (own t).count k + (own c).count k + (rest h t c i).count k := by
  rw [fp_kid hc, fp_sb h c]
  simp only [rest, List.count_append]
  omega

/-- two nodes of a tree at hand -/
theorem Tre.two {T : Tys} {w : World} {h : Nat} {t c : GT} {i : Nat} (H : Tre T w (h + 1) t) (hc : t.cs[i]? = some c) : Nds T (fp (h + 1) t) (rest h t c i) w w [rn t, rn c] := by
  have hk : ∀ k, k ∈ rest h t c i → k ∈ fp (h + 1) t := fun k hk => by
    have := fp_rest (h := h) hc k
    have := List.count_pos_iff.2 hk
    exact List.count_pos_iff.1 (by omega)
  refine ⟨fun n hn => ?_, fun k => ?_, fun k hk' => ⟨H.rep.lt k (hk k hk'), rfl⟩, Chg.refl _ _, fun k hk' => .inl ?_⟩
  · rcases List.mem_cons.1 hn with rfl | hn
    · exact H.nod.rn
    · obtain rfl : n = rn c := by simpa using hn
      exact (H.kid hc).nod.rn
  · have h1 := H.sep k
    rw [fp_rest hc] at h1
    simp only [owns_cons, owns_nil, List.count_append, List.count_nil, own_rn]
    omega
  · have := fp_rest (h := h) hc k
    simp only [owns_cons, owns_nil, List.append_nil, List.mem_append, own_rn] at hk'
    rcases hk' with h1 | h1
    · have := List.count_pos_iff.2 h1
      exact List.count_pos_iff.1 (by omega)
    · have := List.count_pos_iff.2 h1
      exact List.count_pos_iff.1 (by omega)

/-- a subtree that lies in F is there still -/
theorem Nds.sub {T : Tys} {L F : List Nat} {w W : World} {l : List RN} (H : Nds T L F w W l) {h : Nat} {d : GT} (hr : Rep T w h d) (hF : ∀ k ∈ fp h d, k ∈ F) : Rep T W h d :=
  hr.kept fun k hk => (H.fr k (hF k hk)).2

theorem map_take_succ {α β : Type} (f : α → β) {l : List α} {i : Nat} {c : α} (h : l[i]? = some c) : (l.map f).take (i + 1) = (l.take i).map f ++ [f c] := by
  rw [List.take_add_one, List.getElem?_map, h, List.map_take]; rfl

/-- the tree behind a split -/
def splitT (t c : GT) (i : Nat) (k3 : ByteArray) (v3 : Value) (n' c' r : RN) : GT :=
  .node t.b n'.kv n'.vv n'.cv (t.ks.take i ++ k3 :: t.ks.drop i) (t.vs.take i ++ v3 :: t.vs.drop i)
    (t.cs.take i ++ .node c.b c'.kv c'.vv c'.cv (c.ks.take 3) (c.vs.take 3) (c.cs.take 4) :: .node r.b r.kv r.vv r.cv (c.ks.drop 4) (c.vs.drop 4) (c.cs.drop 4) :: t.cs.drop (i + 1))

theorem split_shape {h : Nat} {t c : GT} {i : Nat} {k3 : ByteArray} {v3 : Value} {n' c' r : RN} (B : BT (h + 1) t) (h6 : t.ks.length ≤ 6) (hc : t.cs[i]? = some c) (h7 : c.ks.length = 7) (hk : c.ks[3]? = some k3) (hv : c.vs[3]? = some v3) :
    BT (h + 1) (splitT t c i k3 v3 n' c' r) ∧ toL (h + 1) (splitT t c i k3 v3 n' c' r) = toL (h + 1) t := by
  have hi : i < t.cs.length := (List.getElem?_eq_some_iff.1 hc).1
  have b1 := B.1
  have b2 := B.2.1
  have Bc := (B.kid (List.mem_of_getElem? hc)).1
  have v7 := Bc.vs
  have hp3 : c.ps[3]? = some (k3, v3) := by rw [GT.ps, List.getElem?_zip_eq_some]; exact ⟨hk, hv⟩
  -- the two halves
  have halves : BT h (.node c.b c'.kv c'.vv c'.cv (c.ks.take 3) (c.vs.take 3) (c.cs.take 4)) ∧ BT h (.node r.b r.kv r.vv r.cv (c.ks.drop 4) (c.vs.drop 4) (c.cs.drop 4)) ∧
      toL h c = toL h (.node c.b c'.kv c'.vv c'.cv (c.ks.take 3) (c.vs.take 3) (c.cs.take 4)) ++ (k3, v3) :: toL h (.node r.b r.kv r.vv r.cv (c.ks.drop 4) (c.vs.drop 4) (c.cs.drop 4)) := by
    have e1 : (GT.node c.b c'.kv c'.vv c'.cv (c.ks.take 3) (c.vs.take 3) (c.cs.take 4)).ps = c.ps.take 3 := by rw [ps_take]; rfl
    have e2 : (GT.node r.b r.kv r.vv r.cv (c.ks.drop 4) (c.vs.drop 4) (c.cs.drop 4)).ps = c.ps.drop 4 := by rw [ps_drop]; rfl
    cases h with
    | zero =>
      have hcs : c.cs = [] := Bc.1
      refine ⟨⟨by simp [hcs], by simp; omega, by simp; omega⟩, ⟨by simp [hcs], by simp; omega, by simp; omega⟩, ?_⟩
      show c.ps = _ ++ _ :: _
      rw [show toL 0 _ = _ from e1, show toL 0 _ = _ from e2]
      exact split_at hp3
    | succ h =>
      have c1 := Bc.1
      refine ⟨⟨by simp; omega, by simp; omega, by simp; omega, fun d hd => Bc.2.2.2 d (List.mem_of_mem_take hd)⟩, ⟨by simp; omega, by simp; omega, by simp; omega, fun d hd => Bc.2.2.2 d (List.mem_of_mem_drop hd)⟩, ?_⟩
      show weave (c.cs.map (toL h)) c.ps = weave ((c.cs.take 4).map (toL h)) _ ++ _ :: weave ((c.cs.drop 4).map (toL h)) _
      rw [e1, e2, weave_at (j := 3) (by rw [List.length_map, Bc.ps_len]; exact c1) hp3, List.map_take, List.map_drop]
  refine ⟨⟨?_, ?_, ?_, fun d hd => ?_⟩, ?_⟩
  · simp [splitT]; omega
  · simp [splitT]; omega
  · simp [splitT]; omega
  · simp only [splitT, GT.cs_node] at hd
    rcases List.mem_append.1 hd with hd | hd
    · exact B.2.2.2 d (List.mem_of_mem_take hd)
    · rcases List.mem_cons.1 hd with rfl | hd
      · exact ⟨halves.1, by simp; omega⟩
      · rcases List.mem_cons.1 hd with rfl | hd
        · exact ⟨halves.2.1, by simp; omega⟩
        · exact B.2.2.2 d (List.mem_of_mem_drop hd)
  · rw [toL_split B (by omega) hc, halves.2.2]
    show weave ((splitT t c i k3 v3 n' c' r).cs.map (toL h)) (splitT t c i k3 v3 n' c' r).ps = _
    have eps : (splitT t c i k3 v3 n' c' r).ps = t.ps.take i ++ (k3, v3) :: t.ps.drop i := by
      show (t.ks.take i ++ k3 :: t.ks.drop i).zip (t.vs.take i ++ v3 :: t.vs.drop i) = _
      rw [List.zip_append (by simp; omega), List.zip_cons_cons, ps_take, ps_drop]
    rw [eps]
    simp only [splitT, GT.cs_node, List.map_append, List.map_cons]
    rw [weave_split (by simp [B.ps_len]; omega)]
    simp [wr, Lf, Rt]

theorem split_rep {T : Tys} {w w' : World} {h : Nat} {t c : GT} {i : Nat} {k3 : ByteArray} {v3 : Value} {n' c' r : RN} (H : Tre T w (h + 1) t) (B : BT (h + 1) t) (hc : t.cs[i]? = some c)
    (hN : Nds T (fp (h + 1) t) (rest h t c i) w w' [n', c', r]) (e1 : n'.b = t.b) (e2 : c'.b = c.b)
    (k1 : n'.ks = (rn t).ks.take i ++ .string k3 :: (rn t).ks.drop i) (k2 : n'.vs = t.vs.take i ++ v3 :: t.vs.drop i) (k4 : n'.ps = (rn t).ps.take (i + 1) ++ .pointer (some ⟨r.b, 0, none⟩) :: (rn t).ps.drop (i + 1))
    (c1 : c'.ks = (rn c).ks.take 3) (c2 : c'.vs = c.vs.take 3) (c3 : c'.ps = (rn c).ps.take 4) (r1 : r.ks = (rn c).ks.drop 4) (r2 : r.vs = c.vs.drop 4) (r3 : r.ps = (rn c).ps.drop 4) :
    Tre T w' (h + 1) (splitT t c i k3 v3 n' c' r) ∧ Sub w (fp (h + 1) (splitT t c i k3 v3 n' c' r)) (fp (h + 1) t) := by
  have hi : i < t.cs.length := (List.getElem?_eq_some_iff.1 hc).1
  have en : rn (splitT t c i k3 v3 n' c' r) = n' := by
    obtain ⟨b, kv, vv, cv, ks, vs, ps⟩ := n'
    simp only at e1 k1 k2 k4
    subst e1 k1 k2 k4
    simp only [rn, splitT, GT.b_node, GT.kv_node, GT.vv_node, GT.cv_node, GT.ks_node, GT.vs_node, GT.cs_node, RN.mk.injEq, true_and]
    refine ⟨by simp, ?_⟩
    rw [map_take_succ ptr hc]
    simp [ptr, GT.b_node, List.map_append]
  have ec : rn (.node c.b c'.kv c'.vv c'.cv (c.ks.take 3) (c.vs.take 3) (c.cs.take 4)) = c' := by
    obtain ⟨b, kv, vv, cv, ks, vs, ps⟩ := c'
    simp only at e2 c1 c2 c3
    subst e2 c1 c2 c3
    simp [rn]
  have er : rn (.node r.b r.kv r.vv r.cv (c.ks.drop 4) (c.vs.drop 4) (c.cs.drop 4)) = r := by
    obtain ⟨b, kv, vv, cv, ks, vs, ps⟩ := r
    simp only at r1 r2 r3
    subst r1 r2 r3
    simp [rn]
  have hcount : ∀ k, (fp (h + 1) (splitT t c i k3 v3 n' c' r)).count k = (owns [n', c', r]).count k + (rest h t c i).count k := by
    intro k
    have hsb : (sb h (.node c.b c'.kv c'.vv c'.cv (c.ks.take 3) (c.vs.take 3) (c.cs.take 4))).count k + (sb h (.node r.b r.kv r.vv r.cv (c.ks.drop 4) (c.vs.drop 4) (c.cs.drop 4))).count k = (sb h c).count k := by
      cases h with
      | zero => simp [sb]
      | succ h =>
        show (((c.cs.take 4).map (fp h)).flatten).count k + (((c.cs.drop 4).map (fp h)).flatten).count k = ((c.cs.map (fp h)).flatten).count k
        rw [← List.count_append, ← List.flatten_append, ← List.map_append, List.take_append_drop]
    have ho1 : own (splitT t c i k3 v3 n' c' r) = n'.own := by rw [← own_rn, en]
    have ho2 : own (.node c.b c'.kv c'.vv c'.cv (c.ks.take 3) (c.vs.take 3) (c.cs.take 4)) = c'.own := by rw [← own_rn, ec]
    have ho3 : own (.node r.b r.kv r.vv r.cv (c.ks.drop 4) (c.vs.drop 4) (c.cs.drop 4)) = r.own := by rw [← own_rn, er]
    show (own (splitT t c i k3 v3 n' c' r) ++ ((splitT t c i k3 v3 n' c' r).cs.map (fp h)).flatten).count k = _
    rw [ho1]
    simp only [splitT, GT.cs_node, List.map_append, List.map_cons, List.flatten_append, List.flatten_cons, List.count_append, fp_sb h (.node c.b _ _ _ _ _ _), fp_sb h (.node r.b _ _ _ _ _ _), ho2, ho3, owns_cons, owns_nil, List.count_nil, rest]
    omega
  refine ⟨⟨⟨nod_of_rn (by rw [en]; exact hN.nod n' (by simp)), fun d hd => ?_⟩, fun k => ?_⟩, fun k hk => ?_⟩
  · simp only [splitT, GT.cs_node] at hd
    have hin : ∀ j e, t.cs[j]? = some e → j ≠ i → ∀ k ∈ fp h e, k ∈ rest h t c i := fun j e he hj k hk => by
      unfold rest
      rcases Nat.lt_or_gt_of_ne hj with hlt | hgt
      · exact List.mem_append_left _ (List.mem_flatten.2 ⟨_, List.mem_map.2 ⟨e, List.mem_of_getElem? (i := j) (by rw [List.getElem?_take_of_lt hlt]; exact he), rfl⟩, hk⟩)
      · exact List.mem_append_right _ (List.mem_append_right _ (List.mem_flatten.2 ⟨_, List.mem_map.2 ⟨e, List.mem_of_getElem? (i := j - (i + 1)) (by rw [List.getElem?_drop, show i + 1 + (j - (i + 1)) = j by omega]; exact he), rfl⟩, hk⟩))
    have hkid : ∀ h', h = h' + 1 → ∀ e ∈ c.cs, Rep T w' h' e := fun h' hh e he => by
      subst hh
      exact hN.sub ((H.kid hc).rep.2 e he) fun k hk => by
        unfold rest
        exact List.mem_append_right _ (List.mem_append_left _ (List.mem_flatten.2 ⟨_, List.mem_map.2 ⟨e, he, rfl⟩, hk⟩))
    rcases List.mem_append.1 hd with hd | hd
    · obtain ⟨j, hj⟩ := List.mem_iff_getElem?.1 hd
      rw [List.getElem?_take] at hj
      split at hj
      · rename_i hlt
        exact hN.sub (H.rep.2 d (List.mem_of_getElem? hj)) (hin j d hj (by omega))
      · cases hj
    · rcases List.mem_cons.1 hd with rfl | hd
      · have hn := nod_of_rn (T := T) (w := w') (t := .node c.b c'.kv c'.vv c'.cv (c.ks.take 3) (c.vs.take 3) (c.cs.take 4)) (by rw [ec]; exact hN.nod c' (by simp))
        cases h with
        | zero => exact hn
        | succ h => exact ⟨hn, fun e he => hkid h rfl e (List.mem_of_mem_take he)⟩
      · rcases List.mem_cons.1 hd with rfl | hd
        · have hn := nod_of_rn (T := T) (w := w') (t := .node r.b r.kv r.vv r.cv (c.ks.drop 4) (c.vs.drop 4) (c.cs.drop 4)) (by rw [er]; exact hN.nod r (by simp))
          cases h with
          | zero => exact hn
          | succ h => exact ⟨hn, fun e he => hkid h rfl e (List.mem_of_mem_drop he)⟩
        · obtain ⟨j, hj⟩ := List.mem_iff_getElem?.1 hd
          rw [List.getElem?_drop] at hj
          exact hN.sub (H.rep.2 d (List.mem_of_getElem? hj)) (hin _ d hj (by omega))
  · rw [hcount]; exact hN.sep k
  · have h0 := hcount k
    have h1 := List.count_pos_iff.2 hk
    by_cases hm : k ∈ owns [n', c', r]
    · exact hN.new k hm
    · have hm' := List.count_eq_zero.2 hm
      have hr : k ∈ rest h t c i := List.count_pos_iff.1 (by omega)
      left
      have := fp_rest (h := h) hc k
      have := List.count_pos_iff.2 hr
      exact List.count_pos_iff.1 (by omega)

/-- one node of a tree at hand -/
theorem Tre.one {T : Tys} {w : World} {h : Nat} {t : GT} (H : Tre T w h t) : Nds T (fp h t) (sb h t) w w [rn t] := by
  refine ⟨fun n hn => ?_, fun k => ?_, fun k hk => ⟨H.rep.lt k (by rw [fp_sb]; exact List.mem_append_right _ hk), rfl⟩, Chg.refl _ _, fun k hk => .inl ?_⟩
  · obtain rfl : n = rn t := by simpa using hn
    exact H.nod.rn
  · have := H.sep k
    rw [fp_sb, List.count_append] at this
    simp only [owns_cons, owns_nil, List.append_nil, own_rn]
    omega
  · rw [fp_sb]
    simp only [owns_cons, owns_nil, List.append_nil, own_rn] at hk
    exact List.mem_append_left _ hk

/-- a node has changed in its own slices, the children are the same -/
theorem Tre.of_one {T : Tys} {w w' : World} {h : Nat} {t t' : GT} (H : Tre T w h t) {n' : RN} (hN : Nds T (fp h t) (sb h t) w w' [n']) (hn : rn t' = n') (hc : t'.cs = t.cs) : Tre T w' h t' ∧ Sub w (fp h t') (fp h t) := by
  have hsb : sb h t' = sb h t := by cases h <;> simp [sb, hc]
  have ho : own t' = n'.own := by rw [← own_rn, hn]
  have hnd : Nod T w' t' := nod_of_rn (by rw [hn]; exact hN.nod n' (by simp))
  refine ⟨⟨?_, fun k => ?_⟩, fun k hk => ?_⟩
  · cases h with
    | zero => exact hnd
    | succ h => exact ⟨hnd, fun d hd => hN.sub (H.rep.2 d (by rw [hc] at hd; exact hd)) fun k hk => List.mem_flatten.2 ⟨_, List.mem_map.2 ⟨d, by rw [hc] at hd; exact hd, rfl⟩, hk⟩⟩
  · have := hN.sep k
    rw [fp_sb, List.count_append, hsb, ho]
    simp only [owns_cons, owns_nil, List.append_nil] at this
    exact this
  · rw [fp_sb, hsb, ho] at hk
    rcases List.mem_append.1 hk with hk | hk
    · exact hN.new k (by simpa using hk)
    · exact .inl (by rw [fp_sb]; exact List.mem_append_right _ hk)

end Go.Proofs.Ytcidmaeclonilaa
