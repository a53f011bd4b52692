/- What drop's pieces mean for the tree and its list: no program in sight. -/
import Derived.Test.YtcidmaeclonilaaRegroup
namespace Go.Proofs.Ytcidmaeclonilaa
open Go Go.RowKit

/-- a pair goes from the child ahead to the parent, the parent's to the child behind -/
theorem left_shape {h : Nat} {t a b t' a' b' : GT} {j : Nat} {k kl : ByteArray} {v vl : Value} {X : List GT} (B : BT (h + 1) t) (hk : t.ks[j]? = some k) (hv : t.vs[j]? = some v) (ha : t.cs[j]? = some a) (hb : t.cs[j + 1]? = some b)
    (a1 : a.ks = a'.ks ++ [kl]) (a2 : a.vs = a'.vs ++ [vl]) (a3 : a.cs = a'.cs ++ X) (al : a'.vs.length = a'.ks.length) (a4 : 3 ≤ a'.ks.length) (hX0 : h = 0 → X = []) (hX1 : 0 < h → X.length = 1)
    (b1 : b'.ks = k :: b.ks) (b2 : b'.vs = v :: b.vs) (b3 : b'.cs = X ++ b.cs) (b4 : b.ks.length ≤ 6)
    (k1 : t'.ks = t.ks.set j kl) (v1 : t'.vs = t.vs.set j vl) (c1 : t'.cs = t.cs.take j ++ [a', b'] ++ t.cs.drop (j + 2)) :
    BT (h + 1) t' ∧ BT h b' ∧ t'.cs[j + 1]? = some b' ∧ ∃ Z, toL h b' = Z ++ toL h b ∧ Lf h t (j + 1) = Lf h t' (j + 1) ++ Z ∧ Rt h t' (j + 1) = Rt h t (j + 1) := by
  have Ba := (B.kid_at ha).1
  have Bb := (B.kid_at hb).1
  have hi := (List.getElem?_eq_some_iff.1 hk).1
  have q1 := B.1
  have q2 := B.2.1
  have q7 := B.2.2.1
  have jlt : j < t.cs.length := by omega
  have va := Ba.vs
  have vb := Bb.vs
  have a7 := Ba.ks
  have la : a.ks.length = a'.ks.length + 1 := by rw [a1]; simp
  have Ba' : BT h a' := by
    cases h with
    | zero => exact ⟨by have := Ba.1; rw [a3] at this; exact (List.append_eq_nil_iff.1 this).1, al, by omega⟩
    | succ h => exact ⟨by have := Ba.1; rw [a3] at this; simp at this; have := hX1 (by omega); omega, al, by omega, fun d hd => Ba.2.2.2 d (by rw [a3]; exact List.mem_append_left _ hd)⟩
  have Bb' : BT h b' := by
    cases h with
    | zero => exact ⟨by rw [b3, hX0 rfl, Bb.1]; rfl, by rw [b2, b1]; simp; omega, by rw [b1]; simp; omega⟩
    | succ h => exact ⟨by rw [b3, b1]; have := Bb.1; have := hX1 (by omega); simp; omega, by rw [b2, b1]; simp; omega, by rw [b1]; simp; omega, fun d hd => by
        rw [b3] at hd
        rcases List.mem_append.1 hd with hd | hd
        · exact Ba.2.2.2 d (by rw [a3]; exact List.mem_append_right _ hd)
        · exact Bb.2.2.2 d hd⟩
  have B' : BT (h + 1) t' := by
    refine ⟨by rw [c1, k1]; simp; omega, by rw [v1, k1]; simp; omega, by rw [k1]; simp; omega, fun d hd => ?_⟩
    rw [c1] at hd
    rcases List.mem_append.1 hd with hd | hd
    · rcases List.mem_append.1 hd with hd | hd
      · exact B.2.2.2 d (List.mem_of_mem_take hd)
      · have : d = a' ∨ d = b' := by simpa using hd
        rcases this with rfl | rfl
        · exact ⟨Ba', a4⟩
        · exact ⟨Bb', by rw [b1]; simp; have := (B.kid_at hb).2; omega⟩
    · exact B.2.2.2 d (List.mem_of_mem_drop hd)
  have lt : (t.cs.take j).length = j := by simp; omega
  have hca : t'.cs[j]? = some a' := by
    rw [c1, List.append_assoc, List.getElem?_append_right (by omega), lt]; simp
  have hcb : t'.cs[j + 1]? = some b' := by
    rw [c1, List.append_assoc, List.getElem?_append_right (by omega), lt]; simp
  have hpt : t.ps[j]? = some (k, v) := by rw [GT.ps, List.getElem?_zip_eq_some]; exact ⟨hk, hv⟩
  have hpt' : t'.ps[j]? = some (kl, vl) := by
    rw [GT.ps, List.getElem?_zip_eq_some, k1, v1, List.getElem?_set_self hi, List.getElem?_set_self (by omega)]
    exact ⟨rfl, rfl⟩
  -- the parts that lie between
  obtain ⟨Z0, e1, e2⟩ : ∃ Z0, toL h a = toL h a' ++ (kl, vl) :: Z0 ∧ toL h b' = Z0 ++ (k, v) :: toL h b := by
    cases h with
    | zero =>
      have hX := hX0 rfl
      refine ⟨[], ?_, ?_⟩
      · show a.ps = a'.ps ++ [(kl, vl)]
        unfold GT.ps
        rw [a1, a2]
        exact zip_mid (kb := []) (vb := []) al
      · show b'.ps = (k, v) :: b.ps
        unfold GT.ps
        rw [b1, b2]; rfl
    | succ h =>
      obtain ⟨x, rfl⟩ : ∃ x, X = [x] := by
        have := hX1 (by omega)
        match X, this with
        | [x], _ => exact ⟨x, rfl⟩
      refine ⟨toL h x, ?_, ?_⟩
      · show weave (a.cs.map (toL h)) a.ps = weave (a'.cs.map (toL h)) a'.ps ++ (kl, vl) :: toL h x
        have e : a.ps = a'.ps ++ (kl, vl) :: [] := by
          unfold GT.ps
          rw [a1, a2]
          exact zip_mid (kb := []) (vb := []) al
        rw [e, a3, List.map_append, weave_join (by rw [List.length_map, Ba'.ps_len]; exact Ba'.1) (by simp)]
        simp [weave_one]
      · show weave (b'.cs.map (toL h)) b'.ps = toL h x ++ (k, v) :: weave (b.cs.map (toL h)) b.ps
        have e : b'.ps = [] ++ (k, v) :: b.ps := by
          unfold GT.ps
          rw [b1, b2]; rfl
        rw [e, b3, List.map_append, weave_join (by simp) (by rw [List.length_map, Bb.ps_len]; exact Bb.1)]
        simp [weave_one]
  have L0 : Lf h t' j = Lf h t j := by
    unfold Lf
    rw [ps_take, ps_take, k1, v1, c1, List.take_set_of_le (Nat.le_refl _), List.take_set_of_le (Nat.le_refl _), List.append_assoc, List.take_left' lt]
  refine ⟨B', Bb', hcb, Z0 ++ [(k, v)], by rw [e2]; simp, ?_, ?_⟩
  · rw [Lf_succ B hi ha hpt, Lf_succ B' (by rw [k1, List.length_set]; exact hi) hca hpt', L0, e1]
    simp
  · unfold Rt
    rw [ps_drop, ps_drop, k1, v1, c1, List.drop_set_of_lt (by omega), List.drop_set_of_lt (by omega)]
    have e : (t.cs.take j ++ [a', b'] ++ t.cs.drop (j + 2)).drop (j + 1 + 1) = t.cs.drop (j + 1 + 1) := List.drop_left' (by simp; omega)
    rw [e]

/-- a pair goes from the child behind to the parent, the parent's to the child ahead -/
theorem right_shape {h : Nat} {t a b t' a' b' : GT} {i : Nat} {k kf : ByteArray} {v vf : Value} {X : List GT} (B : BT (h + 1) t) (hk : t.ks[i]? = some k) (hv : t.vs[i]? = some v) (ha : t.cs[i]? = some a) (hb : t.cs[i + 1]? = some b)
    (b1 : b.ks = kf :: b'.ks) (b2 : b.vs = vf :: b'.vs) (b3 : b.cs = X ++ b'.cs) (b4 : 3 ≤ b'.ks.length) (hX0 : h = 0 → X = []) (hX1 : 0 < h → X.length = 1)
    (a1 : a'.ks = a.ks ++ [k]) (a2 : a'.vs = a.vs ++ [v]) (a3 : a'.cs = a.cs ++ X) (a4 : a.ks.length ≤ 6)
    (k1 : t'.ks = t.ks.set i kf) (v1 : t'.vs = t.vs.set i vf) (c1 : t'.cs = t.cs.take i ++ [a', b'] ++ t.cs.drop (i + 2)) :
    BT (h + 1) t' ∧ BT h a' ∧ t'.cs[i]? = some a' ∧ ∃ Z, toL h a' = toL h a ++ Z ∧ Lf h t' i = Lf h t i ∧ Rt h t i = Z ++ Rt h t' i := by
  have Ba := (B.kid_at ha).1
  have Bb := (B.kid_at hb).1
  have hi := (List.getElem?_eq_some_iff.1 hk).1
  have q1 := B.1
  have q2 := B.2.1
  have q7 := B.2.2.1
  have ilt : i < t.cs.length := by omega
  have va := Ba.vs
  have vb := Bb.vs
  have b7 := Bb.ks
  have lb : b.ks.length = b'.ks.length + 1 := by rw [b1]; simp
  have bl : b'.vs.length = b'.ks.length := by rw [b1, b2] at vb; simpa using vb
  have Bb' : BT h b' := by
    cases h with
    | zero => exact ⟨by have := Bb.1; rw [b3] at this; exact (List.append_eq_nil_iff.1 this).2, bl, by omega⟩
    | succ h => exact ⟨by have := Bb.1; rw [b3] at this; simp at this; have := hX1 (by omega); omega, bl, by omega, fun d hd => Bb.2.2.2 d (by rw [b3]; exact List.mem_append_right _ hd)⟩
  have Ba' : BT h a' := by
    cases h with
    | zero => exact ⟨by rw [a3, hX0 rfl, Ba.1]; rfl, by rw [a2, a1]; simp; omega, by rw [a1]; simp; omega⟩
    | succ h => exact ⟨by rw [a3, a1]; have := Ba.1; have := hX1 (by omega); simp; omega, by rw [a2, a1]; simp; omega, by rw [a1]; simp; omega, fun d hd => by
        rw [a3] at hd
        rcases List.mem_append.1 hd with hd | hd
        · exact Ba.2.2.2 d hd
        · exact Bb.2.2.2 d (by rw [b3]; exact List.mem_append_left _ hd)⟩
  have B' : BT (h + 1) t' := by
    refine ⟨by rw [c1, k1]; simp; omega, by rw [v1, k1]; simp; omega, by rw [k1]; simp; omega, fun d hd => ?_⟩
    rw [c1] at hd
    rcases List.mem_append.1 hd with hd | hd
    · rcases List.mem_append.1 hd with hd | hd
      · exact B.2.2.2 d (List.mem_of_mem_take hd)
      · have : d = a' ∨ d = b' := by simpa using hd
        rcases this with rfl | rfl
        · exact ⟨Ba', by rw [a1]; simp; have := (B.kid_at ha).2; omega⟩
        · exact ⟨Bb', b4⟩
    · exact B.2.2.2 d (List.mem_of_mem_drop hd)
  have lt : (t.cs.take i).length = i := by simp; omega
  have hca : t'.cs[i]? = some a' := by
    rw [c1, List.append_assoc, List.getElem?_append_right (by omega), lt]; simp
  have hcb : t'.cs[i + 1]? = some b' := by
    rw [c1, List.append_assoc, List.getElem?_append_right (by omega), lt]; simp
  have hpt : t.ps[i]? = some (k, v) := by rw [GT.ps, List.getElem?_zip_eq_some]; exact ⟨hk, hv⟩
  have hpt' : t'.ps[i]? = some (kf, vf) := by
    rw [GT.ps, List.getElem?_zip_eq_some, k1, v1, List.getElem?_set_self hi, List.getElem?_set_self (by omega)]
    exact ⟨rfl, rfl⟩
  obtain ⟨Z0, e1, e2⟩ : ∃ Z0, toL h b = Z0 ++ (kf, vf) :: toL h b' ∧ toL h a' = toL h a ++ (k, v) :: Z0 := by
    cases h with
    | zero =>
      refine ⟨[], ?_, ?_⟩
      · show b.ps = (kf, vf) :: b'.ps
        unfold GT.ps
        rw [b1, b2]; rfl
      · show a'.ps = a.ps ++ [(k, v)]
        unfold GT.ps
        rw [a1, a2]
        exact zip_mid (kb := []) (vb := []) va
    | succ h =>
      obtain ⟨x, rfl⟩ : ∃ x, X = [x] := by
        have := hX1 (by omega)
        match X, this with
        | [x], _ => exact ⟨x, rfl⟩
      refine ⟨toL h x, ?_, ?_⟩
      · show weave (b.cs.map (toL h)) b.ps = toL h x ++ (kf, vf) :: weave (b'.cs.map (toL h)) b'.ps
        have e : b.ps = [] ++ (kf, vf) :: b'.ps := by
          unfold GT.ps
          rw [b1, b2]; rfl
        rw [e, b3, List.map_append, weave_join (by simp) (by rw [List.length_map, Bb'.ps_len]; exact Bb'.1)]
        simp [weave_one]
      · show weave (a'.cs.map (toL h)) a'.ps = weave (a.cs.map (toL h)) a.ps ++ (k, v) :: toL h x
        have e : a'.ps = a.ps ++ (k, v) :: [] := by
          unfold GT.ps
          rw [a1, a2]
          exact zip_mid (kb := []) (vb := []) va
        rw [e, a3, List.map_append, weave_join (by rw [List.length_map, Ba.ps_len]; exact Ba.1) (by simp)]
        simp [weave_one]
  have R1 : Rt h t' (i + 1) = Rt h t (i + 1) := by
    unfold Rt
    rw [ps_drop, ps_drop, k1, v1, c1, List.drop_set_of_lt (by omega), List.drop_set_of_lt (by omega)]
    have e : (t.cs.take i ++ [a', b'] ++ t.cs.drop (i + 2)).drop (i + 1 + 1) = t.cs.drop (i + 1 + 1) := List.drop_left' (by simp; omega)
    rw [e]
  refine ⟨B', Ba', hca, (k, v) :: Z0, e2, ?_, ?_⟩
  · unfold Lf
    rw [ps_take, ps_take, k1, v1, c1, List.take_set_of_le (Nat.le_refl _), List.take_set_of_le (Nat.le_refl _), List.append_assoc, List.take_left' lt]
  · rw [Rt_cons hb hpt, Rt_cons hcb hpt', R1, e1]
    simp

/-- the child where a key belongs has been given more than it needs -/
structure FillOk (h : Nat) (t : GT) (i : Nat) (c : GT) (t1 : GT) (k1 : Nat) (c1 : GT) : Prop where
  bt : BT (h + 1) t1
  at_ : t1.cs[k1]? = some c1
  le : k1 ≤ t1.ks.length
  four : 4 ≤ c1.ks.length
  len : t.ks.length ≤ t1.ks.length + 1
  ex : ∃ X Y, Lf h t i = Lf h t1 k1 ++ X ∧ Rt h t i = Y ++ Rt h t1 k1 ∧ toL h c1 = X ++ toL h c ++ Y

theorem AllLt.left {A B : List KV} {k : ByteArray} (h : AllLt (A ++ B) k) : AllLt A k := fun p hp => h p (List.mem_append_left _ hp)
theorem AllLt.right {A B : List KV} {k : ByteArray} (h : AllLt (A ++ B) k) : AllLt B k := fun p hp => h p (List.mem_append_right _ hp)
theorem AllGt.left {A B : List KV} {k : ByteArray} (h : AllGt (A ++ B) k) : AllGt A k := fun p hp => h p (List.mem_append_left _ hp)
theorem AllGt.right {A B : List KV} {k : ByteArray} (h : AllGt (A ++ B) k) : AllGt B k := fun p hp => h p (List.mem_append_right _ hp)

/-- a key goes out of the child that was filled -/
theorem drop_kid {h : Nat} {t c t1 c1 c2 t2 : GT} {i k1 : Nat} {key : ByteArray} (B : BT (h + 1) t) (hs : Srt (toL (h + 1) t)) (hi : i ≤ t.ks.length) (hL : AllLt (Lf h t i) key) (hR : AllGt (Rt h t i) key) (hc : t.cs[i]? = some c)
    (F : FillOk h t i c t1 k1 c1) (hk : t2.ks = t1.ks) (hv : t2.vs = t1.vs) (hcs : t2.cs = t1.cs.set k1 c2) (Hc : BT h c2) (h3 : 3 ≤ c2.ks.length) (he : toL h c2 = del key (toL h c1)) :
    BT (h + 1) t2 ∧ toL (h + 1) t2 = del key (toL (h + 1) t) ∧ t.ks.length ≤ t2.ks.length + 1 ∧ look key (toL (h + 1) t) = look key (toL h c1) := by
  obtain ⟨X, Y, e1, e2, e3⟩ := F.ex
  have et : toL (h + 1) t = Lf h t1 k1 ++ toL h c1 ++ Rt h t1 k1 := by
    rw [toL_split B hi hc, e1, e2, e3]; simp
  rw [e1] at hL
  rw [e2] at hR
  refine ⟨F.bt.setKid hk hv hcs Hc h3, ?_, by rw [hk]; exact F.len, ?_⟩
  · rw [toL_setKid F.bt hk hv hcs F.at_ Hc h3, et, del_mid hL.left hR.right, he]
  · rw [et, look_mid hL.left hR.right]
theorem fill_srt {h : Nat} {t c t1 c1 : GT} {i k1 : Nat} (B : BT (h + 1) t) (hs : Srt (toL (h + 1) t)) (hi : i ≤ t.ks.length) (hc : t.cs[i]? = some c) (F : FillOk h t i c t1 k1 c1) : Srt (toL h c1) := by
  obtain ⟨X, Y, e1, e2, e3⟩ := F.ex
  have et : toL (h + 1) t = Lf h t1 k1 ++ toL h c1 ++ Rt h t1 k1 := by
    rw [toL_split B hi hc, e1, e2, e3]; simp
  rw [et] at hs
  exact hs.left.right

theorem del_last {X : List KV} {p : KV} (hs : Srt (X ++ [p])) : del p.1 (X ++ [p]) = X := by
  have h := Srt.append_iff.1 hs
  have := del_here (k := p.1) (u := p.2) (A := X) (B := []) (fun q hq => h.2.2 q hq p (by simp)) (fun q hq => by cases hq)
  simpa using this
theorem del_first {X : List KV} {p : KV} (hs : Srt (p :: X)) : del p.1 (p :: X) = X := by
  have h := List.pairwise_cons.1 hs
  have := del_here (k := p.1) (u := p.2) (A := []) (B := X) (fun q hq => by cases hq) h.1
  simpa using this

/-- the parts of a tree about a pair of its root -/
theorem here_parts {h : Nat} {t a b : GT} {i : Nat} {k : ByteArray} {v : Value} (B : BT (h + 1) t) (hs : Srt (toL (h + 1) t)) (hk : t.ks[i]? = some k) (hv : t.vs[i]? = some v) (ha : t.cs[i]? = some a) (hb : t.cs[i + 1]? = some b) :
    toL (h + 1) t = (Lf h t i ++ toL h a) ++ (k, v) :: (toL h b ++ Rt h t (i + 1)) ∧ AllLt (Lf h t i ++ toL h a) k ∧ AllGt (toL h b ++ Rt h t (i + 1)) k := by
  obtain ⟨r1, r2⟩ := Rt_here B hs hk hv hb
  have hi := (List.getElem?_eq_some_iff.1 hk).1
  have et := toL_split B (Nat.le_of_lt hi) ha
  rw [r1] at et
  refine ⟨et, ?_, r2⟩
  rw [et] at hs
  exact fun p hp => (Srt.append_iff.1 hs).2.2 p hp (k, v) (by simp)

/-- a pair of the root is replaced by the last one ahead of it -/
theorem inner_left {h : Nat} {t a b a2 t2 : GT} {i : Nat} {k : ByteArray} {v : Value} {X : List KV} {p : KV} (B : BT (h + 1) t) (hs : Srt (toL (h + 1) t)) (hk : t.ks[i]? = some k) (hv : t.vs[i]? = some v) (ha : t.cs[i]? = some a) (hb : t.cs[i + 1]? = some b)
    (hl : toL h a = X ++ [p]) (he : toL h a2 = X) (Ha : BT h a2) (h3 : 3 ≤ a2.ks.length) (k2 : t2.ks = t.ks.set i p.1) (v2 : t2.vs = t.vs.set i p.2) (c2 : t2.cs = t.cs.set i a2) :
    BT (h + 1) t2 ∧ toL (h + 1) t2 = del k (toL (h + 1) t) ∧ look k (toL (h + 1) t) = some v := by
  obtain ⟨et, hL, hR⟩ := here_parts B hs hk hv ha hb
  have hi := (List.getElem?_eq_some_iff.1 hk).1
  have q1 := B.1
  have q2 := B.2.1
  have B2 : BT (h + 1) t2 := ⟨by rw [c2, k2]; simp; omega, by rw [v2, k2]; simp; omega, by rw [k2]; simp; exact B.2.2.1, fun d hd => by
    rw [c2] at hd
    rcases List.mem_or_eq_of_mem_set hd with hd | rfl
    · exact B.2.2.2 d hd
    · exact ⟨Ha, h3⟩⟩
  refine ⟨B2, ?_, by rw [et]; exact look_here hL⟩
  rw [et, del_here hL hR]
  have hp2 : t2.ps[i]? = some p := by
    rw [GT.ps, List.getElem?_zip_eq_some, k2, v2, List.getElem?_set_self hi, List.getElem?_set_self (by omega)]
    exact ⟨rfl, rfl⟩
  have hca : t2.cs[i]? = some a2 := by rw [c2, List.getElem?_set_self (by omega)]
  have hcb : t2.cs[i + 1]? = some b := by rw [c2, List.getElem?_set_ne (by omega)]; exact hb
  have L1 : Lf h t2 i = Lf h t i := by
    unfold Lf; rw [ps_take, ps_take, k2, v2, c2, List.take_set_of_le (Nat.le_refl _), List.take_set_of_le (Nat.le_refl _), List.take_set_of_le (Nat.le_refl _)]
  have R1 : Rt h t2 (i + 1) = Rt h t (i + 1) := by
    unfold Rt; rw [ps_drop, ps_drop, k2, v2, c2, List.drop_set_of_lt (by omega), List.drop_set_of_lt (by omega), List.drop_set_of_lt (by omega)]
  rw [toL_split B2 (by rw [k2]; simp; omega) hca, Rt_cons hcb hp2, L1, R1, he, hl]
  simp
/-- .. or by the first one behind it -/
theorem inner_right {h : Nat} {t a b b2 t2 : GT} {i : Nat} {k : ByteArray} {v : Value} {X : List KV} {p : KV} (B : BT (h + 1) t) (hs : Srt (toL (h + 1) t)) (hk : t.ks[i]? = some k) (hv : t.vs[i]? = some v) (ha : t.cs[i]? = some a) (hb : t.cs[i + 1]? = some b)
    (hl : toL h b = p :: X) (he : toL h b2 = X) (Hb : BT h b2) (h3 : 3 ≤ b2.ks.length) (k2 : t2.ks = t.ks.set i p.1) (v2 : t2.vs = t.vs.set i p.2) (c2 : t2.cs = t.cs.set (i + 1) b2) :
    BT (h + 1) t2 ∧ toL (h + 1) t2 = del k (toL (h + 1) t) ∧ look k (toL (h + 1) t) = some v := by
  obtain ⟨et, hL, hR⟩ := here_parts B hs hk hv ha hb
  have hi := (List.getElem?_eq_some_iff.1 hk).1
  have q1 := B.1
  have q2 := B.2.1
  have B2 : BT (h + 1) t2 := ⟨by rw [c2, k2]; simp; omega, by rw [v2, k2]; simp; omega, by rw [k2]; simp; exact B.2.2.1, fun d hd => by
    rw [c2] at hd
    rcases List.mem_or_eq_of_mem_set hd with hd | rfl
    · exact B.2.2.2 d hd
    · exact ⟨Hb, h3⟩⟩
  refine ⟨B2, ?_, by rw [et]; exact look_here hL⟩
  rw [et, del_here hL hR]
  have hp2 : t2.ps[i]? = some p := by
    rw [GT.ps, List.getElem?_zip_eq_some, k2, v2, List.getElem?_set_self hi, List.getElem?_set_self (by omega)]
    exact ⟨rfl, rfl⟩
  have hca : t2.cs[i]? = some a := by rw [c2, List.getElem?_set_ne (by omega)]; exact ha
  have hcb : t2.cs[i + 1]? = some b2 := by rw [c2, List.getElem?_set_self (by have := (List.getElem?_eq_some_iff.1 hb).1; exact this)]
  have L1 : Lf h t2 i = Lf h t i := by
    unfold Lf; rw [ps_take, ps_take, k2, v2, c2, List.take_set_of_le (Nat.le_refl _), List.take_set_of_le (Nat.le_refl _), List.take_set_of_le (by omega)]
  have R1 : Rt h t2 (i + 1) = Rt h t (i + 1) := by
    unfold Rt; rw [ps_drop, ps_drop, k2, v2, c2, List.drop_set_of_lt (by omega), List.drop_set_of_lt (by omega), List.drop_set_of_lt (by omega)]
  rw [toL_split B2 (by rw [k2]; simp; omega) hca, Rt_cons hcb hp2, L1, R1, he, hl]
  simp
/-- the two children about a pair have been made one: the pair goes out of that one -/
theorem inner_merged {h : Nat} {t a b t1 c c2 t2 : GT} {i : Nat} {k : ByteArray} {v : Value} (B : BT (h + 1) t) (hs : Srt (toL (h + 1) t)) (hk : t.ks[i]? = some k) (hv : t.vs[i]? = some v) (ha : t.cs[i]? = some a) (hb : t.cs[i + 1]? = some b)
    (B1 : BT (h + 1) t1) (hc : t1.cs[i]? = some c) (hl : toL h c = toL h a ++ (k, v) :: toL h b) (hL1 : Lf h t1 i = Lf h t i) (hR1 : Rt h t1 i = Rt h t (i + 1))
    (k2 : t2.ks = t1.ks) (v2 : t2.vs = t1.vs) (c2' : t2.cs = t1.cs.set i c2) (Hc : BT h c2) (h3 : 3 ≤ c2.ks.length) (he : toL h c2 = del k (toL h c)) :
    BT (h + 1) t2 ∧ toL (h + 1) t2 = del k (toL (h + 1) t) ∧ look k (toL (h + 1) t) = some v ∧ Srt (toL h c) := by
  obtain ⟨et, hL, hR⟩ := here_parts B hs hk hv ha hb
  refine ⟨B1.setKid k2 v2 c2' Hc h3, ?_, by rw [et]; exact look_here hL, ?_⟩
  · rw [toL_setKid B1 k2 v2 c2' hc Hc h3, he, hl, hL1, hR1, et, del_here hL hR, del_here hL.right hR.left]
    simp
  · rw [hl]
    rw [et] at hs
    have e : (Lf h t i ++ toL h a) ++ (k, v) :: (toL h b ++ Rt h t (i + 1)) = Lf h t i ++ ((toL h a ++ (k, v) :: toL h b) ++ Rt h t (i + 1)) := by simp
    rw [e] at hs
    exact hs.right.left

end Go.Proofs.Ytcidmaeclonilaa
