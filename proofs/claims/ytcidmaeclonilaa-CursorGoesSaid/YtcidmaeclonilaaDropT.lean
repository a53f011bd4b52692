/- merge, fromLeft, fromRight of a tree; fill: the child where a key belongs gets more than it needs. -/
import Derived.Test.YtcidmaeclonilaaMerge
import Derived.Test.YtcidmaeclonilaaFLeft
import Derived.Test.YtcidmaeclonilaaFRight
import Derived.Test.YtcidmaeclonilaaNearW
import Derived.Test.YtcidmaeclonilaaMemA
namespace Go.Proofs.Ytcidmaeclonilaa
open Go Go.RowKit

theorem getD_map_sS {l : List ByteArray} {i : Nat} {k : ByteArray} (h : l[i]? = some k) : (l.map Value.string).getD i undef = .string k := by
  rw [List.getD_eq_getElem?_getD, List.getElem?_map, h]; rfl
theorem getD_someS {l : List Value} {i : Nat} {k : Value} (h : l[i]? = some k) : l.getD i undef = k := by
  rw [List.getD_eq_getElem?_getD, h]; rfl

/-- what merge leaves of a tree -/
def MergeTPostS (w : World) (h : Nat) (t a c : GT) (i : Nat) (e : Ending) (w' : World) : Prop :=
  e = .returned (.tuple #[]) ∧ ∃ t1 d k v, t.ks[i]? = some k ∧ t.vs[i]? = some v ∧ t1.b = t.b ∧ Tre TS w' (h + 1) t1 ∧ Chg (fp (h + 1) t) w w' ∧ Sub w (fp (h + 1) t1) (fp (h + 1) t) ∧
    BT (h + 1) t1 ∧ BT h d ∧ d.ks.length = 7 ∧ t1.ks.length + 1 = t.ks.length ∧ toL h d = toL h a ++ (k, v) :: toL h c ∧ t1.cs[i]? = some d ∧ Lf h t1 i = Lf h t i ∧ Rt h t1 i = Rt h t (i + 1)

theorem mergeTS (w : World) (h : Nat) (t a c : GT) (i : Nat) (H : Tre TS w (h + 1) t) (B : BT (h + 1) t) (hi : i < t.ks.length) (ha : t.cs[i]? = some a) (hc : t.cs[i + 1]? = some c) (a3 : a.ks.length = 3) (c3 : c.ks.length = 3) :
    Calls Try.prog 115 #[.pointer (some ⟨t.b, 0, none⟩), .int .i64 i] w (MergeTPostS w h t a c i) := by
  have Ba := (B.kid_at ha).1
  have Bc := (B.kid_at hc).1
  have b1 := B.1
  have b2 := B.2.1
  have b7 := B.2.2.1
  obtain ⟨k, hk⟩ : ∃ k, t.ks[i]? = some k := ⟨_, List.getElem?_eq_getElem hi⟩
  obtain ⟨v, hv⟩ : ∃ v, t.vs[i]? = some v := ⟨_, List.getElem?_eq_getElem (by omega)⟩
  have H3 : Nds TS (fp (h + 1) t) (restM h (t.cs.take i) [a, c] (t.cs.drop (i + 2))) w w [rn t, rn a, rn c] := H.many (two_at ha hc)
  obtain ⟨q, qa, qc, q8⟩ : ∃ q, a.cs.length = q ∧ c.cs.length = q ∧ q ≤ 8 := by
    cases h with
    | zero => exact ⟨0, by rw [Ba.1]; rfl, by rw [Bc.1]; rfl, by omega⟩
    | succ h => exact ⟨4, by have := Ba.1; omega, by have := Bc.1; omega, by omega⟩
  refine (mergeS _ _ w w (rn t) (rn a) (rn c) i t.ks.length q H3 (by simp [rn]) b7 (by show t.vs.length = _; exact b2) (by simp [rn]; omega) hi (by show (t.cs.map ptr)[i]? = _; rw [List.getElem?_map, ha]; rfl)
    (by show (t.cs.map ptr)[i + 1]? = _; rw [List.getElem?_map, hc]; rfl) (by simpa [rn] using a3) (by show a.vs.length = 3; rw [Ba.vs]; exact a3) (by simpa [rn] using c3) (by show c.vs.length = 3; rw [Bc.vs]; exact c3)
    (by simpa [rn] using qa) (by simpa [rn] using qc) q8).mono ?_
  rintro e w' ⟨he, n', a', hN, e1, e2, k1, k2, k3, m1, m2, m3⟩
  have g1 : (rn t).ks.getD i undef = .string k := getD_map_sS hk
  have g2 : (rn t).vs.getD i undef = v := getD_someS hv
  rw [g1] at m1
  rw [g2] at m2
  have r2 : rn (mk a' (a.ks ++ k :: c.ks) (a.cs ++ c.cs)) = a' := rn_mk (by rw [m1]; simp [rn]) (by rw [m3]; simp [rn])
  have hb : ptr (mk a' (a.ks ++ k :: c.ks) (a.cs ++ c.cs)) = ptr a := by simp [ptr, e2, rn]
  have r1 : rn (mk n' (t.ks.take i ++ t.ks.drop (i + 1)) (t.cs.take i ++ [mk a' (a.ks ++ k :: c.ks) (a.cs ++ c.cs)] ++ t.cs.drop (i + 2))) = n' := rn_mk (by rw [k1]; simp [rn]) (by
    rw [k3]
    show (t.cs.map ptr).take (i + 1) ++ (t.cs.map ptr).drop (i + 2) = _
    rw [map_take_succ ptr ha]
    simp [hb])
  have hR := H.regroup (t' := mk n' (t.ks.take i ++ t.ks.drop (i + 1)) (t.cs.take i ++ [mk a' (a.ks ++ k :: c.ks) (a.cs ++ c.cs)] ++ t.cs.drop (i + 2))) (Os := [a, c]) (Ns := [mk a' (a.ks ++ k :: c.ks) (a.cs ++ c.cs)]) (two_at ha hc)
    (by show Nds _ _ _ _ _ [rn _, rn _]; rw [r1, r2]; exact hN) rfl (by simp)
  have hS := merge_shape (t' := mk n' (t.ks.take i ++ t.ks.drop (i + 1)) (t.cs.take i ++ [mk a' (a.ks ++ k :: c.ks) (a.cs ++ c.cs)] ++ t.cs.drop (i + 2))) (c := mk a' (a.ks ++ k :: c.ks) (a.cs ++ c.cs)) B hk hv ha hc a3 c3 rfl k2 rfl rfl m2 rfl
  obtain ⟨s1, s2, s3, s4, s5, s6⟩ := hS
  refine ⟨he, _, _, k, v, hk, hv, ?_, hR.1, hN.chg, hR.2, s1, s2, by simp; omega, by simp; omega, s3, s4, s5, s6⟩
  exact e1

/-- what fill leaves -/
def FillTPostS (w : World) (h : Nat) (t c : GT) (i : Nat) (e : Ending) (w' : World) : Prop :=
  ∃ t1 k1 c1, e = .returned (.int .i64 ((k1 : Nat) : Int)) ∧ t1.b = t.b ∧ Tre TS w' (h + 1) t1 ∧ Chg (fp (h + 1) t) w w' ∧ Sub w (fp (h + 1) t1) (fp (h + 1) t) ∧ FillOk h t i c t1 k1 c1

theorem take_last {α : Type} {l : List α} {p : Nat} {x : α} (h : l.length = p + 1) (hx : l[p]? = some x) : l = l.take p ++ [x] := by
  have := split_at hx
  rw [List.drop_of_length_le (by omega)] at this
  exact this

/-- fromLeft, of a tree -/
def FLeftTPostS (w : World) (h : Nat) (t c : GT) (i : Nat) (e : Ending) (w' : World) : Prop :=
  e = .returned (.tuple #[]) ∧ ∃ t1 c1, t1.b = t.b ∧ Tre TS w' (h + 1) t1 ∧ Chg (fp (h + 1) t) w w' ∧ Sub w (fp (h + 1) t1) (fp (h + 1) t) ∧ FillOk h t i c t1 i c1

theorem fleftTS (w : World) (h : Nat) (t a c : GT) (i : Nat) (H : Tre TS w (h + 1) t) (B : BT (h + 1) t) (hi : i < t.ks.length) (ha : t.cs[i]? = some a) (hc : t.cs[i + 1]? = some c) (a4 : 4 ≤ a.ks.length) (c3 : c.ks.length = 3) :
    Calls Try.prog 116 #[.pointer (some ⟨t.b, 0, none⟩), .int .i64 ((i : Int) + 1)] w (FLeftTPostS w h t c (i + 1)) := by
  have Ba := (B.kid_at ha).1
  have Bc := (B.kid_at hc).1
  have b1 := B.1
  have b2 := B.2.1
  have b7 := B.2.2.1
  have a7 := Ba.ks
  have va := Ba.vs
  obtain ⟨p, hp⟩ : ∃ p, a.ks.length = p + 1 := ⟨a.ks.length - 1, by omega⟩
  obtain ⟨k, hk⟩ : ∃ k, t.ks[i]? = some k := ⟨_, List.getElem?_eq_getElem hi⟩
  obtain ⟨v, hv⟩ : ∃ v, t.vs[i]? = some v := ⟨_, List.getElem?_eq_getElem (by omega)⟩
  obtain ⟨kl, hkl⟩ : ∃ k, a.ks[p]? = some k := ⟨_, List.getElem?_eq_getElem (by omega)⟩
  obtain ⟨vl, hvl⟩ : ∃ v, a.vs[p]? = some v := ⟨_, List.getElem?_eq_getElem (by omega)⟩
  have H3 : Nds TS (fp (h + 1) t) (restM h (t.cs.take i) [a, c] (t.cs.drop (i + 2))) w w [rn t, rn a, rn c] := H.many (two_at ha hc)
  have fin : ∀ (X : List GT) (ac' cc' : List GT), a.cs = ac' ++ X → cc' = X ++ c.cs → (h = 0 → X = []) → (0 < h → X.length = 1) → ∀ e w' n' a' c', e = Ending.returned (.tuple #[]) → Nds TS (fp (h + 1) t) (restM h (t.cs.take i) [a, c] (t.cs.drop (i + 2))) w w' [n', a', c'] →
      n'.b = t.b → a'.b = a.b → c'.b = c.b → n'.ks = (rn t).ks.set i (.string kl) → n'.vs = t.vs.set i vl → n'.ps = (rn t).ps → a'.ks = (rn a).ks.take p → a'.vs = a.vs.take p → c'.ks = .string k :: (rn c).ks → c'.vs = v :: c.vs → a'.ps = ac'.map ptr → c'.ps = cc'.map ptr →
      FLeftTPostS w h t c (i + 1) e w' := by
    intro X ac' cc' hX1 hX2 hX3 hX4 e w' n' a' c' he hN e1 e2 e3 k1 k2 k3 m1 m2 o1 o2 m3 o3
    have r2 : rn (mk a' (a.ks.take p) ac') = a' := rn_mk (by rw [m1]; simp [rn]) m3
    have r3 : rn (mk c' (k :: c.ks) cc') = c' := rn_mk (by rw [o1]; simp [rn]) o3
    have hb2 : ptr (mk a' (a.ks.take p) ac') = ptr a := by simp [ptr, e2]
    have hb3 : ptr (mk c' (k :: c.ks) cc') = ptr c := by simp [ptr, e3]
    have r1 : rn (mk n' (t.ks.set i kl) (t.cs.take i ++ [mk a' (a.ks.take p) ac', mk c' (k :: c.ks) cc'] ++ t.cs.drop (i + 2))) = n' := rn_mk (by rw [k1]; simp [rn, List.map_set]) (by
      rw [k3]
      show t.cs.map ptr = _
      conv => lhs; rw [two_at ha hc]
      simp [hb2, hb3])
    have hR := H.regroup (t' := mk n' (t.ks.set i kl) (t.cs.take i ++ [mk a' (a.ks.take p) ac', mk c' (k :: c.ks) cc'] ++ t.cs.drop (i + 2))) (Os := [a, c]) (Ns := [mk a' (a.ks.take p) ac', mk c' (k :: c.ks) cc']) (two_at ha hc)
      (by show Nds _ _ _ _ _ [rn _, rn _, rn _]; rw [r1, r2, r3]; exact hN) rfl (by simp [hX1, hX2])
    have hS := left_shape (t' := mk n' (t.ks.set i kl) (t.cs.take i ++ [mk a' (a.ks.take p) ac', mk c' (k :: c.ks) cc'] ++ t.cs.drop (i + 2))) (a' := mk a' (a.ks.take p) ac') (b' := mk c' (k :: c.ks) cc') (X := X) B hk hv ha hc
      (take_last hp hkl) (by show a.vs = a'.vs ++ [vl]; rw [m2]; exact take_last (by omega) hvl) hX1 (by show a'.vs.length = (a.ks.take p).length; rw [m2]; simp; omega) (by simp; omega) hX3 hX4 rfl o2 hX2 (by omega) rfl k2 rfl
    obtain ⟨s1, s2, s3, Z, s4, s5, s6⟩ := hS
    refine ⟨he, _, _, ?_, hR.1, hN.chg, hR.2, ⟨s1, s3, by simp; omega, by simp; omega, by simp, Z, [], s5, by rw [s6]; rfl, by rw [s4]; simp⟩⟩
    exact e1
  have g1 : (rn t).ks.getD i undef = .string k := getD_map_sS hk
  have g2 : (rn t).vs.getD i undef = v := getD_someS hv
  have g3 : (rn a).ks.getD p undef = .string kl := getD_map_sS hkl
  have g4 : (rn a).vs.getD p undef = vl := getD_someS hvl
  cases h with
  | zero =>
    have ca : a.cs = [] := Ba.1
    have cc : c.cs = [] := Bc.1
    refine (fleft_leafS _ _ w w (rn t) (rn a) (rn c) i t.ks.length p H3 (by simp [rn]) b7 (by show t.vs.length = _; exact b2) (by simp [rn]; omega) hi (by show (t.cs.map ptr)[i]? = _; rw [List.getElem?_map, ha]; rfl)
      (by show (t.cs.map ptr)[i + 1]? = _; rw [List.getElem?_map, hc]; rfl) (by simpa [rn] using hp) (by show a.vs.length = _; rw [Ba.vs]; exact hp) (by simpa [rn] using c3) (by show c.vs.length = 3; rw [Bc.vs]; exact c3)
      (by simp [rn, ca]) (by simp [rn, cc]) (by omega)).mono ?_
    rintro e w' ⟨he, n', a', c', hN, e1, e2, e3, k1, k2, k3, m1, m2, o1, o2, hl, -⟩
    rw [g3] at k1
    rw [g4] at k2
    rw [g1] at o1
    rw [g2] at o2
    obtain ⟨l1, l2⟩ := hl rfl
    exact fin [] [] [] (by rw [ca]; rfl) (by rw [cc]; rfl) (fun _ => rfl) (fun h => by omega) e w' n' a' c' he hN e1 e2 e3 k1 k2 k3 m1 m2 o1 o2 (by rw [l1]; simp [rn, ca]) (by rw [l2]; simp [rn, cc])
  | succ h =>
    have la : a.cs.length = p + 2 := by have := Ba.1; omega
    have lc : c.cs.length = 4 := by have := Bc.1; omega
    obtain ⟨x, hx⟩ : ∃ x, a.cs[p + 1]? = some x := ⟨_, List.getElem?_eq_getElem (by omega)⟩
    have hax := take_last la hx
    refine (fleft_innerS _ _ w w (rn t) (rn a) (rn c) i t.ks.length p H3 (by simp [rn]) b7 (by show t.vs.length = _; exact b2) (by simp [rn]; omega) hi (by show (t.cs.map ptr)[i]? = _; rw [List.getElem?_map, ha]; rfl)
      (by show (t.cs.map ptr)[i + 1]? = _; rw [List.getElem?_map, hc]; rfl) (by simpa [rn] using hp) (by show a.vs.length = _; rw [Ba.vs]; exact hp) (by simpa [rn] using c3) (by show c.vs.length = 3; rw [Bc.vs]; exact c3)
      (by simpa [rn] using la) (by simpa [rn] using lc) (by omega)).mono ?_
    rintro e w' ⟨he, n', a', c', hN, e1, e2, e3, k1, k2, k3, m1, m2, o1, o2, -, hl⟩
    rw [g3] at k1
    rw [g4] at k2
    rw [g1] at o1
    rw [g2] at o2
    obtain ⟨l1, l2⟩ := hl rfl
    have g7 : (rn a).ps.getD (p + 1) undef = ptr x := by
      show (a.cs.map ptr).getD (p + 1) undef = _
      rw [List.getD_eq_getElem?_getD, List.getElem?_map, hx]; rfl
    rw [g7] at l2
    exact fin [x] (a.cs.take (p + 1)) (x :: c.cs) hax rfl (fun h => by omega) (fun _ => rfl) e w' n' a' c' he hN e1 e2 e3 k1 k2 k3 m1 m2 o1 o2 (by rw [l1]; simp [rn]) (by rw [l2]; simp [rn])

/-- fromRight, of a tree -/
theorem frightTS (w : World) (h : Nat) (t a c : GT) (i : Nat) (H : Tre TS w (h + 1) t) (B : BT (h + 1) t) (hi : i < t.ks.length) (ha : t.cs[i]? = some a) (hc : t.cs[i + 1]? = some c) (a3 : a.ks.length = 3) (c4 : 4 ≤ c.ks.length) :
    Calls Try.prog 117 #[.pointer (some ⟨t.b, 0, none⟩), .int .i64 i] w (FLeftTPostS w h t a i) := by
  have Ba := (B.kid_at ha).1
  have Bc := (B.kid_at hc).1
  have b1 := B.1
  have b2 := B.2.1
  have b7 := B.2.2.1
  have c7 := Bc.ks
  have vc := Bc.vs
  have va := Ba.vs
  obtain ⟨p, hp⟩ : ∃ p, c.ks.length = p + 1 := ⟨c.ks.length - 1, by omega⟩
  obtain ⟨k, hk⟩ : ∃ k, t.ks[i]? = some k := ⟨_, List.getElem?_eq_getElem hi⟩
  obtain ⟨v, hv⟩ : ∃ v, t.vs[i]? = some v := ⟨_, List.getElem?_eq_getElem (by omega)⟩
  obtain ⟨kf, ckr, hck⟩ : ∃ x l, c.ks = x :: l := by
    cases hh : c.ks with
    | nil => rw [hh] at hp; simp at hp
    | cons x l => exact ⟨x, l, rfl⟩
  obtain ⟨vf, cvr, hcv⟩ : ∃ x l, c.vs = x :: l := by
    cases hh : c.vs with
    | nil => rw [hh] at vc; simp at vc; omega
    | cons x l => exact ⟨x, l, rfl⟩
  have lkr : ckr.length = p := by rw [hck] at hp; simpa using hp
  have lvr : cvr.length = p := by rw [hcv, hp] at vc; simpa using vc
  have H3 : Nds TS (fp (h + 1) t) (restM h (t.cs.take i) [a, c] (t.cs.drop (i + 2))) w w [rn t, rn a, rn c] := H.many (two_at ha hc)
  have fin : ∀ (X : List GT) (ac' cc' : List GT), c.cs = X ++ cc' → ac' = a.cs ++ X → (h = 0 → X = []) → (0 < h → X.length = 1) → ∀ e w' n' a' c', e = Ending.returned (.tuple #[]) → Nds TS (fp (h + 1) t) (restM h (t.cs.take i) [a, c] (t.cs.drop (i + 2))) w w' [n', a', c'] →
      n'.b = t.b → a'.b = a.b → c'.b = c.b → n'.ks = (rn t).ks.set i (.string kf) → n'.vs = t.vs.set i vf → n'.ps = (rn t).ps → a'.ks = (rn a).ks ++ [.string k] → a'.vs = a.vs ++ [v] → c'.ks = (rn c).ks.drop 1 → c'.vs = c.vs.drop 1 → a'.ps = ac'.map ptr → c'.ps = cc'.map ptr →
      FLeftTPostS w h t a i e w' := by
    intro X ac' cc' hX1 hX2 hX3 hX4 e w' n' a' c' he hN e1 e2 e3 k1 k2 k3 m1 m2 o1 o2 m3 o3
    have r2 : rn (mk a' (a.ks ++ [k]) ac') = a' := rn_mk (by rw [m1]; simp [rn]) m3
    have r3 : rn (mk c' ckr cc') = c' := rn_mk (by rw [o1]; simp [rn, hck]) o3
    have hb2 : ptr (mk a' (a.ks ++ [k]) ac') = ptr a := by simp [ptr, e2]
    have hb3 : ptr (mk c' ckr cc') = ptr c := by simp [ptr, e3]
    have r1 : rn (mk n' (t.ks.set i kf) (t.cs.take i ++ [mk a' (a.ks ++ [k]) ac', mk c' ckr cc'] ++ t.cs.drop (i + 2))) = n' := rn_mk (by rw [k1]; simp [rn, List.map_set]) (by
      rw [k3]
      show t.cs.map ptr = _
      conv => lhs; rw [two_at ha hc]
      simp [hb2, hb3])
    have hR := H.regroup (t' := mk n' (t.ks.set i kf) (t.cs.take i ++ [mk a' (a.ks ++ [k]) ac', mk c' ckr cc'] ++ t.cs.drop (i + 2))) (Os := [a, c]) (Ns := [mk a' (a.ks ++ [k]) ac', mk c' ckr cc']) (two_at ha hc)
      (by show Nds _ _ _ _ _ [rn _, rn _, rn _]; rw [r1, r2, r3]; exact hN) rfl (by simp [hX1, hX2])
    have hS := right_shape (t' := mk n' (t.ks.set i kf) (t.cs.take i ++ [mk a' (a.ks ++ [k]) ac', mk c' ckr cc'] ++ t.cs.drop (i + 2))) (a' := mk a' (a.ks ++ [k]) ac') (b' := mk c' ckr cc') (X := X) B hk hv ha hc
      hck (by show c.vs = vf :: c'.vs; rw [o2, hcv]; rfl) hX1 (by simp; omega) hX3 hX4 rfl m2 hX2 (by omega) rfl k2 rfl
    obtain ⟨s1, s2, s3, Z, s4, s5, s6⟩ := hS
    refine ⟨he, _, _, ?_, hR.1, hN.chg, hR.2, ⟨s1, s3, by simp; omega, by simp; omega, by simp, [], Z, by rw [s5]; simp, s6, by rw [s4]; simp⟩⟩
    exact e1
  have g1 : (rn t).ks.getD i undef = .string k := getD_map_sS hk
  have g2 : (rn t).vs.getD i undef = v := getD_someS hv
  have g3 : (rn c).ks.getD 0 undef = .string kf := getD_map_sS (by rw [hck]; rfl)
  have g4 : (rn c).vs.getD 0 undef = vf := getD_someS (by show c.vs[0]? = _; rw [hcv]; rfl)
  cases h with
  | zero =>
    have ca : a.cs = [] := Ba.1
    have cc : c.cs = [] := Bc.1
    refine (fright_leafS _ _ w w (rn t) (rn a) (rn c) i t.ks.length p H3 (by simp [rn]) b7 (by show t.vs.length = _; exact b2) (by simp [rn]; omega) hi (by show (t.cs.map ptr)[i]? = _; rw [List.getElem?_map, ha]; rfl)
      (by show (t.cs.map ptr)[i + 1]? = _; rw [List.getElem?_map, hc]; rfl) (by simpa [rn] using a3) (by show a.vs.length = _; rw [Ba.vs]; exact a3) (by simpa [rn] using hp) (by show c.vs.length = _; rw [Bc.vs]; exact hp)
      (by simp [rn, ca]) (by simp [rn, cc]) (by omega)).mono ?_
    rintro e w' ⟨he, n', a', c', hN, e1, e2, e3, k1, k2, k3, m1, m2, o1, o2, hl, -⟩
    rw [g3] at k1
    rw [g4] at k2
    rw [g1] at m1
    rw [g2] at m2
    obtain ⟨l1, l2⟩ := hl rfl
    exact fin [] [] [] (by rw [cc]; rfl) (by rw [ca]; rfl) (fun _ => rfl) (fun h => by omega) e w' n' a' c' he hN e1 e2 e3 k1 k2 k3 m1 m2 o1 o2 (by rw [l1]; simp [rn, ca]) (by rw [l2]; simp [rn, cc])
  | succ h =>
    have lc : c.cs.length = p + 2 := by have := Bc.1; omega
    have la : a.cs.length = 4 := by have := Ba.1; omega
    obtain ⟨x, ccr, hcx⟩ : ∃ x l, c.cs = x :: l := by
      cases hh : c.cs with
      | nil => rw [hh] at lc; simp at lc
      | cons x l => exact ⟨x, l, rfl⟩
    refine (fright_innerS _ _ w w (rn t) (rn a) (rn c) i t.ks.length p H3 (by simp [rn]) b7 (by show t.vs.length = _; exact b2) (by simp [rn]; omega) hi (by show (t.cs.map ptr)[i]? = _; rw [List.getElem?_map, ha]; rfl)
      (by show (t.cs.map ptr)[i + 1]? = _; rw [List.getElem?_map, hc]; rfl) (by simpa [rn] using a3) (by show a.vs.length = _; rw [Ba.vs]; exact a3) (by simpa [rn] using hp) (by show c.vs.length = _; rw [Bc.vs]; exact hp)
      (by simpa [rn] using la) (by simpa [rn] using lc) (by omega)).mono ?_
    rintro e w' ⟨he, n', a', c', hN, e1, e2, e3, k1, k2, k3, m1, m2, o1, o2, -, hl⟩
    rw [g3] at k1
    rw [g4] at k2
    rw [g1] at m1
    rw [g2] at m2
    obtain ⟨l1, l2⟩ := hl rfl
    have g7 : (rn c).ps.getD 0 undef = ptr x := by
      show (c.cs.map ptr).getD 0 undef = _
      rw [hcx]; rfl
    rw [g7] at l1
    exact fin [x] (a.cs ++ [x]) ccr hcx rfl (fun h => by omega) (fun _ => rfl) e w' n' a' c' he hN e1 e2 e3 k1 k2 k3 m1 m2 o1 o2 (by rw [l1]; simp [rn]) (by rw [l2]; simp [rn, hcx])

end Go.Proofs.Ytcidmaeclonilaa
