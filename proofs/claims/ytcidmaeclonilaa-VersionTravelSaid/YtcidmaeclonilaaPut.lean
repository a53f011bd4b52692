/- put: a key's value is set below a node that is not full. -/
import Derived.Test.YtcidmaeclonilaaSplitB
import Derived.Test.YtcidmaeclonilaaMemA
namespace Go.Proofs.Ytcidmaeclonilaa
open Go Go.RowKit

/-- what split leaves of a tree -/
def SplitTPostS (w : World) (h : Nat) (t c : GT) (i : Nat) (e : Ending) (w' : World) : Prop :=
  e = .returned (.tuple #[]) ∧ ∃ n' c' r k3 v3, c.ks[3]? = some k3 ∧ c.vs[3]? = some v3 ∧ n'.b = t.b ∧ Tre TS w' (h + 1) (splitT t c i k3 v3 n' c' r) ∧ Chg (fp (h + 1) t) w w' ∧ Sub w (fp (h + 1) (splitT t c i k3 v3 n' c' r)) (fp (h + 1) t)

theorem splitTrS (w : World) (h : Nat) (t c : GT) (i : Nat) (H : Tre TS w (h + 1) t) (B : BT (h + 1) t) (h6 : t.ks.length ≤ 6) (hc : t.cs[i]? = some c) (h7 : c.ks.length = 7) :
    Calls Try.prog 61 #[.pointer (some ⟨t.b, 0, none⟩), .int .i64 i] w (SplitTPostS w h t c i) := by
  have hi := (List.getElem?_eq_some_iff.1 hc).1
  have Bc := (B.kid (List.mem_of_getElem? hc)).1
  have v7 := Bc.vs
  have H2 := H.two hc
  have hps : (rn t).ps[i]? = some (.pointer (some ⟨(rn c).b, 0, none⟩)) := by
    show (t.cs.map ptr)[i]? = _
    rw [List.getElem?_map, hc]; rfl
  obtain ⟨k3, hk3⟩ : ∃ k3, c.ks[3]? = some k3 := ⟨_, List.getElem?_eq_getElem (by omega)⟩
  obtain ⟨v3, hv3⟩ : ∃ v3, c.vs[3]? = some v3 := ⟨_, List.getElem?_eq_getElem (by omega)⟩
  have fin : ∀ e w', SplitPost (fp (h + 1) t) (rest h t c i) w (rn t) (rn c) i e w' → SplitTPostS w h t c i e w' := by
    rintro e w' ⟨he, n', c', r, hN, b1, b2, k1, k2, k4, c1, c2, c3, r1, r2, r3⟩
    have g3 : (rn c).ks.getD 3 undef = .string k3 := by
      show (c.ks.map Value.string).getD 3 undef = _
      rw [List.getD_eq_getElem?_getD, List.getElem?_map, hk3]; rfl
    have g4 : (rn c).vs.getD 3 undef = v3 := by
      show c.vs.getD 3 undef = _
      rw [List.getD_eq_getElem?_getD, hv3]; rfl
    rw [g3] at k1
    rw [g4] at k2
    have := split_rep (k3 := k3) (v3 := v3) H B hc hN b1 b2 k1 k2 k4 c1 c2 c3 r1 r2 r3
    exact ⟨he, n', c', r, k3, v3, hk3, hv3, b1, this.1, hN.chg, this.2⟩
  have a1 : (rn t).ks.length ≤ 60 := by show (t.ks.map Value.string).length ≤ 60; simp; omega
  have a2 : (rn t).vs.length = (rn t).ks.length := by show t.vs.length = (t.ks.map Value.string).length; simp; exact B.2.1
  have a3 : (rn t).ps.length = (rn t).ks.length + 1 := by show (t.cs.map ptr).length = (t.ks.map Value.string).length + 1; simp; exact B.1
  have a4 : i < (rn t).ps.length := by show i < (t.cs.map ptr).length; simpa using hi
  have a5 : (rn c).ks.length = 7 := by show (c.ks.map Value.string).length = 7; simpa using h7
  have a6 : (rn c).vs.length = 7 := by show c.vs.length = 7; omega
  cases h with
  | zero =>
    have hcs : c.cs = [] := Bc.1
    exact (split_leafS _ _ w w (rn t) (rn c) i H2 a1 a2 a3 a4 hps a5 a6 (by show c.cs.map ptr = []; rw [hcs]; rfl)).mono fin
  | succ h =>
    exact (split_innerS _ _ w w (rn t) (rn c) i H2 a1 a2 a3 a4 hps a5 a6 (by show (c.cs.map ptr).length = 8; have := Bc.1; simp; omega)).mono fin

/-- what put leaves -/
def PutPostS (w : World) (h : Nat) (t : GT) (k : ByteArray) (v : Value) (e : Ending) (w' : World) : Prop :=
  ∃ t', t'.b = t.b ∧ Tre TS w' h t' ∧ BT h t' ∧ t.ks.length ≤ t'.ks.length ∧ toL h t' = ins k v (toL h t) ∧ Chg (fp h t) w w' ∧ Sub w (fp h t') (fp h t) ∧
    e = .returned (.tuple #[(look k (toL h t)).getD (Value.string ⟨#[]⟩), .bool (look k (toL h t)).isSome])

theorem ks_srt {h : Nat} {t : GT} (B : BT h t) (hs : Srt (toL h t)) : KSrt t.ks := by
  refine List.pairwise_iff_getElem.2 fun i j hi hj hij => ?_
  obtain ⟨vi, hvi, hpi⟩ := B.ps_get hi
  obtain ⟨vj, hvj, hpj⟩ := B.ps_get hj
  cases h with
  | zero =>
    have hs' : Srt t.ps := hs
    have h1 := (List.pairwise_iff_getElem.1 hs') i j (by rw [B.ps_len]; exact hi) (by rw [B.ps_len]; exact hj) hij
    rw [(List.getElem?_eq_some_iff.1 hpi).2, (List.getElem?_eq_some_iff.1 hpj).2] at h1
    exact h1
  | succ h =>
    obtain ⟨c, hc⟩ : ∃ c, t.cs[j]? = some c := ⟨_, List.getElem?_eq_getElem (by have := B.1; omega)⟩
    obtain ⟨c1, hc1⟩ : ∃ c, t.cs[j + 1]? = some c := ⟨_, List.getElem?_eq_getElem (by have := B.1; omega)⟩
    obtain ⟨c0, hc0⟩ : ∃ c, t.cs[i]? = some c := ⟨_, List.getElem?_eq_getElem (by have := B.1; omega)⟩
    rw [toL_split B (i := j) (by omega) hc, Rt_cons hc1 hpj] at hs
    have hmem : (t.ks[i], vi) ∈ Lf h t j := by
      unfold Lf
      have hx : t.ps.take j = t.ps.take i ++ (t.ks[i], vi) :: ((t.ps.take j).drop (i + 1)) := by
        have := split_at (l := t.ps.take j) (i := i) (x := (t.ks[i], vi)) (by rw [List.getElem?_take_of_lt hij]; exact hpi)
        rwa [List.take_take, Nat.min_eq_left (by omega)] at this
      have hy : t.cs.take j = t.cs.take i ++ c0 :: ((t.cs.take j).drop (i + 1)) := by
        have := split_at (l := t.cs.take j) (i := i) (x := c0) (by rw [List.getElem?_take_of_lt hij]; exact hc0)
        rwa [List.take_take, Nat.min_eq_left (by omega)] at this
      rw [hx, hy, List.map_append, wl_append (by simp [B.ps_len]; have := B.1; omega)]
      simp [wl]
    exact (Srt.append_iff.1 hs).2.2 (t.ks[i], vi) (List.mem_append_left _ hmem) (t.ks[j], vj) (by simp)

theorem Plc.unique {k : ByteArray} {ks : List ByteArray} {i j : Nat} (h : Plc k ks i) (g : Plc k ks j) : i = j := by
  rcases Nat.lt_trichotomy i j with hlt | he | hgt
  · have hx : ks[i]? = some (ks[i]'(by have := g.le; omega)) := List.getElem?_eq_getElem _
    have := g.lt i _ hlt hx
    rw [h.ge i _ (Nat.le_refl _) hx] at this; cases this
  · exact he
  · have hx : ks[j]? = some (ks[j]'(by have := h.le; omega)) := List.getElem?_eq_getElem _
    have := h.lt j _ hgt hx
    rw [g.ge j _ (Nat.le_refl _) hx] at this; cases this
theorem plc_ex (k : ByteArray) : ∀ (ks : List ByteArray), KSrt ks → ∃ i, Plc k ks i
  | [], _ => ⟨0, Nat.le_refl _, fun j x hj _ => by omega, fun j x _ hx => by simp at hx⟩
  | a :: ks, h => by
    by_cases ha : klt a k = true
    · obtain ⟨i, hi⟩ := plc_ex k ks (List.pairwise_cons.1 h).2
      refine ⟨i + 1, by have := hi.le; simp; omega, fun j x hj hx => ?_, fun j x hj hx => ?_⟩
      · cases j with
        | zero => obtain rfl : a = x := by simpa using hx
                  exact ha
        | succ j => exact hi.lt j x (by omega) (by simpa using hx)
      · cases j with
        | zero => omega
        | succ j => exact hi.ge j x (by omega) (by simpa using hx)
    · refine ⟨0, by simp, fun j x hj _ => by omega, fun j x _ hx => ?_⟩
      cases j with
      | zero => obtain rfl : a = x := by simpa using hx
                simpa using ha
      | succ j =>
        have hx' : ks[j]? = some x := by simpa using hx
        have := (List.pairwise_cons.1 h).1 x (List.mem_of_getElem? hx')
        cases hk : klt x k
        · rfl
        · exact absurd (klt_trans this hk) ha

/-- find at a place that is known -/
theorem findTS (w : World) (t : GT) (key : ByteArray) (i : Nat) (f : Bool) (HN : Nod TS w t) (hlen : t.ks.length ≤ 64) (hs : KSrt t.ks) (hp : Plc key t.ks i) (hf : decide (t.ks[i]? = some key) = f) :
    Calls Try.prog 63 #[.pointer (some ⟨t.b, 0, none⟩), .string key] w fun e w' => e = .returned (.tuple #[.int .i64 i, .bool f]) ∧ Below w.heap.size w w' := by
  refine (findS w t.b t.kv t.vv t.cv t.ks key HN.blk HN.kr hlen hs).mono ?_
  rintro e w' ⟨j, he, hj, hb⟩
  obtain rfl := hp.unique hj
  rw [hf] at he
  exact ⟨he, hb⟩

set_option maxHeartbeats 2000000 in
theorem put_foundS (h : Nat) (t : GT) (w : World) (key : ByteArray) (z3 : ByteArray) (i : Nat) (H : Tre TS w h t) (B : BT h t) (hs : Srt (toL h t)) (hp : Plc key t.ks i) (hf : t.ks[i]? = some key) :
    Calls Try.prog 62 #[.pointer (some ⟨t.b, 0, none⟩), .string key, Value.string z3] w (PutPostS w h t key (Value.string z3)) := by
  have h7 := B.ks
  have hfind := Lib.hid (findTS w t key i true H.nod (by omega) (ks_srt B hs) hp (by simp [hf]))
  have hi : i < t.ks.length := (List.getElem?_eq_some_iff.1 hf).1
  obtain ⟨u, hu⟩ : ∃ u, t.vs[i]? = some u := ⟨_, List.getElem?_eq_getElem (by have := B.vs; omega)⟩
  obtain ⟨A, c, hvv, hc1, hc2, hc3, -⟩ := H.nod.vr.formN B.vs
  obtain ⟨g, rfl, -, -⟩ := hc3 i u hu
  have H1 := H.one
  have fin : ∀ w1, Below w.heap.size w w1 → Hid (PutPostS w h t key (Value.string z3) (.returned (.tuple #[u, .bool true])) (w1.setCell ⟨g, i, none⟩ (Value.string z3))) := fun w1 hb => by
    have h1 := H1.below hb
    have h2 := Nds.setV (i := i) (u := Value.string z3) h1 hvv (by omega) ⟨z3, rfl⟩
    obtain ⟨p1, p2, p3⟩ := put_here (t' := .node t.b t.kv t.vv t.cv t.ks (t.vs.set i (Value.string z3)) t.cs) B hs hf hu rfl rfl rfl
    obtain ⟨q1, q2⟩ := Tre.of_one (t' := .node t.b t.kv t.vv t.cv t.ks (t.vs.set i (Value.string z3)) t.cs) H h2 rfl rfl
    exact ⟨.node t.b t.kv t.vv t.cv t.ks (t.vs.set i (Value.string z3)) t.cs, rfl, q1, p1, Nat.le_refl _, p2, h2.chg, q2, by rw [p3]; rfl⟩
  have HF := Lib.hid fin
  have hN := Lib.hid H1
  obtain ⟨u', hu'⟩ : ∃ u', u' = u := ⟨_, rfl⟩
  obtain ⟨zu, rfl⟩ : StrV u := H.nod.v1 u (List.mem_of_getElem? hu)
  have hiz : (i : Int) < (t.ks.length : Int) := by omega
  have HV := Lib.hid hvv
  have HU := Lib.hid hu
  clear fin H1 hc3 hvv hu hp hs H B hf h7 hu'
  generalize hm : t.ks.length = m at *
  have HM := Lib.hid hm
  clear hm
  go_enter Try.func62, Try.ntmps62
  go_wp2_with (go_at_call 63; refine hfind.out.mono ?_; clear hfind; rintro e w1 ⟨rfl, hb⟩
               have t1 := hN.out
               have t2 := t1.below hb
               have t3 := t2.nod _ (List.mem_cons_self ..)
               have d0 : w1.cell? ⟨t.b, 1, none⟩ = some (.slice (some ⟨g, 0, none⟩) m c) := (t3.blk.cell 1).trans (congrArg some HV.out)
               have t4 : Row w1 9 (.slice (some ⟨g, 0, none⟩) m c) t.vs := by rw [← HV.out]; exact t3.vr
               have t5 := t4.formN (n := m) (by obtain ⟨_, _, e, _⟩ := t4; injection e with _ e _; exact e.symm)
               have d1 : w1.cell? ⟨g, i, none⟩ = some (Value.string zu) := by
                 obtain ⟨A', c', e, _, _, t6, _⟩ := t5
                 obtain ⟨g', e1, e2, _⟩ := t6 i _ HU.out
                 injection e with e _ _
                 rw [← e] at e1; injection e1 with e1; injection e1 with e1
                 rw [e1]; exact e2
               have d2 : w1.frozen? ⟨g, i, none⟩ = false := by
                 obtain ⟨A', c', e, _, _, t6, _⟩ := t5
                 obtain ⟨g', e1, _, e2⟩ := t6 i _ HU.out
                 injection e with e _ _
                 rw [← e] at e1; injection e1 with e1; injection e1 with e1
                 rw [e1]; exact e2
               have hfin := HF.out w1 hb
               clear t1 t2 t3 t4 t5 hb)
  go_ret2
  exact hfin

set_option maxHeartbeats 4000000 in
theorem put_leafS (t : GT) (w : World) (key : ByteArray) (z3 : ByteArray) (i : Nat) (H : Tre TS w 0 t) (B : BT 0 t) (h6 : t.ks.length ≤ 6) (hs : Srt (toL 0 t)) (hp : Plc key t.ks i) (hf : t.ks[i]? ≠ some key) :
    Calls Try.prog 62 #[.pointer (some ⟨t.b, 0, none⟩), .string key, Value.string z3] w (PutPostS w 0 t key (Value.string z3)) := by
  have hfind := Lib.hid (findTS w t key i false H.nod (by omega) (ks_srt B hs) hp (by simp [hf]))
  have hi : i ≤ t.ks.length := hp.le
  have hcs : t.cs = [] := B.1
  have hvl := B.vs
  obtain ⟨KA, kc, hkv, -, -, -, -⟩ := H.nod.kr.formN (n := t.ks.length) (by simp)
  obtain ⟨VA, vc, hvv, -, -, -, -⟩ := H.nod.vr.formN (n := t.ks.length) B.vs
  obtain ⟨CA, cc, hcv, -, -, -, -⟩ := H.nod.cr.formN (n := 0) (by simp [hcs])
  have H1 := H.one
  have e1 : (t.ks.take i ++ key :: t.ks.drop i).map Value.string = (t.ks.map Value.string).take i ++ .string key :: (t.ks.map Value.string).drop i := by simp
  have fin : ∀ (w' : World) (kv' vv' : Value), Nds TS (fp 0 t) (sb 0 t) w w' [⟨t.b, kv', vv', t.cv, (t.ks.map Value.string).take i ++ .string key :: (t.ks.map Value.string).drop i, t.vs.take i ++ (Value.string z3) :: t.vs.drop i, t.cs.map ptr⟩] →
      Hid (PutPostS w 0 t key (Value.string z3) (.returned (.tuple #[(Value.string ⟨#[]⟩), .bool false])) w') := fun w' kv' vv' h2 => by
    obtain ⟨p1, p2, p3⟩ := put_leaf (t' := .node t.b kv' vv' t.cv (t.ks.take i ++ key :: t.ks.drop i) (t.vs.take i ++ (Value.string z3) :: t.vs.drop i) t.cs) (v := Value.string z3) B h6 hs hp hf rfl rfl rfl
    obtain ⟨q1, q2⟩ := Tre.of_one (t' := .node t.b kv' vv' t.cv (t.ks.take i ++ key :: t.ks.drop i) (t.vs.take i ++ (Value.string z3) :: t.vs.drop i) t.cs) H h2 (by simp [rn]) rfl
    exact ⟨.node t.b kv' vv' t.cv (t.ks.take i ++ key :: t.ks.drop i) (t.vs.take i ++ (Value.string z3) :: t.vs.drop i) t.cs, rfl, q1, p1, by simp; omega, p2, h2.chg, q2, by rw [p3]; rfl⟩
  have HF := Lib.hid fin
  have hN := Lib.hid H1
  have HKV := Lib.hid hkv
  have HVV := Lib.hid hvv
  have HCV := Lib.hid hcv
  have E := Lib.hid (And.intro h6 (And.intro hi hvl))
  have OK := Lib.hid (H.nod.rn.kS)
  have OV := Lib.hid (H.nod.v1)
  obtain ⟨m, hm⟩ : ∃ m, m = t.ks.length := ⟨_, rfl⟩
  have HM := Lib.hid hm
  rw [← hm] at hkv hvv hi
  have HKV := Lib.hid hkv
  have HVV := Lib.hid hvv
  clear fin H1 hkv hvv hcv hf hp hs H B e1 hcs hvl h6 hm
  go_enter Try.func62, Try.ntmps62
  go_wp2_with fail
  refine hfind.out.mono ?_
  clear hfind
  rintro e w1 ⟨rfl, hb⟩
  have t1 := hN.out
  have t2 := t1.below hb
  have t3 := t2.nod _ (List.mem_cons_self ..)
  have hl := leafS w1 t.b 0 cc t.kv t.vv CA (by have := t3.blk; rw [← HCV.out]; exact this)
  have HL := Lib.hid hl
  have d0 : w1.cell? ⟨t.b, 0, none⟩ = some (.slice KA m kc) := (t3.blk.cell 0).trans (congrArg some HKV.out)
  have t4 := t2.alloc (.cells #[.string key] 9)
  have t5 := t4.nod _ (List.mem_cons_self ..)
  have hcall : Calls Try.prog 86 #[.slice KA m kc, .int .i64 i, .slice (some ⟨w1.heap.size, 0, none⟩) 1 1] (w1.alloc (.cells #[.string key] 9)) (InsPostN (w1.alloc (.cells #[.string key] 9)) 9 (.slice KA m kc) (m + 1) ((t.ks.map Value.string).take i ++ .string key :: (t.ks.map Value.string).drop i)) :=
    (insertS _ _ (t.ks.map Value.string) (.string key) _ i (by rw [← HKV.out]; exact t5.kr) (by simp; have := E.out.1; omega) (by simp; exact E.out.2.1) (Blk.new _ _ _) rfl (StrV.one OK.out) (fun h => by
      rw [← HKV.out] at h
      have := t3.kr.lt _ h; exact absurd this (Nat.lt_irrefl _))).mono fun _ _ h => insPostN (by have := E.out.2.1; have := HM.out; simp; omega) h
  have HC := Lib.hid hcall
  have HN4 := Lib.hid t4
  clear t1 t2 t3 t4 t5 hl hb hN hcall
  go_wp2_with (go_at_call 64; refine HL.out.mono ?_; rintro e w' ⟨rfl, rfl⟩; clear HL)
  refine HC.out.mono ?_
  clear HC
  rintro e w2 ⟨KA2, kc2, rfl, hrow, hchg, hown⟩
  have t1 := HN4.out
  have hmid := Nds.mid (v := .slice KA m kc) t1 (.inl HKV.out.symm) hchg
  have hb2 := hmid.1
  have c0 : w2.cell? ⟨t.b, 0, none⟩ = some (.slice KA m kc) := (hb2.cell 0).trans (congrArg some HKV.out)
  have f0 : w2.frozen? ⟨t.b, 0, none⟩ = false := hb2.frozen 0
  have c1 : w2.cell? ⟨t.b, 1, none⟩ = some (.slice VA m vc) := (hb2.cell 1).trans (congrArg some HVV.out)
  have ok6 := StrV.mid OK.out key i
  have hchg' : Chg (ob (rn t).kv) (w1.alloc (.cells #[.string key] 9)) w2 := by show Chg (ob t.kv) _ _; rw [HKV.out]; exact hchg
  have hown' : OwnNew (w1.alloc (.cells #[.string key] 9)) (rn t).kv (.slice KA2 (m + 1) kc2) := by show OwnNew _ t.kv _; rw [HKV.out]; exact hown
  have h6 := Nds.slotK t1 hchg' hrow ok6 hown'
  have h7 := h6.alloc (.cells #[Value.string z3] 9)
  have h8 := h6.nod _ (List.mem_cons_self ..)
  have h9 := h7.nod _ (List.mem_cons_self ..)
  have hsz : (w2.setCell ⟨t.b, 0, none⟩ (.slice KA2 (m + 1) kc2)).heap.size = w2.heap.size := by simp [World.setCell]
  have hBn := Blk.new (w2.setCell ⟨t.b, 0, none⟩ (.slice KA2 (m + 1) kc2)) 9 #[Value.string z3]
  rw [hsz] at hBn
  have hcall : Calls Try.prog 86 #[.slice VA m vc, .int .i64 i, .slice (some ⟨w2.heap.size, 0, none⟩) 1 1] ((w2.setCell ⟨t.b, 0, none⟩ (.slice KA2 (m + 1) kc2)).alloc (.cells #[Value.string z3] 9)) (InsPostN ((w2.setCell ⟨t.b, 0, none⟩ (.slice KA2 (m + 1) kc2)).alloc (.cells #[Value.string z3] 9)) 9 (.slice VA m vc) (m + 1) (t.vs.take i ++ (Value.string z3) :: t.vs.drop i)) :=
    (insertS _ _ t.vs (Value.string z3) _ i (by rw [← HVV.out]; exact h9.vr) (by have := E.out.1; have := E.out.2.2; omega) (by have := E.out.2.1; have := E.out.2.2; omega) hBn rfl (StrV.one OV.out) (fun h => by
      rw [← HVV.out] at h
      have hlt : w2.heap.size < (w2.setCell ⟨t.b, 0, none⟩ (.slice KA2 (m + 1) kc2)).heap.size := h8.vr.lt _ h
      rw [hsz] at hlt; exact absurd hlt (Nat.lt_irrefl _))).mono fun _ _ h => insPostN (by have := E.out.2.1; have := E.out.2.2; have := HM.out; simp; omega) h
  have HC := Lib.hid hcall
  have HN7 := Lib.hid h7
  clear hrow hchg hown hmid hb2 t1 ok6 hchg' hown' h6 h7 h8 h9 HN4 hcall d0 hBn hsz
  go_wp2_with fail
  refine HC.out.mono ?_
  clear HC
  rintro e w3 ⟨VA2, vc2, rfl, hrow, hchg, hown⟩
  have t1 := HN7.out
  have hmid := Nds.mid (v := .slice VA m vc) t1 (.inr (.inl HVV.out.symm)) hchg
  have hb2 := hmid.1
  have c2 : w3.cell? ⟨t.b, 1, none⟩ = some (.slice VA m vc) := (hb2.cell 1).trans (congrArg some HVV.out)
  have f2 : w3.frozen? ⟨t.b, 1, none⟩ = false := hb2.frozen 1
  have ok6 := StrV.mid OV.out z3 i
  have hchg' : Chg (ob t.vv) ((w2.setCell ⟨t.b, 0, none⟩ (.slice KA2 (m + 1) kc2)).alloc (.cells #[Value.string z3] 9)) w3 := by rw [HVV.out]; exact hchg
  have hown' : OwnNew ((w2.setCell ⟨t.b, 0, none⟩ (.slice KA2 (m + 1) kc2)).alloc (.cells #[Value.string z3] 9)) t.vv (.slice VA2 (m + 1) vc2) := by rw [HVV.out]; exact hown
  have h6 := Nds.slotV t1 hchg' hrow ok6 hown'
  have hfin := HF.out _ _ _ h6
  clear hrow hchg hown hmid hb2 t1 ok6 hchg' hown' h6 HN7
  go_wp2
  go_ret2
  exact hfin

/-- put below a node that has children, where the child that it goes to is not full (or the key is here) -/
def PutIHS (h : Nat) : Prop := ∀ (t : GT) (w : World) (key : ByteArray) (z3 : ByteArray), Tre TS w h t → BT h t → t.ks.length ≤ 6 → Srt (toL h t) →
    Calls Try.prog 62 #[.pointer (some ⟨t.b, 0, none⟩), .string key, Value.string z3] w (PutPostS w h t key (Value.string z3))

set_option maxHeartbeats 4000000 in
theorem put_stepS (h : Nat) (ih : PutIHS h) (t : GT) (w : World) (key : ByteArray) (z3 : ByteArray) (i : Nat) (c : GT) (H : Tre TS w (h + 1) t) (B : BT (h + 1) t) (hs : Srt (toL (h + 1) t)) (hp : Plc key t.ks i) (hf : t.ks[i]? ≠ some key)
    (hc : t.cs[i]? = some c) (hc6 : c.ks.length ≤ 6) :
    Calls Try.prog 62 #[.pointer (some ⟨t.b, 0, none⟩), .string key, Value.string z3] w (PutPostS w (h + 1) t key (Value.string z3)) := by
  have h7 := B.ks
  have hfind := Lib.hid (findTS w t key i false H.nod (by omega) (ks_srt B hs) hp (by simp [hf]))
  have hi : i ≤ t.ks.length := hp.le
  have Bc := B.kid (List.mem_of_getElem? hc)
  have sc := kid_srt B hs hi hc
  obtain ⟨m, hm⟩ : ∃ m, m = t.ks.length := ⟨_, rfl⟩
  obtain ⟨CA, cc, hcv, -, -, -, hCA⟩ := H.nod.cr.formN (n := m + 1) (by simp; have := B.1; omega)
  obtain ⟨g, rfl⟩ := hCA (by omega)
  obtain ⟨KA, kc, hkv, -, -, -, -⟩ := (H.kid hc).nod.kr.formN (n := c.ks.length) (by simp)
  have fin : ∀ w1 e w', Below w.heap.size w w1 → PutPostS w1 h c key (Value.string z3) e w' → PutPostS w (h + 1) t key (Value.string z3) e w' := by
    rintro w1 e w' hb ⟨c', b1, b2, b3, b4, b5, b6, b7, b8⟩
    have H1 := H.below hb
    obtain ⟨q1, q2⟩ := H1.setKid hc b6 b2 b1 b7
    obtain ⟨p1, p2, p3, _⟩ := put_kid (v := Value.string z3) (t' := .node t.b t.kv t.vv t.cv t.ks t.vs (t.cs.set i c')) B hs hp hf hc rfl rfl rfl b3 (by omega) b5
    have hsub : ∀ k ∈ fp h c, k ∈ fp (h + 1) t := fun k hk => by rw [fp_kid hc]; simp [hk]
    refine ⟨.node t.b t.kv t.vv t.cv t.ks t.vs (t.cs.set i c'), rfl, q1, p1, Nat.le_refl _, p2, ?_, fun k hk => (q2 k hk).imp id (fun x => Nat.le_trans hb.size x), by rw [p3]; exact b8⟩
    exact (Chg.of_below hb).trans b6 fun k hk => .inl (hsub k hk)
  have F := Lib.hid fin
  have HH := Lib.hid H
  have HC := Lib.hid hc
  have HCV := Lib.hid hcv
  have HKV := Lib.hid hkv
  have IH := Lib.hid (show ∀ w1, Below w.heap.size w w1 → Calls Try.prog 62 #[.pointer (some ⟨c.b, 0, none⟩), .string key, Value.string z3] w1 (PutPostS w1 h c key (Value.string z3)) from fun w1 hb => ih c w1 key z3 ((H.kid hc).below hb) Bc.1 hc6 sc)
  have hiz : (i : Int) < (m : Int) + 1 := by omega
  have hn7 : ((c.ks.length : Int) == 7) = false := by rw [beq_eq_false_iff_ne]; omega
  obtain ⟨n, hn⟩ : ∃ n, n = c.ks.length := ⟨_, rfl⟩
  rw [← hn] at hn7
  have HN := Lib.hid hn
  clear fin H B hs hp hf hc hc6 hcv hkv hCA ih Bc sc h7 hm hn
  go_enter Try.func62, Try.ntmps62
  go_wp2_with fail
  refine hfind.out.mono ?_
  clear hfind
  rintro e w1 ⟨rfl, hb⟩
  have hk := IH.out w1 hb
  have hK := Lib.hid hk
  have H1 := HH.out.below hb
  have t3 := H1.nod
  have t4 := (H1.kid HC.out).nod
  have hl := leafS w1 t.b (m + 1) cc t.kv t.vv (some ⟨g, 0, none⟩) (by have := t3.blk; rw [← HCV.out]; exact this)
  have HL := Lib.hid hl
  have d0 : w1.cell? ⟨t.b, 2, none⟩ = some (.slice (some ⟨g, 0, none⟩) (m + 1) cc) := (t3.blk.cell 2).trans (congrArg some HCV.out)
  have d1 : w1.cell? ⟨c.b, 0, none⟩ = some (.slice KA n kc) := (t4.blk.cell 0).trans (congrArg some (by rw [HN.out]; exact HKV.out))
  have r1 : Row w1 99 (.slice (some ⟨g, 0, none⟩) (m + 1) cc) (t.cs.map ptr) := by rw [← HCV.out]; exact t3.cr
  have d2 : w1.cell? ⟨g, i, none⟩ = some (.pointer (some ⟨c.b, 0, none⟩)) := by
    obtain ⟨A', c', e, _, _, t6, _⟩ := r1.form
    obtain ⟨g', e1, e2, _⟩ := t6 i (ptr c) (by rw [List.getElem?_map, HC.out]; rfl)
    injection e with e _ _
    rw [← e] at e1; injection e1 with e1; injection e1 with e1
    rw [e1]; exact e2
  have hfin := Lib.hid (fun e w' => F.out w1 e w' hb)
  clear H1 t3 t4 hl r1 hk hb IH F HH HC
  go_wp2_with (go_at_call 64; refine HL.out.mono ?_; rintro e w' ⟨rfl, rfl⟩; clear HL)
  refine hK.out.mono ?_
  clear hK
  intro e w' hq
  have he := hfin.out e w' hq
  have HE := Lib.hid he
  obtain ⟨_, _, _, _, _, _, _, _, rfl⟩ := hq
  clear he hfin
  go_wp2
  go_ret2
  exact HE.out

theorem plc_split {key k3 : ByteArray} {ks : List ByteArray} {i : Nat} (hp : Plc key ks i) : Plc key (ks.take i ++ k3 :: ks.drop i) (if klt k3 key = true then i + 1 else i) := by
  have hi := hp.le
  have hl : (ks.take i).length = i := by rw [List.length_take]; omega
  have at_ : ∀ j x, (ks.take i ++ k3 :: ks.drop i)[j]? = some x → (j < i ∧ ks[j]? = some x) ∨ (j = i ∧ x = k3) ∨ (i < j ∧ ks[j - 1]? = some x) := fun j x hx => by
    rcases Nat.lt_trichotomy j i with h | rfl | h
    · rw [List.getElem?_append_left (by omega), List.getElem?_take_of_lt h] at hx
      exact .inl ⟨h, hx⟩
    · rw [List.getElem?_append_right (by omega), hl, Nat.sub_self] at hx
      exact .inr (.inl ⟨rfl, by simpa using hx.symm⟩)
    · rw [List.getElem?_append_right (by omega), hl] at hx
      obtain ⟨q, rfl⟩ : ∃ q, j = i + 1 + q := ⟨j - (i + 1), by omega⟩
      rw [show i + 1 + q - i = q + 1 by omega, List.getElem?_cons_succ, List.getElem?_drop] at hx
      exact .inr (.inr ⟨h, by rw [show i + 1 + q - 1 = i + q by omega]; exact hx⟩)
  by_cases hk : klt k3 key = true
  · rw [if_pos hk]
    refine ⟨by simp; omega, fun j x hj hx => ?_, fun j x hj hx => ?_⟩
    · rcases at_ j x hx with ⟨h, hx⟩ | ⟨_, rfl⟩ | ⟨h, hx⟩
      · exact hp.lt j x h hx
      · exact hk
      · omega
    · rcases at_ j x hx with ⟨h, hx⟩ | ⟨h, rfl⟩ | ⟨h, hx⟩
      · omega
      · omega
      · exact hp.ge _ x (by omega) hx
  · rw [if_neg hk]
    refine ⟨by simp; omega, fun j x hj hx => ?_, fun j x hj hx => ?_⟩
    · rcases at_ j x hx with ⟨h, hx⟩ | ⟨h, rfl⟩ | ⟨h, hx⟩
      · exact hp.lt j x h hx
      · omega
      · omega
    · rcases at_ j x hx with ⟨h, hx⟩ | ⟨h, rfl⟩ | ⟨h, hx⟩
      · omega
      · simpa using hk
      · exact hp.ge _ x (by omega) hx

set_option maxHeartbeats 4000000 in
theorem put_fullS (h : Nat) (ih : PutIHS h) (t : GT) (w : World) (key : ByteArray) (z3 : ByteArray) (i : Nat) (c : GT) (H : Tre TS w (h + 1) t) (B : BT (h + 1) t) (h6 : t.ks.length ≤ 6) (hs : Srt (toL (h + 1) t)) (hp : Plc key t.ks i) (hf : t.ks[i]? ≠ some key)
    (hc : t.cs[i]? = some c) (hc7 : c.ks.length = 7) :
    Calls Try.prog 62 #[.pointer (some ⟨t.b, 0, none⟩), .string key, Value.string z3] w (PutPostS w (h + 1) t key (Value.string z3)) := by
  have hfind := Lib.hid (findTS w t key i false H.nod (by omega) (ks_srt B hs) hp (by simp [hf]))
  have hi : i ≤ t.ks.length := hp.le
  have Bc := B.kid (List.mem_of_getElem? hc)
  obtain ⟨m, hm⟩ : ∃ m, m = t.ks.length := ⟨_, rfl⟩
  obtain ⟨CA, cc, hcv, -, -, -, hCA⟩ := H.nod.cr.formN (n := m + 1) (by simp; have := B.1; omega)
  obtain ⟨g, rfl⟩ := hCA (by omega)
  obtain ⟨KA, kc, hkv, -, -, -, -⟩ := (H.kid hc).nod.kr.formN (n := 7) (by simpa using hc7)
  -- behind the split: put once more
  have again : ∀ w1 e w2, Below w.heap.size w w1 → SplitTPostS w1 h t c i e w2 →
      Calls Try.prog 62 #[.pointer (some ⟨t.b, 0, none⟩), .string key, Value.string z3] w2 (PutPostS w (h + 1) t key (Value.string z3)) := by
    rintro w1 e w2 hb ⟨_, n', c', r, k3, v3, hk3, hv3, e1, H2, hg, hsub⟩
    obtain ⟨B2, hL⟩ := split_shape (n' := n') (c' := c') (r := r) B h6 hc hc7 hk3 hv3
    have hp2 : Plc key (splitT t c i k3 v3 n' c' r).ks (if klt k3 key = true then i + 1 else i) := plc_split hp
    have hs2 : Srt (toL (h + 1) (splitT t c i k3 v3 n' c' r)) := by rw [hL]; exact hs
    have lift : ∀ e w3, PutPostS w2 (h + 1) (splitT t c i k3 v3 n' c' r) key (Value.string z3) e w3 → PutPostS w (h + 1) t key (Value.string z3) e w3 := by
      rintro e w3 ⟨t', b1, b2, b3, b4, b5, b6, b7, b8⟩
      have hsz : w.heap.size ≤ w2.heap.size := Nat.le_trans hb.size hg.size
      have hsub' : ∀ k ∈ fp (h + 1) (splitT t c i k3 v3 n' c' r), k ∈ fp (h + 1) t ∨ w.heap.size ≤ k := fun k hk => (hsub k hk).imp id (fun x => Nat.le_trans hb.size x)
      refine ⟨t', b1, b2, b3, ?_, by rw [b5, hL], ?_, fun k hk => ?_, by rw [← hL]; exact b8⟩
      · have : (splitT t c i k3 v3 n' c' r).ks.length = t.ks.length + 1 := by simp [splitT]; omega
        omega
      · exact ((Chg.of_below hb).trans hg (fun k hk => .inl hk)).trans b6 hsub'
      · rcases b7 k hk with hk | hk
        · exact hsub' k hk
        · exact .inr (Nat.le_trans hsz hk)
    have hlen : (t.cs.take i).length = i := by rw [List.length_take]; have := B.1; omega
    by_cases hf2 : (splitT t c i k3 v3 n' c' r).ks[if klt k3 key = true then i + 1 else i]? = some key
    · exact (put_foundS (h + 1) _ w2 key z3 _ H2 B2 hs2 hp2 hf2).mono lift
    · by_cases hk : klt k3 key = true
      · rw [if_pos hk] at hp2 hf2
        exact (put_stepS h ih _ w2 key z3 _ (.node r.b r.kv r.vv r.cv (c.ks.drop 4) (c.vs.drop 4) (c.cs.drop 4)) H2 B2 hs2 hp2 hf2 (by
          simp only [splitT, GT.cs_node]
          rw [List.getElem?_append_right (by omega), hlen, show i + 1 - i = 1 by omega]; rfl) (by simp; omega)).mono lift
      · rw [if_neg hk] at hp2 hf2
        exact (put_stepS h ih _ w2 key z3 _ (.node c.b c'.kv c'.vv c'.cv (c.ks.take 3) (c.vs.take 3) (c.cs.take 4)) H2 B2 hs2 hp2 hf2 (by
          simp only [splitT, GT.cs_node]
          rw [List.getElem?_append_right (by omega), hlen, Nat.sub_self]; rfl) (by simp; omega)).mono lift
  have AG := Lib.hid again
  have HH := Lib.hid H
  have HC := Lib.hid hc
  have HCV := Lib.hid hcv
  have HKV := Lib.hid hkv
  have SP := Lib.hid (show ∀ w1, Below w.heap.size w w1 → Calls Try.prog 61 #[.pointer (some ⟨t.b, 0, none⟩), .int .i64 i] w1 (SplitTPostS w1 h t c i) from fun w1 hb => splitTrS w1 h t c i (H.below hb) B h6 hc hc7)
  have hiz : (i : Int) < (m : Int) + 1 := by omega
  clear again H B hs hp hf hc hc7 hcv hkv hCA ih Bc h6 hm
  go_enter Try.func62, Try.ntmps62
  go_wp2_with fail
  refine hfind.out.mono ?_
  clear hfind
  rintro e w1 ⟨rfl, hb⟩
  have hk := SP.out w1 hb
  have hK := Lib.hid hk
  have H1 := HH.out.below hb
  have t3 := H1.nod
  have t4 := (H1.kid HC.out).nod
  have hl := leafS w1 t.b (m + 1) cc t.kv t.vv (some ⟨g, 0, none⟩) (by have := t3.blk; rw [← HCV.out]; exact this)
  have HL := Lib.hid hl
  have d0 : w1.cell? ⟨t.b, 2, none⟩ = some (.slice (some ⟨g, 0, none⟩) (m + 1) cc) := (t3.blk.cell 2).trans (congrArg some HCV.out)
  have d1 : w1.cell? ⟨c.b, 0, none⟩ = some (.slice KA 7 kc) := (t4.blk.cell 0).trans (congrArg some HKV.out)
  have r1 : Row w1 99 (.slice (some ⟨g, 0, none⟩) (m + 1) cc) (t.cs.map ptr) := by rw [← HCV.out]; exact t3.cr
  have d2 : w1.cell? ⟨g, i, none⟩ = some (.pointer (some ⟨c.b, 0, none⟩)) := by
    obtain ⟨A', c', e, _, _, t6, _⟩ := r1.form
    obtain ⟨g', e1, e2, _⟩ := t6 i (ptr c) (by rw [List.getElem?_map, HC.out]; rfl)
    injection e with e _ _
    rw [← e] at e1; injection e1 with e1; injection e1 with e1
    rw [e1]; exact e2
  have hag := Lib.hid (fun e w2 => AG.out w1 e w2 hb)
  clear H1 t3 t4 hl r1 hk hb SP AG HH HC
  go_wp2_with (go_at_call 64; refine HL.out.mono ?_; rintro e w' ⟨rfl, rfl⟩; clear HL)
  refine hK.out.mono ?_
  clear hK d0 d1 d2
  intro e w2 hq
  have he := hag.out e w2 hq
  have HE := Lib.hid he
  obtain ⟨rfl, _⟩ := hq
  clear he hag
  go_wp2_with fail
  refine HE.out.mono ?_
  clear HE
  intro e w' hq
  have HE := Lib.hid hq
  obtain ⟨_, _, _, _, _, _, _, _, rfl⟩ := hq
  go_wp2
  go_ret2
  exact HE.out

/-- put below a node that is not full -/
theorem put_anyS : ∀ h, PutIHS h
  | 0, t, w, key, z3, H, B, h6, hs => by
    obtain ⟨i, hp⟩ := plc_ex key t.ks (ks_srt B hs)
    by_cases hf : t.ks[i]? = some key
    · exact put_foundS 0 t w key z3 i H B hs hp hf
    · exact put_leafS t w key z3 i H B h6 hs hp hf
  | h + 1, t, w, key, z3, H, B, h6, hs => by
    obtain ⟨i, hp⟩ := plc_ex key t.ks (ks_srt B hs)
    by_cases hf : t.ks[i]? = some key
    · exact put_foundS (h + 1) t w key z3 i H B hs hp hf
    · obtain ⟨c, hc⟩ : ∃ c, t.cs[i]? = some c := ⟨_, List.getElem?_eq_getElem (by have := B.1; have := hp.le; omega)⟩
      have h7 := (B.kid (List.mem_of_getElem? hc)).1.ks
      by_cases hc7 : c.ks.length = 7
      · exact put_fullS h (put_anyS h) t w key z3 i c H B h6 hs hp hf hc hc7
      · exact put_stepS h (put_anyS h) t w key z3 i c H B hs hp hf hc (by omega)

end Go.Proofs.Ytcidmaeclonilaa
