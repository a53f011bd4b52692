/- drop: a key goes out below a node that has more than it needs (printed by mkdrop3.py). -/
import Derived.Test.YtcidmaeclonilaaFill
import Derived.Test.YtcidmaeclonilaaPut
import Derived.Test.YtcidmaeclonilaaTree2
namespace Go.Proofs.Ytcidmaeclonilaa
open Go Go.RowKit

theorem del_of_none {l : List KV} {key : ByteArray} (h : look key l = none) : del key l = l := by
  unfold look at h
  rw [Option.map_eq_none_iff, List.find?_eq_none] at h
  exact List.filter_eq_self.2 fun p hp => by simpa using h p hp

theorem drop_leaf_shape {t t' : GT} {i : Nat} {key : ByteArray} {v : Value} (B : BT 0 t) (hs : Srt (toL 0 t)) (hk : t.ks[i]? = some key) (hv : t.vs[i]? = some v) (k1 : t'.ks = t.ks.take i ++ t.ks.drop (i + 1)) (v1 : t'.vs = t.vs.take i ++ t.vs.drop (i + 1)) (c1 : t'.cs = t.cs) :
    BT 0 t' ∧ toL 0 t' = del key (toL 0 t) ∧ look key (toL 0 t) = some v ∧ t.ks.length ≤ t'.ks.length + 1 := by
  have e := ps_here hk hv
  have hi := (List.getElem?_eq_some_iff.1 hk).1
  have b2 := B.2.1
  have b3 := B.2.2
  have es : toL 0 t = t.ps := rfl
  have hs' := hs
  rw [es, e] at hs'
  have h2 := Srt.append_iff.1 hs'
  have hL : AllLt (t.ps.take i) key := fun p hp => h2.2.2 p hp (key, v) (by simp)
  have hR : AllGt (t.ps.drop (i + 1)) key := (List.pairwise_cons.1 h2.2.1).1
  have e' : t'.ps = t.ps.take i ++ t.ps.drop (i + 1) := by
    unfold GT.ps
    rw [k1, v1, List.zip_append (by simp; omega)]
    simp [List.zip, List.take_zipWith, List.drop_zipWith]
  refine ⟨⟨by rw [c1]; exact B.1, by rw [k1, v1]; simp; omega, by rw [k1]; simp; omega⟩, ?_, ?_, by rw [k1]; simp; omega⟩
  · show t'.ps = del key t.ps
    exact e'.trans ((del_here (u := v) hL hR).symm.trans (congrArg (del key) e.symm))
  · show look key t.ps = some v
    exact (congrArg (look key) e).trans (look_here hL)
theorem look_none_leaf {t : GT} {i : Nat} {key : ByteArray} (B : BT 0 t) (hs : KSrt t.ks) (hp : Plc key t.ks i) (hf : t.ks[i]? ≠ some key) : look key (toL 0 t) = none := by
  show look key t.ps = none
  simp only [look, Option.map_eq_none_iff, List.find?_eq_none]
  rintro ⟨x, v⟩ hm
  obtain ⟨j, hj⟩ := List.mem_iff_getElem?.1 hm
  rw [GT.ps, List.getElem?_zip_eq_some] at hj
  simp only [decide_eq_true_eq]
  rintro rfl
  rcases Nat.lt_trichotomy j i with h | rfl | h
  · have := hp.lt j _ h hj.1
    rw [klt_irrefl] at this; cases this
  · exact hf hj.1
  · have hjl := (List.getElem?_eq_some_iff.1 hj.1).1
    have hx : t.ks[i]? = some (t.ks[i]'(by omega)) := List.getElem?_eq_getElem _
    have h1 := (List.pairwise_iff_getElem.1 hs) i j (by omega) hjl h
    rw [(List.getElem?_eq_some_iff.1 hj.1).2] at h1
    rw [hp.ge i _ (Nat.le_refl _) hx] at h1; cases h1

/-- what drop leaves -/
def DropPostS (w : World) (h : Nat) (t : GT) (key : ByteArray) (e : Ending) (w' : World) : Prop :=
  ∃ t', t'.b = t.b ∧ Tre TS w' h t' ∧ BT h t' ∧ t.ks.length ≤ t'.ks.length + 1 ∧ toL h t' = del key (toL h t) ∧ Chg (fp h t) w w' ∧ Sub w (fp h t') (fp h t) ∧
    e = .returned (.tuple #[(look key (toL h t)).getD (Value.string ⟨#[]⟩), .bool (look key (toL h t)).isSome])
def DropIHS (h : Nat) : Prop := ∀ (t : GT) (w : World) (key : ByteArray), Tre TS w h t → BT h t → Srt (toL h t) → (h = 0 ∨ 1 ≤ t.ks.length) →
  Calls Try.prog 75 #[.pointer (some ⟨t.b, 0, none⟩), .string key] w (DropPostS w h t key)

set_option maxHeartbeats 4000000 in
theorem drop_missS (t : GT) (w : World) (key : ByteArray) (i : Nat) (H : Tre TS w 0 t) (B : BT 0 t) (hs : Srt (toL 0 t)) (hp : Plc key t.ks i) (hf : t.ks[i]? ≠ some key) :
    Calls Try.prog 75 #[.pointer (some ⟨t.b, 0, none⟩), .string key] w (DropPostS w 0 t key) := by
  have h7 := B.ks
  have hfind := Lib.hid (findTS w t key i false H.nod (by omega) (ks_srt B hs) hp (by simp [hf]))
  have hlook := look_none_leaf B (ks_srt B hs) hp hf
  have fin := Lib.hid (fun (w1 : World) (hb : Below w.heap.size w w1) => show DropPostS w 0 t key (.returned (.tuple #[(Value.string ⟨#[]⟩), .bool false])) w1 from
    ⟨t, rfl, H.below hb, B, by omega, (del_of_none hlook).symm, Chg.of_below hb, Sub.refl _ _, by rw [hlook]; rfl⟩)
  have hleaf := Lib.hid (fun (w1 : World) (hb : Below w.heap.size w w1) => leafTS w1 0 t (H.below hb) B)
  clear H B hs hp hf h7 hlook
  go_enter Try.func75, Try.ntmps75
  go_wp2_with fail
  refine hfind.out.mono ?_
  clear hfind
  rintro e w1 ⟨rfl, hb⟩
  have hl := Lib.hid (hleaf.out w1 hb)
  have hfin := Lib.hid (fin.out w1 hb)
  clear fin hleaf hb
  go_wp2_with (go_at_call 64; refine hl.out.mono ?_; rintro e w' ⟨rfl, rfl⟩)
  go_ret2
  exact hfin.out

set_option maxHeartbeats 8000000 in
theorem drop_leafS (t : GT) (w : World) (key : ByteArray) (i : Nat) (H : Tre TS w 0 t) (B : BT 0 t) (hs : Srt (toL 0 t)) (hp : Plc key t.ks i) (hf : t.ks[i]? = some key) :
    Calls Try.prog 75 #[.pointer (some ⟨t.b, 0, none⟩), .string key] w (DropPostS w 0 t key) := by
  have h7 := B.ks
  have hfind := Lib.hid (findTS w t key i true H.nod (by omega) (ks_srt B hs) hp (by simp [hf]))
  have hi : i < t.ks.length := (List.getElem?_eq_some_iff.1 hf).1
  have hvl := B.vs
  obtain ⟨u, hu⟩ : ∃ u, t.vs[i]? = some u := ⟨_, List.getElem?_eq_getElem (by omega)⟩
  obtain ⟨KA, kc, hkv, -, -, -, -⟩ := H.nod.kr.formN (n := t.ks.length) (by simp)
  obtain ⟨VA, vc, hvv, -, -, hvc, -⟩ := H.nod.vr.formN B.vs
  obtain ⟨vg, rfl, -, -⟩ := hvc i u hu
  have H1 := H.one
  have e1 : (t.ks.take i ++ t.ks.drop (i + 1)).map Value.string = (t.ks.map Value.string).take i ++ (t.ks.map Value.string).drop (i + 1) := by simp
  have fin : ∀ (w' : World) (kv' vv' : Value), Nds TS (fp 0 t) (sb 0 t) w w' [⟨t.b, kv', vv', t.cv, (t.ks.map Value.string).take i ++ (t.ks.map Value.string).drop (i + 1), t.vs.take i ++ t.vs.drop (i + 1), t.cs.map ptr⟩] →
      Hid (DropPostS w 0 t key (.returned (.tuple #[u, .bool true])) w') := fun w' kv' vv' h2 => by
    obtain ⟨p1, p2, p3, p4⟩ := drop_leaf_shape (t' := .node t.b kv' vv' t.cv (t.ks.take i ++ t.ks.drop (i + 1)) (t.vs.take i ++ t.vs.drop (i + 1)) t.cs) B hs hf hu rfl rfl rfl
    obtain ⟨q1, q2⟩ := Tre.of_one (t' := .node t.b kv' vv' t.cv (t.ks.take i ++ t.ks.drop (i + 1)) (t.vs.take i ++ t.vs.drop (i + 1)) t.cs) H h2 (by simp [rn]) rfl
    refine ⟨_, ?_, q1, p1, p4, p2, h2.chg, q2, by rw [p3]; rfl⟩
    rfl
  have HF := Lib.hid fin
  have hN := Lib.hid H1
  have HKV := Lib.hid hkv
  have HVV := Lib.hid hvv
  have HU := Lib.hid hu
  have E := Lib.hid (And.intro h7 (And.intro hi hvl))
  have OK := Lib.hid (H.nod.rn.kS)
  have OV := Lib.hid (H.nod.v1)
  have hleaf := Lib.hid (fun (w1 : World) (hb : Below w.heap.size w w1) => leafTS w1 0 t (H.below hb) B)
  obtain ⟨zu, rfl⟩ : StrV u := H.nod.v1 u (List.mem_of_getElem? hu)
  obtain ⟨m, hm⟩ : ∃ m, m = t.ks.length := ⟨_, rfl⟩
  have HM := Lib.hid hm
  rw [← hm] at hkv hvv hi
  have HKV := Lib.hid hkv
  have HVV := Lib.hid hvv
  have hiz : (i : Int) < (m : Int) := by omega
  have hi0 : (0 : Int) ≤ (i : Int) + 1 := by omega
  have hm64 : (m : Int) ≤ 64 := by omega
  have hw1 : IntKind.i64.wrap ((i : Int) + 1) = (i : Int) + 1 := by rw [IntKind.wrap_i64]; omega
  clear fin H1 hkv hvv hf hp hs H B e1 hvl h7 hm hvc hu
  go_enter Try.func75, Try.ntmps75
  go_wp2_with fail
  refine hfind.out.mono ?_
  clear hfind
  rintro e w1 ⟨rfl, hb⟩
  have hl := Lib.hid (hleaf.out w1 hb)
  have t2 := Lib.hid (hN.out.below hb)
  have t3 := Lib.hid (t2.out.nod _ (List.mem_cons_self ..))
  have d0 : w1.cell? ⟨t.b, 0, none⟩ = some (.slice KA m kc) := (t3.out.blk.cell 0).trans (congrArg some HKV.out)
  have d1 : w1.cell? ⟨t.b, 1, none⟩ = some (.slice (some ⟨vg, 0, none⟩) m vc) := (t3.out.blk.cell 1).trans (congrArg some HVV.out)
  have dv : w1.cell? ⟨vg, i, none⟩ = some (Value.string zu) := by
    have t4 : Row w1 9 (.slice (some ⟨vg, 0, none⟩) m vc) t.vs := by rw [← HVV.out]; exact t3.out.vr
    obtain ⟨A', c', e, _, _, t6, _⟩ := t4.form
    obtain ⟨g', e1, e2, _⟩ := t6 i _ HU.out
    injection e with e _ _
    rw [← e] at e1; injection e1 with e1; injection e1 with e1
    rw [e1]; exact e2
  have hdel := Lib.hid (show Calls Try.prog 94 #[.slice KA m kc, .int .i64 i, .int .i64 ((i : Int) + 1)] w1 (DelPostN w1 9 (.slice KA m kc) (m - 1) ((t.ks.map Value.string).take i ++ (t.ks.map Value.string).drop (i + 1))) from
    (deleteS w1 (.slice KA m kc) (t.ks.map Value.string) i (by rw [← HKV.out]; exact t3.out.kr) (by have := E.out; simp; omega) (by have := E.out; simp; omega) (StrV.one OK.out)).mono fun _ _ h => delPostN (by have := E.out; have := HM.out; simp; omega) h)
  clear hleaf hb hN
  go_wp2_with (go_at_call 64; refine hl.out.mono ?_; rintro e w' ⟨rfl, rfl⟩; clear hl)
  refine hdel.out.mono ?_
  clear hdel
  rintro e w2 ⟨KA2, kc2, rfl, hrow, hchg, hown⟩
  have hmid := Nds.mid (v := .slice KA m kc) t2.out (.inl HKV.out.symm) hchg
  have hb2 := hmid.1
  have c0 : w2.cell? ⟨t.b, 0, none⟩ = some (.slice KA m kc) := (hb2.cell 0).trans (congrArg some HKV.out)
  have f0 : w2.frozen? ⟨t.b, 0, none⟩ = false := hb2.frozen 0
  have ok6 : ∀ u ∈ (t.ks.map Value.string).take i ++ (t.ks.map Value.string).drop (i + 1), StrV u := fun u hu => (List.mem_append.1 hu).elim (fun hu => OK.out u (List.mem_of_mem_take hu)) (fun hu => OK.out u (List.mem_of_mem_drop hu))
  have hchg' : Chg (ob (rn t).kv) w1 w2 := by show Chg (ob t.kv) _ _; rw [HKV.out]; exact hchg
  have hown' : OwnNew w1 (rn t).kv (.slice KA2 (m - 1) kc2) := by show OwnNew _ t.kv _; rw [HKV.out]; exact hown
  have h6 := Lib.hid (show Nds TS (fp 0 t) (sb 0 t) w (w2.setCell ⟨t.b, 0, none⟩ (.slice KA2 (m - 1) kc2)) [⟨t.b, .slice KA2 (m - 1) kc2, t.vv, t.cv, (t.ks.map Value.string).take i ++ (t.ks.map Value.string).drop (i + 1), t.vs, t.cs.map ptr⟩] from Nds.slotK t2.out hchg' hrow ok6 hown')
  clear hrow hchg hown hmid hb2 ok6 hchg' hown' t2 t3 d0 d1 dv
  go_upto_region 5 with fail
  generalize w2.setCell ⟨t.b, 0, none⟩ (.slice KA2 (m - 1) kc2) = X at *
  clear c0 f0
  have n3 := Lib.hid (h6.out.nod _ (List.mem_cons_self ..))
  have d1 : X.cell? ⟨t.b, 1, none⟩ = some (.slice (some ⟨vg, 0, none⟩) m vc) := (n3.out.blk.cell 1).trans (congrArg some HVV.out)
  have hdel := Lib.hid (show Calls Try.prog 94 #[.slice (some ⟨vg, 0, none⟩) m vc, .int .i64 i, .int .i64 ((i : Int) + 1)] X (DelPostN X 9 (.slice (some ⟨vg, 0, none⟩) m vc) (m - 1) (t.vs.take i ++ t.vs.drop (i + 1))) from
    (deleteS X (.slice (some ⟨vg, 0, none⟩) m vc) t.vs i (by rw [← HVV.out]; exact n3.out.vr) (by have := E.out; omega) (by have := E.out; omega) (StrV.one OV.out)).mono fun _ _ h => delPostN (by have := E.out; have := HM.out; simp; omega) h)
  go_wp2_with fail
  refine hdel.out.mono ?_
  clear hdel
  rintro e w3 ⟨VA2, vc2, rfl, hrow, hchg, hown⟩
  have hmid := Nds.mid (v := .slice (some ⟨vg, 0, none⟩) m vc) h6.out (.inr (.inl HVV.out.symm)) hchg
  have hb2 := hmid.1
  have c2 : w3.cell? ⟨t.b, 1, none⟩ = some (.slice (some ⟨vg, 0, none⟩) m vc) := (hb2.cell 1).trans (congrArg some HVV.out)
  have f2 : w3.frozen? ⟨t.b, 1, none⟩ = false := hb2.frozen 1
  have ok6 : ∀ u ∈ t.vs.take i ++ t.vs.drop (i + 1), StrV u := fun u hu => (List.mem_append.1 hu).elim (fun hu => OV.out u (List.mem_of_mem_take hu)) (fun hu => OV.out u (List.mem_of_mem_drop hu))
  have hchg' : Chg (ob t.vv) X w3 := by rw [HVV.out]; exact hchg
  have hown' : OwnNew X t.vv (.slice VA2 (m - 1) vc2) := by rw [HVV.out]; exact hown
  have h8 := Nds.slotV h6.out hchg' hrow ok6 hown'
  have hfin := HF.out _ _ _ h8
  clear hrow hchg hown hmid hb2 ok6 hchg' hown' h6 h8 n3 d1
  go_wp2
  go_ret2
  exact hfin.out

set_option maxRecDepth 100000 in
set_option maxHeartbeats 16000000 in
theorem winner_leftS (h : Nat) (ih : DropIHS h) (t a c : GT) (w : World) (i : Nat) (k : ByteArray) (v : Value) (H : Tre TS w (h + 1) t) (B : BT (h + 1) t) (hs : Srt (toL (h + 1) t)) (hk : t.ks[i]? = some k) (hv : t.vs[i]? = some v) (ha : t.cs[i]? = some a) (hc : t.cs[i + 1]? = some c)
    (a4 : 4 ≤ a.ks.length) :
    Calls Try.prog 95 #[.pointer (some ⟨t.b, 0, none⟩), .int .i64 i] w (DropPostS w (h + 1) t k) := by
  have Ba := (B.kid_at ha).1
  have Bc := (B.kid_at hc).1
  have b1 := B.1
  have b2 := B.2.1
  have b7 := B.2.2.1
  have hi : i < t.ks.length := (List.getElem?_eq_some_iff.1 hk).1
  have sk : Srt (toL h a) := kid_srt B hs (Nat.le_of_lt hi) ha
  obtain ⟨v', hv'⟩ : ∃ x, x = v := ⟨_, rfl⟩
  have HV' := Lib.hid hv'
  obtain ⟨zu, rfl⟩ : StrV v := H.nod.v1 v (List.mem_of_getElem? hv)
  obtain ⟨m, hm⟩ : ∃ m, m = t.ks.length := ⟨_, rfl⟩
  have cells := Lib.hid (show ∀ w1, Tre TS w1 (h + 1) t → ∃ (kg kvc vg vvc g cc : Nat), w1.cell? ⟨t.b, 0, none⟩ = some (.slice (some ⟨kg, 0, none⟩) m kvc) ∧ w1.cell? ⟨kg, i, none⟩ = some (.string k) ∧ w1.cell? ⟨t.b, 1, none⟩ = some (.slice (some ⟨vg, 0, none⟩) m vvc) ∧ w1.cell? ⟨vg, i, none⟩ = some (Value.string zu) ∧
      w1.cell? ⟨t.b, 2, none⟩ = some (.slice (some ⟨g, 0, none⟩) (m + 1) cc) ∧ w1.cell? ⟨g, i, none⟩ = some (.pointer (some ⟨a.b, 0, none⟩)) ∧ w1.cell? ⟨g, i + 1, none⟩ = some (.pointer (some ⟨c.b, 0, none⟩)) ∧
      (∃ (A : Option Addr) (q : Nat), w1.cell? ⟨a.b, 0, none⟩ = some (.slice A a.ks.length q)) ∧ ∃ (A : Option Addr) (q : Nat), w1.cell? ⟨c.b, 0, none⟩ = some (.slice A c.ks.length q) from fun w1 H1 => by
    have C := celS H1 B
    rw [← hm] at C
    obtain ⟨KA, kvc, d0, d1⟩ := C.key
    obtain ⟨kg, rfl, d1'⟩ := d1 i k hk
    obtain ⟨VA, vvc, e0, e1⟩ := C.val
    obtain ⟨vg, rfl, e1'⟩ := e1 i _ hv
    obtain ⟨g, cc, _, _, f0, -, f1⟩ := kidCellsS H1 B
    rw [← hm] at f0
    exact ⟨kg, kvc, vg, vvc, g, cc, d0, d1', e0, e1', f0, (f1 i a ha).1, (f1 (i + 1) c hc).1, (f1 i a ha).2, (f1 (i + 1) c hc).2⟩)
  have hend := Lib.hid (fun (w1 : World) (H1 : Tre TS w1 (h + 1) t) => endS w1 h a (H1.kid ha) Ba (by omega))
  have hdrop := Lib.hid (fun (w1 : World) (key : ByteArray) (H1 : Tre TS w1 (h + 1) t) => ih a w1 key (H1.kid ha) Ba sk (.inr (by omega)))
  have vp := Lib.hid (fun (w1 : World) (H1 : Tre TS w1 (h + 1) t) (p : KV) (hp : p ∈ toL h a) => show StrV p.2 from isV_ofS (H1.kid ha) Ba p hp)
  have hiz : (i : Int) < (m : Int) := by omega
  have hiz1 : (i : Int) < (m : Int) + 1 := by omega
  have hi1 : (i : Int) + 1 < (m : Int) + 1 := by omega
  have hi0 : (0 : Int) ≤ (i : Int) + 1 := by omega
  have hw1 : IntKind.i64.wrap ((i : Int) + 1) = (i : Int) + 1 := by rw [IntKind.wrap_i64]; omega
  have ht1 : ((i : Int) + 1).toNat = i + 1 := by omega
  have hm64 : (m : Int) ≤ 64 := by omega
  -- what it comes to
  have fin := Lib.hid (show ∀ (w1 w2 w3 : World) (p : KV) (d2 : GT) (t3 : GT), Tre TS w1 (h + 1) t → Below w.heap.size w w1 → (toL h a).getLast? = some p → Below w1.heap.size w1 w2 → d2.b = a.b → BT h d2 → a.ks.length ≤ d2.ks.length + 1 → toL h d2 = del p.1 (toL h a) → Chg (fp h a) w2 w3 → Sub w2 (fp h d2) (fp h a) → Tre TS w3 h d2 →
      t3 = .node t.b t.kv t.vv t.cv t.ks t.vs (t.cs.set i d2) → Tre TS w3 (h + 1) t3 ∧ ∀ (w4 : World), Nds TS (fp (h + 1) t3) (sb (h + 1) t3) w3 w4 [⟨t3.b, t3.kv, t3.vv, t3.cv, (t3.ks.map Value.string).set i (.string p.1), t3.vs.set i p.2, t3.cs.map ptr⟩] → DropPostS w (h + 1) t k (.returned (.tuple #[v', .bool true])) w4 from by
    intro w1 w2 w3 p d2 t3 H1 hb1 hp hb2 e1 e2 e3 e4 e5 e6 e7 et3
    have H2 := H1.below hb2
    obtain ⟨q1, q2⟩ := H2.setKid ha e5 e7 e1 e6
    rw [← et3] at q1 q2
    refine ⟨q1, fun w4 h4 => ?_⟩
    obtain ⟨r1, r2⟩ := Tre.of_one (t' := .node t3.b t3.kv t3.vv t3.cv (t3.ks.set i p.1) (t3.vs.set i p.2) t3.cs) q1 h4 (by simp [rn, List.map_set]) rfl
    obtain ⟨X, hX⟩ : ∃ X, toL h a = X ++ [p] := by
      obtain ⟨ys, hys⟩ := List.getLast?_eq_some_iff.1 hp
      exact ⟨ys, hys⟩
    have hd2 : toL h d2 = X := by rw [e4, hX]; exact del_last (by rw [← hX]; exact sk)
    obtain ⟨s1, s2, s3⟩ := inner_left (t2 := .node t3.b t3.kv t3.vv t3.cv (t3.ks.set i p.1) (t3.vs.set i p.2) t3.cs) B hs hk hv ha hc hX hd2 e2 (by omega) (by rw [et3]; rfl) (by rw [et3]; rfl) (by rw [et3]; rfl)
    have hsub : ∀ x ∈ fp h a, x ∈ fp (h + 1) t := fun x hx => by rw [fp_kid ha]; simp [hx]
    have c1 : Chg (fp (h + 1) t) w w3 := (Chg.of_below (hb1.trans (hb2.mono hb1.size))).trans e5 fun x hx => .inl (hsub x hx)
    have hs3 : w.heap.size ≤ w3.heap.size := c1.size
    have hs2 : w.heap.size ≤ w2.heap.size := (hb1.trans (hb2.mono hb1.size)).size
    refine ⟨_, by rw [et3]; rfl, r1, s1, by rw [et3]; simp, s2, c1.trans h4.chg fun x hx => (q2 x hx).imp id (fun hh => by omega), fun x hx => ?_, by rw [s3, HV'.out]; rfl⟩
    rcases r2 x hx with hh | hh
    · exact (q2 x hh).imp id (fun hh => by omega)
    · exact .inr (by omega))
  have HS := Lib.hid (show Tre TS w (h + 1) t ∧ Below w.heap.size w w from ⟨H, Below.refl _ _⟩)
  obtain ⟨n, hn⟩ : ∃ n, n = a.ks.length := ⟨_, rfl⟩
  have hnz : (3 : Int) < (n : Int) := by omega
  have tk := Lib.hid (And.intro hm (And.intro hk hv))
  have V7 := Lib.hid b2
  clear hv' ih Ba Bc b1 b2 b7 hi sk H B hs hk hv ha hc a4
  rw [← hn] at cells
  clear hn hm
  obtain ⟨kg0, kvc0, vg0, vvc0, g0, cc0, d0, d1, e0, e1, f0, f1, f2, -, -⟩ := cells.out w HS.out.1
  go_enter Try.func95, Try.ntmps95
  go_upto_region 1 with fail
  go_cut [6, 7] from 14 (fun s6 s7 wc => s6 = (Value.string zu) ∧ s7 = .string k ∧ Hid (Tre TS wc (h + 1) t ∧ Below w.heap.size w wc))
  case first =>
    go_quiet (fail)
    go_wp2_with fail
    go_meet
    case rel => exact ⟨rfl, rfl, Lib.hid ⟨HS.out.1.below (below_drewN' (Below.refl _ _) _), below_drewN' HS.out.2 _⟩⟩
  case rest =>
    obtain ⟨rfl, rfl, HS1⟩ := hcut
    clear d0 d1 e0 e1 f0 f1 f2 HS
    obtain ⟨kg, kvc, vg, vvc, g, cc, d0, d1, e0, e1, f0, f1, f2, -, -⟩ := cells.out wc HS1.out.1
    go_upto_region 2 with fail
    go_cut [8, 9] from 28 (fun s8 s9 w1 => s8 = .pointer (some ⟨a.b, 0, none⟩) ∧ s9 = .pointer (some ⟨c.b, 0, none⟩) ∧ Hid (Tre TS w1 (h + 1) t ∧ Below w.heap.size w w1))
    case first =>
      go_quiet (fail)
      go_wp2_with fail
      go_meet
      case rel => exact ⟨rfl, rfl, Lib.hid ⟨HS1.out.1.below (below_drewN' (Below.refl _ _) _), below_drewN' HS1.out.2 _⟩⟩
    case rest =>
      rename_i wc0 _ _ _ _
      obtain ⟨rfl, rfl, HS2⟩ := hcut
      clear d0 d1 e0 e1 f0 f1 f2 HS1
      obtain ⟨kg1, kvc1, vg1, vvc1, g1, cc1, -, -, -, -, -, -, -, ⟨KA, qa, h0⟩, ⟨KC, qc, h1⟩⟩ := cells.out wc HS2.out.1
      have he := Lib.hid (hend.out wc HS2.out.1)
      go_wp2_with fail
      refine he.out.mono ?_
      clear he hend
      rintro e w2 ⟨p, hp, rfl, hb⟩
      have hpm : p ∈ toL h a := List.mem_of_getLast? hp
      obtain ⟨pk, pv⟩ := p
      obtain ⟨zw, rfl⟩ : StrV pv := vp.out wc HS2.out.1 _ hpm
      have H2 := Lib.hid (HS2.out.1.below hb)
      have hd := Lib.hid (hdrop.out w2 pk H2.out)
      have HP := Lib.hid (And.intro hp hb)
      clear hp hb hpm vp hdrop h0 h1
      go_wp2_with fail
      refine hd.out.mono ?_
      clear hd
      rintro e w3 ⟨d2, q1, q2, q3, q4, q5, q6, q7, rfl⟩
      obtain ⟨t3, ht3⟩ : ∃ t3, t3 = GT.node t.b t.kv t.vv t.cv t.ks t.vs (t.cs.set i d2) := ⟨_, rfl⟩
      obtain ⟨H3, fin3⟩ := fin.out wc w2 w3 (pk, Value.string zw) d2 t3 HS2.out.1 HS2.out.2 HP.out.1 HP.out.2 q1 q3 q4 q5 q6 q7 q2 ht3
      have F3 := Lib.hid fin3
      have HR0 := Lib.hid H3.one
      have k3 : t3.ks = t.ks := by rw [ht3]; rfl
      have v3 : t3.vs = t.vs := by rw [ht3]; rfl
      have b3 : t3.b = t.b := by rw [ht3]; rfl
      obtain ⟨KA3, kvc, hkv3, -, -, -, hKA⟩ := H3.nod.kr.formN (n := m) (by rw [k3, tk.out.1]; simp)
      obtain ⟨kg, rfl⟩ := hKA (by have := (List.getElem?_eq_some_iff.1 tk.out.2.1).1; have := tk.out.1; omega)
      obtain ⟨VA3, vvc, hvv3, -, -, -, hVA⟩ := H3.nod.vr.formN (n := m) (by rw [v3, tk.out.1]; exact V7.out)
      obtain ⟨vg, rfl⟩ := hVA (by have := (List.getElem?_eq_some_iff.1 tk.out.2.1).1; have := tk.out.1; omega)
      have HR : Hid (Nds TS (fp (h + 1) t3) (sb (h + 1) t3) w3 w3 [⟨t3.b, .slice (some ⟨kg, 0, none⟩) m kvc, .slice (some ⟨vg, 0, none⟩) m vvc, t3.cv, t3.ks.map Value.string, t3.vs, t3.cs.map ptr⟩]) := by
        rw [← hkv3, ← hvv3]; exact HR0
      have K3 := Lib.hid (show (t3.ks.map Value.string)[i]? = some (.string k) by rw [k3, List.getElem?_map, tk.out.2.1]; rfl)
      have V3 := Lib.hid (show t3.vs[i]? = some (Value.string zu) by rw [v3]; exact tk.out.2.2)
      have E3 := Lib.hid (And.intro hkv3 hvv3)
      rw [← b3]
      clear H3 fin3 q1 q2 q3 q4 q5 q6 q7 ht3 k3 v3 b3 hkv3 hvv3 hKA hVA HR0 HP H2 HS2 cells fin tk V7
      go_upto_region 8 with fail
      have d1 := Lib.hid (HR.out.nod ⟨t3.b, .slice (some ⟨kg, 0, none⟩) m kvc, .slice (some ⟨vg, 0, none⟩) m vvc, t3.cv, t3.ks.map Value.string, t3.vs, t3.cs.map ptr⟩ (by simp))
      go_wp2_with fail
      refine wp_region_noPanic ?_
      refine wp_region_lateM (fun w' : World => w'.cell? ⟨t3.b, 0, none⟩ = some (.slice (some ⟨kg, 0, none⟩) m kvc) ∧ w'.cell? ⟨t3.b, 1, none⟩ = some (.slice (some ⟨vg, 0, none⟩) m vvc)) [13, 15] (by kernel_rfl) ?_
      have hS0 : (fun w' : World => w'.cell? ⟨t3.b, 0, none⟩ = some (.slice (some ⟨kg, 0, none⟩) m kvc) ∧ w'.cell? ⟨t3.b, 1, none⟩ = some (.slice (some ⟨vg, 0, none⟩) m vvc)) w3.drew := ⟨d1.out.blk.cell 0, d1.out.blk.cell 1⟩
      refine wpAnyM_take0 0 70 (v := ?_) rfl rfl (by kernel_rfl) (by kernel_rfl) (by kernel_rfl) (fun _ _ _ h => h) (by rfl) ?_ ?_
      rotate_left
      · (intro w'; go_simp; try with_reducible rfl)
      simp only [List.setIfInBounds_toArray, List.set_cons_zero, List.set_cons_succ]
      refine wpAnyM_take0 1 71 (v := ?_) rfl rfl (by kernel_rfl) (by kernel_rfl) (by kernel_rfl) (fun _ _ _ h => h) (by rfl) ?_ ?_
      rotate_left
      · (intro w'; go_simp; try with_reducible rfl)
      simp only [List.setIfInBounds_toArray, List.set_cons_zero, List.set_cons_succ]
      refine wpAnyM_take0 2 72 (v := ?_) rfl rfl (by kernel_rfl) (by kernel_rfl) (by kernel_rfl) (fun _ _ _ h => h) (by rfl) ?_ ?_
      rotate_left
      · (intro w'; go_simp; try with_reducible rfl)
      simp only [List.setIfInBounds_toArray, List.set_cons_zero, List.set_cons_succ]
      refine wpAnyM_take 3 73 (v := ?_) rfl rfl (by kernel_rfl) (by kernel_rfl) (by kernel_rfl) (by kernel_rfl) (fun _ _ _ h => h) (by rfl) ?_ hS0 ?_
      rotate_left
      · (intro w' hSw; obtain ⟨q1, q2⟩ := hSw; go_simp; try with_reducible rfl)
      simp only [List.setIfInBounds_toArray, List.set_cons_zero, List.set_cons_succ]
      refine wpAnyM_take0 4 74 (v := ?_) rfl rfl (by kernel_rfl) (by kernel_rfl) (by kernel_rfl) (fun _ _ _ h => h) (by rfl) ?_ ?_
      rotate_left
      · (intro w'; go_simp; try with_reducible rfl)
      simp only [List.setIfInBounds_toArray, List.set_cons_zero, List.set_cons_succ]
      refine wpAnyM_take0 5 75 (v := ?_) rfl rfl (by kernel_rfl) (by kernel_rfl) (by kernel_rfl) (fun _ _ _ h => h) (by rfl) ?_ ?_
      rotate_left
      · (intro w'; go_simp; try with_reducible rfl)
      simp only [List.setIfInBounds_toArray, List.set_cons_zero, List.set_cons_succ]
      refine wpAnyM_take0 6 76 (v := ?_) rfl rfl (by kernel_rfl) (by kernel_rfl) (by kernel_rfl) (fun _ _ _ h => h) (by rfl) ?_ ?_
      rotate_left
      · (intro w'; go_simp; try with_reducible rfl)
      simp only [List.setIfInBounds_toArray, List.set_cons_zero, List.set_cons_succ]
      refine wpAnyM_take0 7 77 (v := ?_) rfl rfl (by kernel_rfl) (by kernel_rfl) (by kernel_rfl) (fun _ _ _ h => h) (by rfl) ?_ ?_
      rotate_left
      · (intro w'; go_simp; try with_reducible rfl)
      simp only [List.setIfInBounds_toArray, List.set_cons_zero, List.set_cons_succ]
      refine wpAnyM_take 8 78 (v := ?_) rfl rfl (by kernel_rfl) (by kernel_rfl) (by kernel_rfl) (by kernel_rfl) (fun _ _ _ h => h) (by rfl) ?_ hS0 ?_
      rotate_left
      · (intro w' hSw; obtain ⟨q1, q2⟩ := hSw; go_simp; try with_reducible rfl)
      simp only [List.setIfInBounds_toArray, List.set_cons_zero, List.set_cons_succ]
      refine wpAnyM_take0 9 79 (v := ?_) rfl rfl (by kernel_rfl) (by kernel_rfl) (by kernel_rfl) (fun _ _ _ h => h) (by rfl) ?_ ?_
      rotate_left
      · (intro w'; go_simp; try with_reducible rfl)
      simp only [List.setIfInBounds_toArray, List.set_cons_zero, List.set_cons_succ]
      refine wpAnyM_take0 10 80 (v := ?_) rfl rfl (by kernel_rfl) (by kernel_rfl) (by kernel_rfl) (fun _ _ _ h => h) (by rfl) ?_ ?_
      rotate_left
      · (intro w'; go_simp; try with_reducible rfl)
      simp only [List.setIfInBounds_toArray, List.set_cons_zero, List.set_cons_succ]
      refine wpAnyM_take0 11 81 (v := ?_) rfl rfl (by kernel_rfl) (by kernel_rfl) (by kernel_rfl) (fun _ _ _ h => h) (by rfl) ?_ ?_
      rotate_left
      · (intro w'; go_simp; try with_reducible rfl)
      simp only [List.setIfInBounds_toArray, List.set_cons_zero, List.set_cons_succ]
      have HRb := Lib.hid (Nds.setK HR.out.drew (i := i) (u := Value.string pk) rfl (show i < m by omega) ⟨_, rfl⟩)
      have d2 := Lib.hid (HRb.out.nod ⟨t3.b, .slice (some ⟨kg, 0, none⟩) m kvc, .slice (some ⟨vg, 0, none⟩) m vvc, t3.cv, (t3.ks.map Value.string).set i (Value.string pk), t3.vs, t3.cs.map ptr⟩ (by simp))
      have k1 : w3.drew.cell? ⟨kg, i, none⟩ = some (Value.string k) := d1.out.kcell K3.out
      have k2 : w3.drew.frozen? ⟨kg, i, none⟩ = false := (show Row w3.drew 9 (.slice (some ⟨kg, 0, none⟩) m kvc) (t3.ks.map Value.string) from d1.out.kr).frozen_ i
      have v1 : (w3.drew.setCell ⟨kg, i, none⟩ (Value.string pk)).cell? ⟨vg, i, none⟩ = some (Value.string zu) := d2.out.vcell V3.out
      have v2 : (w3.drew.setCell ⟨kg, i, none⟩ (Value.string pk)).frozen? ⟨vg, i, none⟩ = false := (show Row (w3.drew.setCell ⟨kg, i, none⟩ (Value.string pk)) 9 (.slice (some ⟨vg, 0, none⟩) m vvc) (t3.vs) from d2.out.vr).frozen_ i
      refine wpAnyM_val 12 82 (v := .pointer (some ⟨kg, i, none⟩)) (w' := w3.drew) rfl rfl (by kernel_rfl) (by rfl) (by go_simp; try rfl) (.inr (fun h => h)) ?_
      simp only [List.setIfInBounds_toArray, List.set_cons_zero, List.set_cons_succ]
      refine wpAnyM_skip 13 (w' := (w3.drew.setCell ⟨kg, i, none⟩ (Value.string pk))) rfl rfl (by kernel_rfl) (by rfl) (by go_simp; try rfl) (.inl (by simp)) ?_
      generalize hE : (w3.drew.setCell ⟨kg, i, none⟩ (Value.string pk)) = Y1 at *
      refine wpAnyM_val 14 83 (v := .pointer (some ⟨vg, i, none⟩)) (w' := Y1) rfl rfl (by kernel_rfl) (by rfl) (by go_simp; try rfl) (.inr (fun h => h)) ?_
      simp only [List.setIfInBounds_toArray, List.set_cons_zero, List.set_cons_succ]
      refine wpAnyM_skip 15 (w' := Y1.setCell ⟨vg, i, none⟩ (Value.string zw)) rfl rfl (by kernel_rfl) (by rfl) (by go_simp; try rfl) (.inl (by simp)) ?_
      have HRc := Lib.hid (Nds.setV HRb.out (i := i) (u := Value.string zw) rfl (show i < m by omega) ⟨zw, rfl⟩)
      refine wpAnyM_done (by kernel_rfl) ?_ _
      refine NoPanic.normal ?_
      generalize Y1.setCell ⟨vg, i, none⟩ (Value.string zw) = X1 at *
      clear hS0 k1 k2 v1 v2 HR HRb d1 d2
      try clear hE
      have HR := HRc
      clear HRc
      have hfin := F3.out _ (by
        have := HR.out
        rw [← E3.out.1, ← E3.out.2] at this
        exact this)
      rw [HV'.out] at hfin
      have HF := Lib.hid hfin
      clear hfin F3 HR
      go_wp2
      go_ret2
      exact HF.out

set_option maxRecDepth 100000 in
set_option maxHeartbeats 16000000 in
theorem winner_rightS (h : Nat) (ih : DropIHS h) (t a c : GT) (w : World) (i : Nat) (k : ByteArray) (v : Value) (H : Tre TS w (h + 1) t) (B : BT (h + 1) t) (hs : Srt (toL (h + 1) t)) (hk : t.ks[i]? = some k) (hv : t.vs[i]? = some v) (ha : t.cs[i]? = some a) (hc : t.cs[i + 1]? = some c)
    (a3 : a.ks.length = 3) (c4 : 4 ≤ c.ks.length) :
    Calls Try.prog 95 #[.pointer (some ⟨t.b, 0, none⟩), .int .i64 i] w (DropPostS w (h + 1) t k) := by
  have Ba := (B.kid_at ha).1
  have Bc := (B.kid_at hc).1
  have b1 := B.1
  have b2 := B.2.1
  have b7 := B.2.2.1
  have hi : i < t.ks.length := (List.getElem?_eq_some_iff.1 hk).1
  have sk : Srt (toL h c) := kid_srt B hs hi hc
  obtain ⟨v', hv'⟩ : ∃ x, x = v := ⟨_, rfl⟩
  have HV' := Lib.hid hv'
  obtain ⟨zu, rfl⟩ : StrV v := H.nod.v1 v (List.mem_of_getElem? hv)
  obtain ⟨m, hm⟩ : ∃ m, m = t.ks.length := ⟨_, rfl⟩
  have cells := Lib.hid (show ∀ w1, Tre TS w1 (h + 1) t → ∃ (kg kvc vg vvc g cc : Nat), w1.cell? ⟨t.b, 0, none⟩ = some (.slice (some ⟨kg, 0, none⟩) m kvc) ∧ w1.cell? ⟨kg, i, none⟩ = some (.string k) ∧ w1.cell? ⟨t.b, 1, none⟩ = some (.slice (some ⟨vg, 0, none⟩) m vvc) ∧ w1.cell? ⟨vg, i, none⟩ = some (Value.string zu) ∧
      w1.cell? ⟨t.b, 2, none⟩ = some (.slice (some ⟨g, 0, none⟩) (m + 1) cc) ∧ w1.cell? ⟨g, i, none⟩ = some (.pointer (some ⟨a.b, 0, none⟩)) ∧ w1.cell? ⟨g, i + 1, none⟩ = some (.pointer (some ⟨c.b, 0, none⟩)) ∧
      (∃ (A : Option Addr) (q : Nat), w1.cell? ⟨a.b, 0, none⟩ = some (.slice A a.ks.length q)) ∧ ∃ (A : Option Addr) (q : Nat), w1.cell? ⟨c.b, 0, none⟩ = some (.slice A c.ks.length q) from fun w1 H1 => by
    have C := celS H1 B
    rw [← hm] at C
    obtain ⟨KA, kvc, d0, d1⟩ := C.key
    obtain ⟨kg, rfl, d1'⟩ := d1 i k hk
    obtain ⟨VA, vvc, e0, e1⟩ := C.val
    obtain ⟨vg, rfl, e1'⟩ := e1 i _ hv
    obtain ⟨g, cc, _, _, f0, -, f1⟩ := kidCellsS H1 B
    rw [← hm] at f0
    exact ⟨kg, kvc, vg, vvc, g, cc, d0, d1', e0, e1', f0, (f1 i a ha).1, (f1 (i + 1) c hc).1, (f1 i a ha).2, (f1 (i + 1) c hc).2⟩)
  have hend := Lib.hid (fun (w1 : World) (H1 : Tre TS w1 (h + 1) t) => begin_S w1 h c (H1.kid hc) Bc (by omega))
  have hdrop := Lib.hid (fun (w1 : World) (key : ByteArray) (H1 : Tre TS w1 (h + 1) t) => ih c w1 key (H1.kid hc) Bc sk (.inr (by omega)))
  have vp := Lib.hid (fun (w1 : World) (H1 : Tre TS w1 (h + 1) t) (p : KV) (hp : p ∈ toL h c) => show StrV p.2 from isV_ofS (H1.kid hc) Bc p hp)
  have hiz : (i : Int) < (m : Int) := by omega
  have hiz1 : (i : Int) < (m : Int) + 1 := by omega
  have hi1 : (i : Int) + 1 < (m : Int) + 1 := by omega
  have hi0 : (0 : Int) ≤ (i : Int) + 1 := by omega
  have hw1 : IntKind.i64.wrap ((i : Int) + 1) = (i : Int) + 1 := by rw [IntKind.wrap_i64]; omega
  have ht1 : ((i : Int) + 1).toNat = i + 1 := by omega
  have hm64 : (m : Int) ≤ 64 := by omega
  -- what it comes to
  have fin := Lib.hid (show ∀ (w1 w2 w3 : World) (p : KV) (d2 : GT) (t3 : GT), Tre TS w1 (h + 1) t → Below w.heap.size w w1 → (toL h c).head? = some p → Below w1.heap.size w1 w2 → d2.b = c.b → BT h d2 → c.ks.length ≤ d2.ks.length + 1 → toL h d2 = del p.1 (toL h c) → Chg (fp h c) w2 w3 → Sub w2 (fp h d2) (fp h c) → Tre TS w3 h d2 →
      t3 = .node t.b t.kv t.vv t.cv t.ks t.vs (t.cs.set (i + 1) d2) → Tre TS w3 (h + 1) t3 ∧ ∀ (w4 : World), Nds TS (fp (h + 1) t3) (sb (h + 1) t3) w3 w4 [⟨t3.b, t3.kv, t3.vv, t3.cv, (t3.ks.map Value.string).set i (.string p.1), t3.vs.set i p.2, t3.cs.map ptr⟩] → DropPostS w (h + 1) t k (.returned (.tuple #[v', .bool true])) w4 from by
    intro w1 w2 w3 p d2 t3 H1 hb1 hp hb2 e1 e2 e3 e4 e5 e6 e7 et3
    have H2 := H1.below hb2
    obtain ⟨q1, q2⟩ := H2.setKid hc e5 e7 e1 e6
    rw [← et3] at q1 q2
    refine ⟨q1, fun w4 h4 => ?_⟩
    obtain ⟨r1, r2⟩ := Tre.of_one (t' := .node t3.b t3.kv t3.vv t3.cv (t3.ks.set i p.1) (t3.vs.set i p.2) t3.cs) q1 h4 (by simp [rn, List.map_set]) rfl
    obtain ⟨X, hX⟩ : ∃ X, toL h c = p :: X := by
      cases hh : toL h c with
      | nil => rw [hh] at hp; cases hp
      | cons y ys => rw [hh] at hp; obtain rfl : y = p := by simpa using hp
                     exact ⟨ys, rfl⟩
    have hd2 : toL h d2 = X := by rw [e4, hX]; exact del_first (by rw [← hX]; exact sk)
    obtain ⟨s1, s2, s3⟩ := inner_right (t2 := .node t3.b t3.kv t3.vv t3.cv (t3.ks.set i p.1) (t3.vs.set i p.2) t3.cs) B hs hk hv ha hc hX hd2 e2 (by omega) (by rw [et3]; rfl) (by rw [et3]; rfl) (by rw [et3]; rfl)
    have hsub : ∀ x ∈ fp h c, x ∈ fp (h + 1) t := fun x hx => by rw [fp_kid hc]; simp [hx]
    have c1 : Chg (fp (h + 1) t) w w3 := (Chg.of_below (hb1.trans (hb2.mono hb1.size))).trans e5 fun x hx => .inl (hsub x hx)
    have hs3 : w.heap.size ≤ w3.heap.size := c1.size
    have hs2 : w.heap.size ≤ w2.heap.size := (hb1.trans (hb2.mono hb1.size)).size
    refine ⟨_, by rw [et3]; rfl, r1, s1, by rw [et3]; simp, s2, c1.trans h4.chg fun x hx => (q2 x hx).imp id (fun hh => by omega), fun x hx => ?_, by rw [s3, HV'.out]; rfl⟩
    rcases r2 x hx with hh | hh
    · exact (q2 x hh).imp id (fun hh => by omega)
    · exact .inr (by omega))
  have HS := Lib.hid (show Tre TS w (h + 1) t ∧ Below w.heap.size w w from ⟨H, Below.refl _ _⟩)
  obtain ⟨n, hn⟩ : ∃ n, n = c.ks.length := ⟨_, rfl⟩
  have hnz : (3 : Int) < (n : Int) := by omega
  have tk := Lib.hid (And.intro hm (And.intro hk hv))
  have V7 := Lib.hid b2
  clear hv' ih Ba Bc b1 b2 b7 hi sk H B hs hk hv ha hc c4
  rw [← hn, a3] at cells
  clear hn a3 hm
  obtain ⟨kg0, kvc0, vg0, vvc0, g0, cc0, d0, d1, e0, e1, f0, f1, f2, -, -⟩ := cells.out w HS.out.1
  go_enter Try.func95, Try.ntmps95
  go_upto_region 1 with fail
  go_cut [6, 7] from 14 (fun s6 s7 wc => s6 = (Value.string zu) ∧ s7 = .string k ∧ Hid (Tre TS wc (h + 1) t ∧ Below w.heap.size w wc))
  case first =>
    go_quiet (fail)
    go_wp2_with fail
    go_meet
    case rel => exact ⟨rfl, rfl, Lib.hid ⟨HS.out.1.below (below_drewN' (Below.refl _ _) _), below_drewN' HS.out.2 _⟩⟩
  case rest =>
    obtain ⟨rfl, rfl, HS1⟩ := hcut
    clear d0 d1 e0 e1 f0 f1 f2 HS
    obtain ⟨kg, kvc, vg, vvc, g, cc, d0, d1, e0, e1, f0, f1, f2, -, -⟩ := cells.out wc HS1.out.1
    go_upto_region 2 with fail
    go_cut [8, 9] from 28 (fun s8 s9 w1 => s8 = .pointer (some ⟨a.b, 0, none⟩) ∧ s9 = .pointer (some ⟨c.b, 0, none⟩) ∧ Hid (Tre TS w1 (h + 1) t ∧ Below w.heap.size w w1))
    case first =>
      go_quiet (fail)
      go_wp2_with fail
      go_meet
      case rel => exact ⟨rfl, rfl, Lib.hid ⟨HS1.out.1.below (below_drewN' (Below.refl _ _) _), below_drewN' HS1.out.2 _⟩⟩
    case rest =>
      rename_i wc0 _ _ _ _
      obtain ⟨rfl, rfl, HS2⟩ := hcut
      clear d0 d1 e0 e1 f0 f1 f2 HS1
      obtain ⟨kg1, kvc1, vg1, vvc1, g1, cc1, -, -, -, -, -, -, -, ⟨KA, qa, h0⟩, ⟨KC, qc, h1⟩⟩ := cells.out wc HS2.out.1
      have he := Lib.hid (hend.out wc HS2.out.1)
      go_wp2_with fail
      refine he.out.mono ?_
      clear he hend
      rintro e w2 ⟨p, hp, rfl, hb⟩
      have hpm : p ∈ toL h c := List.mem_of_head? hp
      obtain ⟨pk, pv⟩ := p
      obtain ⟨zw, rfl⟩ : StrV pv := vp.out wc HS2.out.1 _ hpm
      have H2 := Lib.hid (HS2.out.1.below hb)
      have hd := Lib.hid (hdrop.out w2 pk H2.out)
      have HP := Lib.hid (And.intro hp hb)
      clear hp hb hpm vp hdrop h0 h1
      go_wp2_with fail
      refine hd.out.mono ?_
      clear hd
      rintro e w3 ⟨d2, q1, q2, q3, q4, q5, q6, q7, rfl⟩
      obtain ⟨t3, ht3⟩ : ∃ t3, t3 = GT.node t.b t.kv t.vv t.cv t.ks t.vs (t.cs.set (i + 1) d2) := ⟨_, rfl⟩
      obtain ⟨H3, fin3⟩ := fin.out wc w2 w3 (pk, Value.string zw) d2 t3 HS2.out.1 HS2.out.2 HP.out.1 HP.out.2 q1 q3 q4 q5 q6 q7 q2 ht3
      have F3 := Lib.hid fin3
      have HR0 := Lib.hid H3.one
      have k3 : t3.ks = t.ks := by rw [ht3]; rfl
      have v3 : t3.vs = t.vs := by rw [ht3]; rfl
      have b3 : t3.b = t.b := by rw [ht3]; rfl
      obtain ⟨KA3, kvc, hkv3, -, -, -, hKA⟩ := H3.nod.kr.formN (n := m) (by rw [k3, tk.out.1]; simp)
      obtain ⟨kg, rfl⟩ := hKA (by have := (List.getElem?_eq_some_iff.1 tk.out.2.1).1; have := tk.out.1; omega)
      obtain ⟨VA3, vvc, hvv3, -, -, -, hVA⟩ := H3.nod.vr.formN (n := m) (by rw [v3, tk.out.1]; exact V7.out)
      obtain ⟨vg, rfl⟩ := hVA (by have := (List.getElem?_eq_some_iff.1 tk.out.2.1).1; have := tk.out.1; omega)
      have HR : Hid (Nds TS (fp (h + 1) t3) (sb (h + 1) t3) w3 w3 [⟨t3.b, .slice (some ⟨kg, 0, none⟩) m kvc, .slice (some ⟨vg, 0, none⟩) m vvc, t3.cv, t3.ks.map Value.string, t3.vs, t3.cs.map ptr⟩]) := by
        rw [← hkv3, ← hvv3]; exact HR0
      have K3 := Lib.hid (show (t3.ks.map Value.string)[i]? = some (.string k) by rw [k3, List.getElem?_map, tk.out.2.1]; rfl)
      have V3 := Lib.hid (show t3.vs[i]? = some (Value.string zu) by rw [v3]; exact tk.out.2.2)
      have E3 := Lib.hid (And.intro hkv3 hvv3)
      rw [← b3]
      clear H3 fin3 q1 q2 q3 q4 q5 q6 q7 ht3 k3 v3 b3 hkv3 hvv3 hKA hVA HR0 HP H2 HS2 cells fin tk V7
      go_upto_region 12 with fail
      have d1 := Lib.hid (HR.out.nod ⟨t3.b, .slice (some ⟨kg, 0, none⟩) m kvc, .slice (some ⟨vg, 0, none⟩) m vvc, t3.cv, t3.ks.map Value.string, t3.vs, t3.cs.map ptr⟩ (by simp))
      go_wp2_with fail
      refine wp_region_noPanic ?_
      refine wp_region_lateM (fun w' : World => w'.cell? ⟨t3.b, 0, none⟩ = some (.slice (some ⟨kg, 0, none⟩) m kvc) ∧ w'.cell? ⟨t3.b, 1, none⟩ = some (.slice (some ⟨vg, 0, none⟩) m vvc)) [13, 15] (by kernel_rfl) ?_
      have hS0 : (fun w' : World => w'.cell? ⟨t3.b, 0, none⟩ = some (.slice (some ⟨kg, 0, none⟩) m kvc) ∧ w'.cell? ⟨t3.b, 1, none⟩ = some (.slice (some ⟨vg, 0, none⟩) m vvc)) w3.drew := ⟨d1.out.blk.cell 0, d1.out.blk.cell 1⟩
      refine wpAnyM_take0 0 99 (v := ?_) rfl rfl (by kernel_rfl) (by kernel_rfl) (by kernel_rfl) (fun _ _ _ h => h) (by rfl) ?_ ?_
      rotate_left
      · (intro w'; go_simp; try with_reducible rfl)
      simp only [List.setIfInBounds_toArray, List.set_cons_zero, List.set_cons_succ]
      refine wpAnyM_take0 1 100 (v := ?_) rfl rfl (by kernel_rfl) (by kernel_rfl) (by kernel_rfl) (fun _ _ _ h => h) (by rfl) ?_ ?_
      rotate_left
      · (intro w'; go_simp; try with_reducible rfl)
      simp only [List.setIfInBounds_toArray, List.set_cons_zero, List.set_cons_succ]
      refine wpAnyM_take0 2 101 (v := ?_) rfl rfl (by kernel_rfl) (by kernel_rfl) (by kernel_rfl) (fun _ _ _ h => h) (by rfl) ?_ ?_
      rotate_left
      · (intro w'; go_simp; try with_reducible rfl)
      simp only [List.setIfInBounds_toArray, List.set_cons_zero, List.set_cons_succ]
      refine wpAnyM_take 3 102 (v := ?_) rfl rfl (by kernel_rfl) (by kernel_rfl) (by kernel_rfl) (by kernel_rfl) (fun _ _ _ h => h) (by rfl) ?_ hS0 ?_
      rotate_left
      · (intro w' hSw; obtain ⟨q1, q2⟩ := hSw; go_simp; try with_reducible rfl)
      simp only [List.setIfInBounds_toArray, List.set_cons_zero, List.set_cons_succ]
      refine wpAnyM_take0 4 103 (v := ?_) rfl rfl (by kernel_rfl) (by kernel_rfl) (by kernel_rfl) (fun _ _ _ h => h) (by rfl) ?_ ?_
      rotate_left
      · (intro w'; go_simp; try with_reducible rfl)
      simp only [List.setIfInBounds_toArray, List.set_cons_zero, List.set_cons_succ]
      refine wpAnyM_take0 5 104 (v := ?_) rfl rfl (by kernel_rfl) (by kernel_rfl) (by kernel_rfl) (fun _ _ _ h => h) (by rfl) ?_ ?_
      rotate_left
      · (intro w'; go_simp; try with_reducible rfl)
      simp only [List.setIfInBounds_toArray, List.set_cons_zero, List.set_cons_succ]
      refine wpAnyM_take0 6 105 (v := ?_) rfl rfl (by kernel_rfl) (by kernel_rfl) (by kernel_rfl) (fun _ _ _ h => h) (by rfl) ?_ ?_
      rotate_left
      · (intro w'; go_simp; try with_reducible rfl)
      simp only [List.setIfInBounds_toArray, List.set_cons_zero, List.set_cons_succ]
      refine wpAnyM_take0 7 106 (v := ?_) rfl rfl (by kernel_rfl) (by kernel_rfl) (by kernel_rfl) (fun _ _ _ h => h) (by rfl) ?_ ?_
      rotate_left
      · (intro w'; go_simp; try with_reducible rfl)
      simp only [List.setIfInBounds_toArray, List.set_cons_zero, List.set_cons_succ]
      refine wpAnyM_take 8 107 (v := ?_) rfl rfl (by kernel_rfl) (by kernel_rfl) (by kernel_rfl) (by kernel_rfl) (fun _ _ _ h => h) (by rfl) ?_ hS0 ?_
      rotate_left
      · (intro w' hSw; obtain ⟨q1, q2⟩ := hSw; go_simp; try with_reducible rfl)
      simp only [List.setIfInBounds_toArray, List.set_cons_zero, List.set_cons_succ]
      refine wpAnyM_take0 9 108 (v := ?_) rfl rfl (by kernel_rfl) (by kernel_rfl) (by kernel_rfl) (fun _ _ _ h => h) (by rfl) ?_ ?_
      rotate_left
      · (intro w'; go_simp; try with_reducible rfl)
      simp only [List.setIfInBounds_toArray, List.set_cons_zero, List.set_cons_succ]
      refine wpAnyM_take0 10 109 (v := ?_) rfl rfl (by kernel_rfl) (by kernel_rfl) (by kernel_rfl) (fun _ _ _ h => h) (by rfl) ?_ ?_
      rotate_left
      · (intro w'; go_simp; try with_reducible rfl)
      simp only [List.setIfInBounds_toArray, List.set_cons_zero, List.set_cons_succ]
      refine wpAnyM_take0 11 110 (v := ?_) rfl rfl (by kernel_rfl) (by kernel_rfl) (by kernel_rfl) (fun _ _ _ h => h) (by rfl) ?_ ?_
      rotate_left
      · (intro w'; go_simp; try with_reducible rfl)
      simp only [List.setIfInBounds_toArray, List.set_cons_zero, List.set_cons_succ]
      have HRb := Lib.hid (Nds.setK HR.out.drew (i := i) (u := Value.string pk) rfl (show i < m by omega) ⟨_, rfl⟩)
      have d2 := Lib.hid (HRb.out.nod ⟨t3.b, .slice (some ⟨kg, 0, none⟩) m kvc, .slice (some ⟨vg, 0, none⟩) m vvc, t3.cv, (t3.ks.map Value.string).set i (Value.string pk), t3.vs, t3.cs.map ptr⟩ (by simp))
      have k1 : w3.drew.cell? ⟨kg, i, none⟩ = some (Value.string k) := d1.out.kcell K3.out
      have k2 : w3.drew.frozen? ⟨kg, i, none⟩ = false := (show Row w3.drew 9 (.slice (some ⟨kg, 0, none⟩) m kvc) (t3.ks.map Value.string) from d1.out.kr).frozen_ i
      have v1 : (w3.drew.setCell ⟨kg, i, none⟩ (Value.string pk)).cell? ⟨vg, i, none⟩ = some (Value.string zu) := d2.out.vcell V3.out
      have v2 : (w3.drew.setCell ⟨kg, i, none⟩ (Value.string pk)).frozen? ⟨vg, i, none⟩ = false := (show Row (w3.drew.setCell ⟨kg, i, none⟩ (Value.string pk)) 9 (.slice (some ⟨vg, 0, none⟩) m vvc) (t3.vs) from d2.out.vr).frozen_ i
      refine wpAnyM_val 12 111 (v := .pointer (some ⟨kg, i, none⟩)) (w' := w3.drew) rfl rfl (by kernel_rfl) (by rfl) (by go_simp; try rfl) (.inr (fun h => h)) ?_
      simp only [List.setIfInBounds_toArray, List.set_cons_zero, List.set_cons_succ]
      refine wpAnyM_skip 13 (w' := (w3.drew.setCell ⟨kg, i, none⟩ (Value.string pk))) rfl rfl (by kernel_rfl) (by rfl) (by go_simp; try rfl) (.inl (by simp)) ?_
      generalize hE : (w3.drew.setCell ⟨kg, i, none⟩ (Value.string pk)) = Y1 at *
      refine wpAnyM_val 14 112 (v := .pointer (some ⟨vg, i, none⟩)) (w' := Y1) rfl rfl (by kernel_rfl) (by rfl) (by go_simp; try rfl) (.inr (fun h => h)) ?_
      simp only [List.setIfInBounds_toArray, List.set_cons_zero, List.set_cons_succ]
      refine wpAnyM_skip 15 (w' := Y1.setCell ⟨vg, i, none⟩ (Value.string zw)) rfl rfl (by kernel_rfl) (by rfl) (by go_simp; try rfl) (.inl (by simp)) ?_
      have HRc := Lib.hid (Nds.setV HRb.out (i := i) (u := Value.string zw) rfl (show i < m by omega) ⟨zw, rfl⟩)
      refine wpAnyM_done (by kernel_rfl) ?_ _
      refine NoPanic.normal ?_
      generalize Y1.setCell ⟨vg, i, none⟩ (Value.string zw) = X1 at *
      clear hS0 k1 k2 v1 v2 HR HRb d1 d2
      try clear hE
      have HR := HRc
      clear HRc
      have hfin := F3.out _ (by
        have := HR.out
        rw [← E3.out.1, ← E3.out.2] at this
        exact this)
      rw [HV'.out] at hfin
      have HF := Lib.hid hfin
      clear hfin F3 HR
      go_wp2
      go_ret2
      exact HF.out

end Go.Proofs.Ytcidmaeclonilaa
