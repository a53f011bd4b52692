/- drop, whole: of a tree; Drop. -/
import Derived.Test.YtcidmaeclonilaaDropW
import Derived.Test.YtcidmaeclonilaaOwn
namespace Go.Proofs.Ytcidmaeclonilaa
open Go Go.RowKit

set_option maxRecDepth 100000 in
set_option maxHeartbeats 16000000 in
theorem winner_mergeS (h : Nat) (ih : DropIHS h) (t a c : GT) (w : World) (i : Nat) (k : ByteArray) (v : Value) (H : Tre TS w (h + 1) t) (B : BT (h + 1) t) (hs : Srt (toL (h + 1) t)) (hk : t.ks[i]? = some k) (hv : t.vs[i]? = some v) (ha : t.cs[i]? = some a) (hc : t.cs[i + 1]? = some c)
    (a3 : a.ks.length = 3) (c3 : c.ks.length = 3) :
    Calls Try.prog 95 #[.pointer (some ⟨t.b, 0, none⟩), .int .i64 i] w (DropPostS w (h + 1) t k) := by
  have Ba := (B.kid_at ha).1
  have Bc := (B.kid_at hc).1
  have b1 := B.1
  have b2 := B.2.1
  have b7 := B.2.2.1
  have hi : i < t.ks.length := (List.getElem?_eq_some_iff.1 hk).1
  obtain ⟨v', hv'⟩ : ∃ x, x = v := ⟨_, rfl⟩
  have HV' := Lib.hid hv'
  obtain ⟨zu, rfl⟩ : StrV v := H.nod.v1 v (List.mem_of_getElem? hv)
  obtain ⟨m, hm⟩ : ∃ m, m = t.ks.length := ⟨_, rfl⟩
  have cells := Lib.hid (show ∀ w1, Tre TS w1 (h + 1) t → ∃ (kg kvc vg vvc g cc : Nat), w1.cell? ⟨t.b, 0, none⟩ = some (.slice (some ⟨kg, 0, none⟩) m kvc) ∧ w1.cell? ⟨kg, i, none⟩ = some (.string k) ∧ w1.cell? ⟨t.b, 1, none⟩ = some (.slice (some ⟨vg, 0, none⟩) m vvc) ∧ w1.cell? ⟨vg, i, none⟩ = some (Value.string zu) ∧
      w1.cell? ⟨t.b, 2, none⟩ = some (.slice (some ⟨g, 0, none⟩) (m + 1) cc) ∧ w1.cell? ⟨g, i, none⟩ = some (.pointer (some ⟨a.b, 0, none⟩)) ∧ w1.cell? ⟨g, i + 1, none⟩ = some (.pointer (some ⟨c.b, 0, none⟩)) ∧
      (∃ (A : Option Addr) (q : Nat), w1.cell? ⟨a.b, 0, none⟩ = some (.slice A 3 q)) ∧ ∃ (A : Option Addr) (q : Nat), w1.cell? ⟨c.b, 0, none⟩ = some (.slice A 3 q) from fun w1 H1 => by
    have C := celS H1 B
    rw [← hm] at C
    obtain ⟨KA, kvc, d0, d1⟩ := C.key
    obtain ⟨kg, rfl, d1'⟩ := d1 i k hk
    obtain ⟨VA, vvc, e0, e1⟩ := C.val
    obtain ⟨vg, rfl, e1'⟩ := e1 i _ hv
    obtain ⟨g, cc, _, _, f0, -, f1⟩ := kidCellsS H1 B
    rw [← hm] at f0
    have q1 := (f1 i a ha).2
    have q2 := (f1 (i + 1) c hc).2
    rw [a3] at q1
    rw [c3] at q2
    exact ⟨kg, kvc, vg, vvc, g, cc, d0, d1', e0, e1', f0, (f1 i a ha).1, (f1 (i + 1) c hc).1, q1, q2⟩)
  have hmerge := Lib.hid (fun (w1 : World) (H1 : Tre TS w1 (h + 1) t) => mergeTS w1 h t a c i H1 B hi ha hc a3 c3)
  have hiz : (i : Int) < (m : Int) := by omega
  have hiz1 : (i : Int) < (m : Int) + 1 := by omega
  have hi1 : (i : Int) + 1 < (m : Int) + 1 := by omega
  have hi0 : (0 : Int) ≤ (i : Int) + 1 := by omega
  have hw1 : IntKind.i64.wrap ((i : Int) + 1) = (i : Int) + 1 := by rw [IntKind.wrap_i64]; omega
  have ht1 : ((i : Int) + 1).toNat = i + 1 := by omega
  have hm64 : (m : Int) ≤ 64 := by omega
  have fin := Lib.hid (show ∀ (w1 w2 : World), Below w.heap.size w w1 → MergeTPostS w1 h t a c i (.returned (.tuple #[])) w2 → ∃ (t1 d : GT) (g cc M : Nat), t1.b = t.b ∧ w2.cell? ⟨t1.b, 2, none⟩ = some (.slice (some ⟨g, 0, none⟩) M cc) ∧ (i : Int) < (M : Int) ∧ w2.cell? ⟨g, i, none⟩ = some (.pointer (some ⟨d.b, 0, none⟩)) ∧
      Calls Try.prog 75 #[.pointer (some ⟨d.b, 0, none⟩), .string k] w2 (fun e w3 => (∃ zv : Value, ∃ b : Bool, e = .returned (.tuple #[zv, .bool b])) ∧ DropPostS w (h + 1) t k (.returned (.tuple #[v', .bool true])) w3) from by
    rintro w1 w2 hb ⟨-, t1, d, k1, v1, hk1, hv1, q1, H1, q3, q4, B1, Bd, q5, q6, q7, q8, q9, q10⟩
    rw [hk] at hk1
    rw [hv] at hv1
    cases hk1
    cases hv1
    obtain ⟨g, cc, _, _, f0, -, f1⟩ := kidCellsS H1 B1
    have sd : Srt (toL h d) := by
      obtain ⟨et, _, _⟩ := here_parts B hs hk hv ha hc
      rw [et] at hs
      have e : (Lf h t i ++ toL h a) ++ (k, Value.string zu) :: (toL h c ++ Rt h t (i + 1)) = Lf h t i ++ ((toL h a ++ (k, Value.string zu) :: toL h c) ++ Rt h t (i + 1)) := by simp
      rw [e] at hs
      rw [q7]
      exact hs.right.left
    refine ⟨t1, d, g, cc, t1.ks.length + 1, q1, f0, by omega, (f1 i d q8).1, (ih d w2 k (H1.kid q8) Bd sd (.inr (by omega))).mono ?_⟩
    rintro e w3 ⟨d2, r1, r2, r3, r4, r5, r6, r7, rfl⟩
    refine ⟨⟨_, _, rfl⟩, ?_⟩
    obtain ⟨s1, s2⟩ := H1.setKid q8 r6 r2 r1 r7
    obtain ⟨p1, p2, p3, -⟩ := inner_merged (t2 := .node t1.b t1.kv t1.vv t1.cv t1.ks t1.vs (t1.cs.set i d2)) B hs hk hv ha hc B1 q8 q7 q9 q10 rfl rfl rfl r3 (by omega) r5
    have hsub : ∀ x ∈ fp h d, x ∈ fp (h + 1) t1 := fun x hx => by rw [fp_kid q8]; simp [hx]
    have c1 : Chg (fp (h + 1) t) w w2 := (Chg.of_below hb).trans q3 fun x hx => .inl hx
    have hs1 : w.heap.size ≤ w1.heap.size := hb.size
    have hs2 : w.heap.size ≤ w2.heap.size := c1.size
    refine ⟨_, ?_, s1, p1, ?_, p2, c1.trans r6 fun x hx => (q4 x (hsub x hx)).imp id (fun hh => by omega), fun x hx => ?_, by rw [p3, HV'.out]; rfl⟩
    · exact q1
    · show t.ks.length ≤ t1.ks.length + 1
      omega
    · rcases s2 x hx with hh | hh
      · exact (q4 x hh).imp id (fun hh => by omega)
      · exact .inr (by omega))
  have HS := Lib.hid (show Tre TS w (h + 1) t ∧ Below w.heap.size w w from ⟨H, Below.refl _ _⟩)
  clear hv' ih Ba Bc b1 b2 b7 hi H B hs hk hv ha hc a3 c3 hm
  obtain ⟨kg0, kvc0, vg0, vvc0, g0, cc0, d0, d1, e0, e1, f0, f1, f2, -, -⟩ := cells.out w HS.out.1
  go_enter Try.func95, Try.ntmps95
  go_upto_region 1 with fail
  go_cut [6, 7] from 14 (fun s6 s7 wc => s6 = (Value.string zu) ∧ s7 = .string k ∧ Hid (Tre TS wc (h + 1) t ∧ Below w.heap.size w wc))
  case first =>
    go_quiet (fail)
    go_wp2_with fail
    go_meet
    case rel => exact ⟨rfl, rfl, Lib.hid ⟨HS.out.1.below (below_drewN' (Below.refl _ _) _), below_drewN' HS.out.2 _⟩⟩
  case rest =>
    obtain ⟨rfl, rfl, HS1⟩ := hcut
    clear d0 d1 e0 e1 f0 f1 f2 HS
    obtain ⟨kg, kvc, vg, vvc, g, cc, d0, d1, e0, e1, f0, f1, f2, -, -⟩ := cells.out wc HS1.out.1
    go_upto_region 2 with fail
    go_cut [8, 9] from 28 (fun s8 s9 w1 => s8 = .pointer (some ⟨a.b, 0, none⟩) ∧ s9 = .pointer (some ⟨c.b, 0, none⟩) ∧ Hid (Tre TS w1 (h + 1) t ∧ Below w.heap.size w w1))
    case first =>
      go_quiet (fail)
      go_wp2_with fail
      go_meet
      case rel => exact ⟨rfl, rfl, Lib.hid ⟨HS1.out.1.below (below_drewN' (Below.refl _ _) _), below_drewN' HS1.out.2 _⟩⟩
    case rest =>
      obtain ⟨rfl, rfl, HS2⟩ := hcut
      clear d0 d1 e0 e1 f0 f1 f2 HS1
      obtain ⟨kg1, kvc1, vg1, vvc1, g1, cc1, -, -, -, -, -, -, -, ⟨KA, qa, h0⟩, ⟨KC, qc, h1⟩⟩ := cells.out wc HS2.out.1
      have hme := Lib.hid (hmerge.out wc HS2.out.1)
      clear hmerge cells
      go_wp2_with fail
      refine hme.out.mono ?_
      clear hme
      rintro e w2 hp
      obtain rfl := hp.1
      obtain ⟨t1, d, g2, cc2, M, hb1, d0, hM, d1, hcall⟩ := fin.out wc w2 HS2.out.2 hp
      rw [hb1] at d0
      have HC := Lib.hid hcall
      clear hp fin hcall HS2 h0 h1 hb1
      go_wp2_with fail
      refine HC.out.mono ?_
      clear HC
      rintro e w3 ⟨⟨zv, b, rfl⟩, hpost⟩
      rw [HV'.out] at hpost
      have HP := Lib.hid hpost
      clear hpost
      go_wp2
      go_ret2
      exact HP.out

theorem winnerS (h : Nat) (ih : DropIHS h) (t : GT) (w : World) (i : Nat) (k : ByteArray) (H : Tre TS w (h + 1) t) (B : BT (h + 1) t) (hs : Srt (toL (h + 1) t)) (hk : t.ks[i]? = some k) :
    Calls Try.prog 95 #[.pointer (some ⟨t.b, 0, none⟩), .int .i64 i] w (DropPostS w (h + 1) t k) := by
  have hi : i < t.ks.length := (List.getElem?_eq_some_iff.1 hk).1
  obtain ⟨v, hv⟩ : ∃ v, t.vs[i]? = some v := ⟨_, List.getElem?_eq_getElem (by have := B.2.1; omega)⟩
  obtain ⟨a, ha⟩ : ∃ c, t.cs[i]? = some c := ⟨_, List.getElem?_eq_getElem (by have := B.1; omega)⟩
  obtain ⟨c, hc⟩ : ∃ c, t.cs[i + 1]? = some c := ⟨_, List.getElem?_eq_getElem (by have := B.1; omega)⟩
  have la := (B.kid_at ha).2
  have lc := (B.kid_at hc).2
  by_cases h4 : 4 ≤ a.ks.length
  · exact winner_leftS h ih t a c w i k v H B hs hk hv ha hc h4
  · by_cases h5 : 4 ≤ c.ks.length
    · exact winner_rightS h ih t a c w i k v H B hs hk hv ha hc (by omega) h5
    · exact winner_mergeS h ih t a c w i k v H B hs hk hv ha hc (by omega) (by omega)

set_option maxHeartbeats 4000000 in
theorem drop_hereS (h : Nat) (ih : DropIHS h) (t : GT) (w : World) (key : ByteArray) (i : Nat) (H : Tre TS w (h + 1) t) (B : BT (h + 1) t) (hs : Srt (toL (h + 1) t)) (hp : Plc key t.ks i) (hf : t.ks[i]? = some key) :
    Calls Try.prog 75 #[.pointer (some ⟨t.b, 0, none⟩), .string key] w (DropPostS w (h + 1) t key) := by
  have h7 := B.ks
  have hfind := Lib.hid (findTS w t key i true H.nod (by omega) (ks_srt B hs) hp (by simp [hf]))
  have hleaf := Lib.hid (fun (w1 : World) (hb : Below w.heap.size w w1) => leafTS w1 (h + 1) t (H.below hb) B)
  have hin := Lib.hid (fun (w1 : World) (hb : Below w.heap.size w w1) => show Calls Try.prog 95 #[.pointer (some ⟨t.b, 0, none⟩), .int .i64 i] w1 (fun e w2 => ∃ (z : Value) (b : Bool), e = .returned (.tuple #[z, .bool b]) ∧ DropPostS w (h + 1) t key (.returned (.tuple #[z, .bool b])) w2) from
    (winnerS h ih t w1 i key (H.below hb) B hs hf).mono fun e w2 ⟨t', r1, r2, r3, r4, r5, r6, r7, r8⟩ => ⟨_, _, r8, t', r1, r2, r3, r4, r5, (Chg.of_below hb).trans r6 fun x hx => .inl hx, fun x hx => (r7 x hx).imp id (fun hh => Nat.le_trans hb.size hh), rfl⟩)
  clear H B hs hp hf h7
  go_enter Try.func75, Try.ntmps75
  go_wp2_with fail
  refine hfind.out.mono ?_
  clear hfind
  rintro e w1 ⟨rfl, hb⟩
  have hl := Lib.hid (hleaf.out w1 hb)
  have hi := Lib.hid (hin.out w1 hb)
  clear hin hleaf hb
  go_wp2_with (first
    | (go_at_call 64; refine hl.out.mono ?_; rintro e w' ⟨rfl, rfl⟩)
    | (go_at_call 95; refine hi.out.mono ?_; rintro e w2 ⟨z, b, rfl, hpost⟩; have HP := Lib.hid hpost; clear hpost hi hl))
  go_ret2
  exact HP.out

set_option maxHeartbeats 4000000 in
theorem drop_downS (h : Nat) (ih : DropIHS h) (t c : GT) (w : World) (key : ByteArray) (i : Nat) (H : Tre TS w (h + 1) t) (B : BT (h + 1) t) (hs : Srt (toL (h + 1) t)) (hp : Plc key t.ks i) (hf : t.ks[i]? ≠ some key) (hc : t.cs[i]? = some c) (h1 : 1 ≤ t.ks.length) :
    Calls Try.prog 75 #[.pointer (some ⟨t.b, 0, none⟩), .string key] w (DropPostS w (h + 1) t key) := by
  have h7 := B.ks
  have hfind := Lib.hid (findTS w t key i false H.nod (by omega) (ks_srt B hs) hp (by simp [hf]))
  have hleaf := Lib.hid (fun (w1 : World) (hb : Below w.heap.size w w1) => leafTS w1 (h + 1) t (H.below hb) B)
  have hfill := Lib.hid (fun (w1 : World) (hb : Below w.heap.size w w1) => show Calls Try.prog 96 #[.pointer (some ⟨t.b, 0, none⟩), .int .i64 i] w1 (fun e w2 => ∃ (k1 : Nat) (d : GT) (g cc M : Nat), e = .returned (.int .i64 k1) ∧ w2.cell? ⟨t.b, 2, none⟩ = some (.slice (some ⟨g, 0, none⟩) M cc) ∧ (k1 : Int) < (M : Int) ∧ w2.cell? ⟨g, k1, none⟩ = some (.pointer (some ⟨d.b, 0, none⟩)) ∧
      Hid (Calls Try.prog 75 #[.pointer (some ⟨d.b, 0, none⟩), .string key] w2 (fun e w3 => ∃ (z : Value) (b : Bool), e = .returned (.tuple #[z, .bool b]) ∧ DropPostS w (h + 1) t key (.returned (.tuple #[z, .bool b])) w3))) from by
    refine (fillS w1 h t c i (H.below hb) B hp.le h1 hc).mono ?_
    rintro e w2 ⟨t1, k1, d, rfl, q1, H1, q3, q4, F⟩
    obtain ⟨g, cc, _, _, f0, -, f1⟩ := kidCellsS H1 F.bt
    rw [q1] at f0
    refine ⟨k1, d, g, cc, t1.ks.length + 1, rfl, f0, by have := F.le; omega, (f1 k1 d F.at_).1, Lib.hid ((ih d w2 key (H1.kid F.at_) (F.bt.kid_at F.at_).1 (fill_srt B hs hp.le hc F) (.inr (by have := F.four; omega))).mono ?_)⟩
    rintro e w3 ⟨d2, r1, r2, r3, r4, r5, r6, r7, r8⟩
    refine ⟨_, _, r8, ?_⟩
    obtain ⟨s1, s2⟩ := H1.setKid F.at_ r6 r2 r1 r7
    obtain ⟨p1, p2, p3, p4⟩ := drop_kid (t2 := .node t1.b t1.kv t1.vv t1.cv t1.ks t1.vs (t1.cs.set k1 d2)) B hs hp.le (Lf_lt B hs hp) (Rt_gt B hs hp hf) hc F rfl rfl rfl r3 (by have := F.four; omega) r5
    have hsub : ∀ x ∈ fp h d, x ∈ fp (h + 1) t1 := fun x hx => by rw [fp_kid F.at_]; simp [hx]
    have c1 : Chg (fp (h + 1) t) w w2 := (Chg.of_below hb).trans q3 fun x hx => .inl hx
    have hs1 : w.heap.size ≤ w1.heap.size := hb.size
    have hs2 : w.heap.size ≤ w2.heap.size := c1.size
    refine ⟨_, ?_, s1, p1, p3, p2, c1.trans r6 fun x hx => (q4 x (hsub x hx)).imp id (fun hh => by omega), fun x hx => ?_, by rw [p4]⟩
    · exact q1
    · rcases s2 x hx with hh | hh
      · exact (q4 x hh).imp id (fun hh => by omega)
      · exact .inr (by omega))
  clear H B hs hp hf h7 hc h1
  go_enter Try.func75, Try.ntmps75
  go_wp2_with fail
  refine hfind.out.mono ?_
  clear hfind
  rintro e w1 ⟨rfl, hb⟩
  have hl := Lib.hid (hleaf.out w1 hb)
  have hi := Lib.hid (hfill.out w1 hb)
  clear hfill hleaf hb
  go_wp2_with (first
    | (go_at_call 64; refine hl.out.mono ?_; rintro e w' ⟨rfl, rfl⟩)
    | (go_at_call 96; refine hi.out.mono ?_; clear hi hl; rintro e w2 ⟨k1, d, g, cc, M, rfl, d0, hM, d1, hcall⟩)
    | (go_at_call 75; refine hcall.out.mono ?_; rintro e w3 ⟨z, b, rfl, hpost⟩; have HP := Lib.hid hpost; clear hpost hcall))
  go_ret2
  exact HP.out

theorem drop_allS : ∀ h, DropIHS h
  | 0 => fun t w key H B hs _ => by
    obtain ⟨i, hp⟩ := plc_ex key t.ks (ks_srt B hs)
    by_cases hf : t.ks[i]? = some key
    · exact drop_leafS t w key i H B hs hp hf
    · exact drop_missS t w key i H B hs hp hf
  | h + 1 => fun t w key H B hs h1 => by
    obtain ⟨i, hp⟩ := plc_ex key t.ks (ks_srt B hs)
    by_cases hf : t.ks[i]? = some key
    · exact drop_hereS h (drop_allS h) t w key i H B hs hp hf
    · obtain ⟨c, hc⟩ : ∃ c, t.cs[i]? = some c := ⟨_, List.getElem?_eq_getElem (by have := B.1; have := hp.le; omega)⟩
      exact drop_downS h (drop_allS h) t c w key i H B hs hp hf hc (by omega)

end Go.Proofs.Ytcidmaeclonilaa
