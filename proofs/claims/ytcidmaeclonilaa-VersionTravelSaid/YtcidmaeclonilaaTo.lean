/- To: the walk (printed by mknear.py). -/
import Derived.Test.YtcidmaeclonilaaNearW
import Derived.OwnWalk
namespace Go.Proofs.Ytcidmaeclonilaa
open Go Go.RowKit

set_option maxHeartbeats 4000000 in
theorem toS (w : World) (a h : Nat) (t : GT) (key : ByteArray) (ahead : Bool) (ha : w.cell? ⟨a, 0, none⟩ = some (.pointer (some ⟨t.b, 0, none⟩))) (H : Tre TS w h t) (B : BT h t) (hs : Srt (toL h t)) :
    Calls Try.prog 31 #[.pointer (some ⟨a, 0, none⟩), .string key, .bool ahead] w (NearPostS w (toLst key ahead (toL h t))) := by
  obtain ⟨o, ho⟩ : ∃ o, o = toLst key ahead (toL h t) := ⟨_, rfl⟩
  rw [← ho]
  have start0 := Lib.hid (show NrIS (toLst key ahead) w w h t o none from ⟨H, B, hs, by rw [Option.or_none, ho], Below.refl _ w⟩)
  clear ho H B hs
  go_enter Try.func31, Try.ntmps31
  go_wp2
  go_loopg [6, 7, 8, 9] h (fun kx s6 s7 s8 s9 wr => ∃ (t' : GT) (acc : Option KV) (zk : ByteArray) (zv : ByteArray) (b : Bool), s6 = .string zk ∧ s7 = Value.string zv ∧ s8 = .bool b ∧ s9 = .pointer (some ⟨t'.b, 0, none⟩) ∧ Hid (NrIS (toLst key ahead) w wr kx t' o acc ∧ rk acc = zk ∧ rvS acc = Value.string zv ∧ acc.isSome = b))
  case atStart => exact ⟨t, none, _, _, _, rfl, rfl, rfl, rfl, Lib.hid ⟨start0.out, rfl, rfl, rfl⟩⟩
  case round =>
    obtain ⟨t', acc, zk, zv, b, rfl, rfl, rfl, rfl, hh⟩ := hrel
    have N := hh.out.1
    obtain ⟨i, hp⟩ := plc_ex key t'.ks (ks_srt N.bt N.srt)
    have hil : i ≤ t'.ks.length := hp.le
    by_cases hf : t'.ks[i]? = some key
    · have hil2 : i < t'.ks.length := (List.getElem?_eq_some_iff.1 hf).1
      cases ahead with
      | false =>
        have N1 := Lib.hid N
        have hmb : t'.ks.length ≤ 64 := by have := N.bt.ks; omega
        have hfind := Lib.hid (findTS wr t' key (i) true N.tre.nod (by omega) (ks_srt N.bt N.srt) hp (by simp [hf]))
        obtain ⟨k, hk⟩ : ∃ k, t'.ks[i]? = some k := ⟨_, List.getElem?_eq_getElem (by omega)⟩
        obtain ⟨v, hv, hpv⟩ := vs_get N.bt hk
        obtain ⟨zu, rfl⟩ : StrV v := N.tre.nod.v1 v (List.mem_of_getElem? hv)
        have HK := Lib.hid hk
        have HV := Lib.hid hv
        have HF := Lib.hid (fun w1 => N.fin (k := k) (v := (Value.string zu)) (b := true) (x := some (k, Value.string zu)) (w1 := w1) (hit_get N.bt N.srt hf hk hv).2.1 rfl rfl rfl)
        obtain ⟨m, hm⟩ : ∃ m, m = t'.ks.length := ⟨_, rfl⟩
        have HM := Lib.hid hm
        have hmb2 : m ≤ 64 := by omega
        have hib : (i : Int) < (m : Int) := by omega
        clear hm hmb hp hf N hh start0 hk hv hpv hil hil2
        go_wp2_with fail
        refine hfind.out.mono ?_
        clear hfind
        rintro e w1 ⟨rfl, hb⟩
        have t2 := N1.out.tre.below hb
        have c := celS t2 N1.out.bt
        rw [← HM.out] at c
        obtain ⟨KA, kc, d0, d1⟩ := c.key
        obtain ⟨g, rfl, d2⟩ := d1 (i) k HK.out
        obtain ⟨VA, vc, e0, e1⟩ := c.val
        obtain ⟨gv, rfl, e2⟩ := e1 (i) _ HV.out
        have hfin := Lib.hid (fun n => HF.out (w1.drewN n) (below_drewN' hb n))
        clear t2 c d1 HF hb e1
        go_wp2_with fail
        go_quiet (fail)
        go_wp2
        go_ret3
        exact hfin.out _
      | true =>
        have hpos := pos_of_plc (ks_srt N.bt N.srt) hp (!true) (fun _ => rfl)
        cases i with
        | zero =>
          cases gk with
          | zero =>
            have N1 := Lib.hid N
            have hmb : t'.ks.length ≤ 64 := by have := N.bt.ks; omega
            have hfind := Lib.hid (findTS wr t' key (0) true N.tre.nod (by omega) (ks_srt N.bt N.srt) hp (by simp [hf]))
            have HF := Lib.hid (fun w1 => N.fin (k := zk) (v := (Value.string zv)) (b := b) (x := none) (w1 := w1) (by rw [toLst_eq, (pos_leaf N.bt hpos).2, if_pos rfl]) hh.out.2.1 hh.out.2.2.1 hh.out.2.2.2)
            have HZ := Lib.hid hh.out.2
            obtain ⟨m, hm⟩ : ∃ m, m = t'.ks.length := ⟨_, rfl⟩
            have HM := Lib.hid hm
            have hmb2 : m ≤ 64 := by omega
            have hib : (0 : Int) < (m : Int) + 1 := by omega
            clear hm hmb hp hf N hh start0 hpos hil hil2
            go_wp2_with fail
            refine hfind.out.mono ?_
            clear hfind
            rintro e w1 ⟨rfl, hb⟩
            have t2 := N1.out.tre.below hb
            have c := celS t2 N1.out.bt
            rw [← HM.out] at c
            obtain ⟨KA, kc, d0, d1⟩ := c.key
            have hleaf := Lib.hid (fun n => leafTS (w1.drewN n) 0 t' (t2.below (below_drewN' (Below.refl _ _) n)) N1.out.bt)
            have hleaf0 := Lib.hid (leafTS w1 0 t' t2 N1.out.bt)
            have hfin := Lib.hid (HF.out w1 hb)
            clear t2 c d1 HF hb
            go_wp2_with fail
            refine hleaf0.out.mono ?_
            rintro e w' ⟨rfl, rfl⟩
            go_wp2
            go_ret3
            exact hfin.out
          | succ gk =>
            have N1 := Lib.hid N
            have hmb : t'.ks.length ≤ 64 := by have := N.bt.ks; omega
            have hfind := Lib.hid (findTS wr t' key (0) true N.tre.nod (by omega) (ks_srt N.bt N.srt) hp (by simp [hf]))
            obtain ⟨d, hd⟩ : ∃ d, t'.cs[0]? = some d := ⟨_, List.getElem?_eq_getElem (by have := N.bt.1; omega)⟩
            have HD := Lib.hid hd
            have HCS := Lib.hid N.bt.1
            have HF := Lib.hid (fun w1 => N.down (x := none) (w1 := w1) hil hd (by rw [toLst_eq, toLst_eq, (pos_kid (fromK_up key (!true)) N.bt N.srt hpos hd).2, if_pos rfl]))
            have HZ := Lib.hid hh.out.2
            obtain ⟨m, hm⟩ : ∃ m, m = t'.ks.length := ⟨_, rfl⟩
            have HM := Lib.hid hm
            have hmb2 : m ≤ 64 := by omega
            have hib : (0 : Int) < (m : Int) + 1 := by omega
            clear hm hmb hp hf N hh start0 hd hpos hil hil2
            go_wp2_with fail
            refine hfind.out.mono ?_
            clear hfind
            rintro e w1 ⟨rfl, hb⟩
            have t2 := N1.out.tre.below hb
            have c := celS t2 N1.out.bt
            rw [← HM.out] at c
            obtain ⟨KA, kc, d0, d1⟩ := c.key
            obtain ⟨CA, cc, f0, f1⟩ := c.kid
            rw [HCS.out, ← HM.out] at f0
            obtain ⟨gc, rfl, f2⟩ := f1 (0) _ HD.out
            have hleaf := Lib.hid (fun n => leafTS (w1.drewN n) (gk + 1) t' (t2.below (below_drewN' (Below.refl _ _) n)) N1.out.bt)
            have hleaf0 := Lib.hid (leafTS w1 (gk + 1) t' t2 N1.out.bt)
            have hnx := Lib.hid (HF.out w1 hb)
            clear t2 c d1 HF hb f1
            go_wp2_with fail
            refine hleaf0.out.mono ?_
            rintro e w' ⟨rfl, rfl⟩
            go_wp2
            go_roundg gk
            case measure => omega
            case rel => exact ⟨d, acc, zk, zv, b, rfl, rfl, rfl, rfl, Lib.hid ⟨hnx.out, HZ.out⟩⟩
        | succ i =>
          cases gk with
          | zero =>
            have N1 := Lib.hid N
            have hmb : t'.ks.length ≤ 64 := by have := N.bt.ks; omega
            have hfind := Lib.hid (findTS wr t' key (i + 1) true N.tre.nod (by omega) (ks_srt N.bt N.srt) hp (by simp [hf]))
            obtain ⟨k, hk⟩ : ∃ k, t'.ks[i]? = some k := ⟨_, List.getElem?_eq_getElem (by omega)⟩
            obtain ⟨v, hv, hpv⟩ := vs_get N.bt hk
            obtain ⟨zu, rfl⟩ : StrV v := N.tre.nod.v1 v (List.mem_of_getElem? hv)
            have HK := Lib.hid hk
            have HV := Lib.hid hv
            have HF := Lib.hid (fun w1 => N.fin (k := k) (v := (Value.string zu)) (b := true) (x := some (k, Value.string zu)) (w1 := w1) (by rw [toLst_eq, (pos_leaf N.bt hpos).2, if_neg (by omega), Nat.add_sub_cancel, hpv]) rfl rfl rfl)
            obtain ⟨m, hm⟩ : ∃ m, m = t'.ks.length := ⟨_, rfl⟩
            have HM := Lib.hid hm
            have hmb2 : m ≤ 64 := by omega
            have hib : (i : Int) < (m : Int) := by omega
            have hib2 : (i : Int) + 1 < (m : Int) + 1 := by omega
            clear hm hmb hp hf N hh start0 hk hv hpv hpos hil hil2
            go_wp2_with fail
            refine hfind.out.mono ?_
            clear hfind
            rintro e w1 ⟨rfl, hb⟩
            have t2 := N1.out.tre.below hb
            have c := celS t2 N1.out.bt
            rw [← HM.out] at c
            obtain ⟨KA, kc, d0, d1⟩ := c.key
            obtain ⟨g, rfl, d2⟩ := d1 (i) k HK.out
            obtain ⟨VA, vc, e0, e1⟩ := c.val
            obtain ⟨gv, rfl, e2⟩ := e1 (i) _ HV.out
            have hleaf := Lib.hid (fun n => leafTS (w1.drewN n) 0 t' (t2.below (below_drewN' (Below.refl _ _) n)) N1.out.bt)
            have hfin := Lib.hid (fun n => HF.out (w1.drewN n) (below_drewN' hb n))
            clear t2 c d1 HF hb e1
            go_wp2_with fail
            go_quiet (fail)
            go_wp2_with (go_at_call 64; refine (hleaf.out _).mono ?_; rintro e w' ⟨rfl, rfl⟩)
            go_ret3
            exact hfin.out _
          | succ gk =>
            have N1 := Lib.hid N
            have hmb : t'.ks.length ≤ 64 := by have := N.bt.ks; omega
            have hfind := Lib.hid (findTS wr t' key (i + 1) true N.tre.nod (by omega) (ks_srt N.bt N.srt) hp (by simp [hf]))
            obtain ⟨k, hk⟩ : ∃ k, t'.ks[i]? = some k := ⟨_, List.getElem?_eq_getElem (by omega)⟩
            obtain ⟨v, hv, hpv⟩ := vs_get N.bt hk
            obtain ⟨zu, rfl⟩ : StrV v := N.tre.nod.v1 v (List.mem_of_getElem? hv)
            have HK := Lib.hid hk
            have HV := Lib.hid hv
            obtain ⟨d, hd⟩ : ∃ d, t'.cs[i + 1]? = some d := ⟨_, List.getElem?_eq_getElem (by have := N.bt.1; omega)⟩
            have HD := Lib.hid hd
            have HCS := Lib.hid N.bt.1
            have HF := Lib.hid (fun w1 => N.down (x := some (k, Value.string zu)) (w1 := w1) hil hd (by rw [toLst_eq, toLst_eq, (pos_kid (fromK_up key (!true)) N.bt N.srt hpos hd).2, if_neg (by omega), Nat.add_sub_cancel, hpv]))
            obtain ⟨m, hm⟩ : ∃ m, m = t'.ks.length := ⟨_, rfl⟩
            have HM := Lib.hid hm
            have hmb2 : m ≤ 64 := by omega
            have hib : (i : Int) < (m : Int) := by omega
            have hib2 : (i : Int) + 1 < (m : Int) + 1 := by omega
            clear hm hmb hp hf N hh start0 hk hv hpv hd hpos hil hil2
            go_wp2_with fail
            refine hfind.out.mono ?_
            clear hfind
            rintro e w1 ⟨rfl, hb⟩
            have t2 := N1.out.tre.below hb
            have c := celS t2 N1.out.bt
            rw [← HM.out] at c
            obtain ⟨KA, kc, d0, d1⟩ := c.key
            obtain ⟨g, rfl, d2⟩ := d1 (i) k HK.out
            obtain ⟨VA, vc, e0, e1⟩ := c.val
            obtain ⟨gv, rfl, e2⟩ := e1 (i) _ HV.out
            obtain ⟨CA, cc, f0, f1⟩ := c.kid
            rw [HCS.out, ← HM.out] at f0
            obtain ⟨gc, rfl, f2⟩ := f1 (i + 1) _ HD.out
            have hleaf := Lib.hid (fun n => leafTS (w1.drewN n) (gk + 1) t' (t2.below (below_drewN' (Below.refl _ _) n)) N1.out.bt)
            have hnx := Lib.hid (fun n => HF.out (w1.drewN n) (below_drewN' hb n))
            clear t2 c d1 HF hb e1 f1
            go_wp2_with fail
            go_quiet (fail)
            go_wp2_with (go_at_call 64; refine (hleaf.out _).mono ?_; rintro e w' ⟨rfl, rfl⟩)
            go_roundg gk
            case measure => omega
            case rel => exact ⟨d, some (k, Value.string zu), k, zu, true, rfl, rfl, rfl, rfl, Lib.hid ⟨hnx.out _, rfl, rfl, rfl⟩⟩
    · have hpos := pos_of_plc (ks_srt N.bt N.srt) hp (!ahead) (fun e => absurd e hf)
      cases i with
      | zero =>
        cases gk with
        | zero =>
          have N1 := Lib.hid N
          have hmb : t'.ks.length ≤ 64 := by have := N.bt.ks; omega
          have hfind := Lib.hid (findTS wr t' key (0) false N.tre.nod (by omega) (ks_srt N.bt N.srt) hp (by simp [hf]))
          have HF := Lib.hid (fun w1 => N.fin (k := zk) (v := (Value.string zv)) (b := b) (x := none) (w1 := w1) (by rw [toLst_eq, (pos_leaf N.bt hpos).2, if_pos rfl]) hh.out.2.1 hh.out.2.2.1 hh.out.2.2.2)
          have HZ := Lib.hid hh.out.2
          obtain ⟨m, hm⟩ : ∃ m, m = t'.ks.length := ⟨_, rfl⟩
          have HM := Lib.hid hm
          have hmb2 : m ≤ 64 := by omega
          have hib : (0 : Int) < (m : Int) + 1 := by omega
          clear hm hmb hp hf N hh start0 hpos hil
          go_wp2_with fail
          refine hfind.out.mono ?_
          clear hfind
          rintro e w1 ⟨rfl, hb⟩
          have t2 := N1.out.tre.below hb
          have c := celS t2 N1.out.bt
          rw [← HM.out] at c
          obtain ⟨KA, kc, d0, d1⟩ := c.key
          have hleaf := Lib.hid (fun n => leafTS (w1.drewN n) 0 t' (t2.below (below_drewN' (Below.refl _ _) n)) N1.out.bt)
          have hleaf0 := Lib.hid (leafTS w1 0 t' t2 N1.out.bt)
          have hfin := Lib.hid (HF.out w1 hb)
          clear t2 c d1 HF hb
          go_wp2_with fail
          refine hleaf0.out.mono ?_
          rintro e w' ⟨rfl, rfl⟩
          go_wp2
          go_ret3
          exact hfin.out
        | succ gk =>
          have N1 := Lib.hid N
          have hmb : t'.ks.length ≤ 64 := by have := N.bt.ks; omega
          have hfind := Lib.hid (findTS wr t' key (0) false N.tre.nod (by omega) (ks_srt N.bt N.srt) hp (by simp [hf]))
          obtain ⟨d, hd⟩ : ∃ d, t'.cs[0]? = some d := ⟨_, List.getElem?_eq_getElem (by have := N.bt.1; omega)⟩
          have HD := Lib.hid hd
          have HCS := Lib.hid N.bt.1
          have HF := Lib.hid (fun w1 => N.down (x := none) (w1 := w1) hil hd (by rw [toLst_eq, toLst_eq, (pos_kid (fromK_up key (!ahead)) N.bt N.srt hpos hd).2, if_pos rfl]))
          have HZ := Lib.hid hh.out.2
          obtain ⟨m, hm⟩ : ∃ m, m = t'.ks.length := ⟨_, rfl⟩
          have HM := Lib.hid hm
          have hmb2 : m ≤ 64 := by omega
          have hib : (0 : Int) < (m : Int) + 1 := by omega
          clear hm hmb hp hf N hh start0 hd hpos hil
          go_wp2_with fail
          refine hfind.out.mono ?_
          clear hfind
          rintro e w1 ⟨rfl, hb⟩
          have t2 := N1.out.tre.below hb
          have c := celS t2 N1.out.bt
          rw [← HM.out] at c
          obtain ⟨KA, kc, d0, d1⟩ := c.key
          obtain ⟨CA, cc, f0, f1⟩ := c.kid
          rw [HCS.out, ← HM.out] at f0
          obtain ⟨gc, rfl, f2⟩ := f1 (0) _ HD.out
          have hleaf := Lib.hid (fun n => leafTS (w1.drewN n) (gk + 1) t' (t2.below (below_drewN' (Below.refl _ _) n)) N1.out.bt)
          have hleaf0 := Lib.hid (leafTS w1 (gk + 1) t' t2 N1.out.bt)
          have hnx := Lib.hid (HF.out w1 hb)
          clear t2 c d1 HF hb f1
          go_wp2_with fail
          refine hleaf0.out.mono ?_
          rintro e w' ⟨rfl, rfl⟩
          go_wp2
          go_roundg gk
          case measure => omega
          case rel => exact ⟨d, acc, zk, zv, b, rfl, rfl, rfl, rfl, Lib.hid ⟨hnx.out, HZ.out⟩⟩
      | succ i =>
        cases gk with
        | zero =>
          have N1 := Lib.hid N
          have hmb : t'.ks.length ≤ 64 := by have := N.bt.ks; omega
          have hfind := Lib.hid (findTS wr t' key (i + 1) false N.tre.nod (by omega) (ks_srt N.bt N.srt) hp (by simp [hf]))
          obtain ⟨k, hk⟩ : ∃ k, t'.ks[i]? = some k := ⟨_, List.getElem?_eq_getElem (by omega)⟩
          obtain ⟨v, hv, hpv⟩ := vs_get N.bt hk
          obtain ⟨zu, rfl⟩ : StrV v := N.tre.nod.v1 v (List.mem_of_getElem? hv)
          have HK := Lib.hid hk
          have HV := Lib.hid hv
          have HF := Lib.hid (fun w1 => N.fin (k := k) (v := (Value.string zu)) (b := true) (x := some (k, Value.string zu)) (w1 := w1) (by rw [toLst_eq, (pos_leaf N.bt hpos).2, if_neg (by omega), Nat.add_sub_cancel, hpv]) rfl rfl rfl)
          obtain ⟨m, hm⟩ : ∃ m, m = t'.ks.length := ⟨_, rfl⟩
          have HM := Lib.hid hm
          have hmb2 : m ≤ 64 := by omega
          have hib : (i : Int) < (m : Int) := by omega
          have hib2 : (i : Int) + 1 < (m : Int) + 1 := by omega
          clear hm hmb hp hf N hh start0 hk hv hpv hpos hil
          go_wp2_with fail
          refine hfind.out.mono ?_
          clear hfind
          rintro e w1 ⟨rfl, hb⟩
          have t2 := N1.out.tre.below hb
          have c := celS t2 N1.out.bt
          rw [← HM.out] at c
          obtain ⟨KA, kc, d0, d1⟩ := c.key
          obtain ⟨g, rfl, d2⟩ := d1 (i) k HK.out
          obtain ⟨VA, vc, e0, e1⟩ := c.val
          obtain ⟨gv, rfl, e2⟩ := e1 (i) _ HV.out
          have hleaf := Lib.hid (fun n => leafTS (w1.drewN n) 0 t' (t2.below (below_drewN' (Below.refl _ _) n)) N1.out.bt)
          have hfin := Lib.hid (fun n => HF.out (w1.drewN n) (below_drewN' hb n))
          clear t2 c d1 HF hb e1
          go_wp2_with fail
          go_quiet (fail)
          go_wp2_with (go_at_call 64; refine (hleaf.out _).mono ?_; rintro e w' ⟨rfl, rfl⟩)
          go_ret3
          exact hfin.out _
        | succ gk =>
          have N1 := Lib.hid N
          have hmb : t'.ks.length ≤ 64 := by have := N.bt.ks; omega
          have hfind := Lib.hid (findTS wr t' key (i + 1) false N.tre.nod (by omega) (ks_srt N.bt N.srt) hp (by simp [hf]))
          obtain ⟨k, hk⟩ : ∃ k, t'.ks[i]? = some k := ⟨_, List.getElem?_eq_getElem (by omega)⟩
          obtain ⟨v, hv, hpv⟩ := vs_get N.bt hk
          obtain ⟨zu, rfl⟩ : StrV v := N.tre.nod.v1 v (List.mem_of_getElem? hv)
          have HK := Lib.hid hk
          have HV := Lib.hid hv
          obtain ⟨d, hd⟩ : ∃ d, t'.cs[i + 1]? = some d := ⟨_, List.getElem?_eq_getElem (by have := N.bt.1; omega)⟩
          have HD := Lib.hid hd
          have HCS := Lib.hid N.bt.1
          have HF := Lib.hid (fun w1 => N.down (x := some (k, Value.string zu)) (w1 := w1) hil hd (by rw [toLst_eq, toLst_eq, (pos_kid (fromK_up key (!ahead)) N.bt N.srt hpos hd).2, if_neg (by omega), Nat.add_sub_cancel, hpv]))
          obtain ⟨m, hm⟩ : ∃ m, m = t'.ks.length := ⟨_, rfl⟩
          have HM := Lib.hid hm
          have hmb2 : m ≤ 64 := by omega
          have hib : (i : Int) < (m : Int) := by omega
          have hib2 : (i : Int) + 1 < (m : Int) + 1 := by omega
          clear hm hmb hp hf N hh start0 hk hv hpv hd hpos hil
          go_wp2_with fail
          refine hfind.out.mono ?_
          clear hfind
          rintro e w1 ⟨rfl, hb⟩
          have t2 := N1.out.tre.below hb
          have c := celS t2 N1.out.bt
          rw [← HM.out] at c
          obtain ⟨KA, kc, d0, d1⟩ := c.key
          obtain ⟨g, rfl, d2⟩ := d1 (i) k HK.out
          obtain ⟨VA, vc, e0, e1⟩ := c.val
          obtain ⟨gv, rfl, e2⟩ := e1 (i) _ HV.out
          obtain ⟨CA, cc, f0, f1⟩ := c.kid
          rw [HCS.out, ← HM.out] at f0
          obtain ⟨gc, rfl, f2⟩ := f1 (i + 1) _ HD.out
          have hleaf := Lib.hid (fun n => leafTS (w1.drewN n) (gk + 1) t' (t2.below (below_drewN' (Below.refl _ _) n)) N1.out.bt)
          have hnx := Lib.hid (fun n => HF.out (w1.drewN n) (below_drewN' hb n))
          clear t2 c d1 HF hb e1 f1
          go_wp2_with fail
          go_quiet (fail)
          go_wp2_with (go_at_call 64; refine (hleaf.out _).mono ?_; rintro e w' ⟨rfl, rfl⟩)
          go_roundg gk
          case measure => omega
          case rel => exact ⟨d, some (k, Value.string zu), k, zu, true, rfl, rfl, rfl, rfl, Lib.hid ⟨hnx.out _, rfl, rfl, rfl⟩⟩

end Go.Proofs.Ytcidmaeclonilaa
