/- Drop of a tree (printed by mkdrop4.py). -/
import Derived.Test.YtcidmaeclonilaaDropX
namespace Go.Proofs.Ytcidmaeclonilaa
open Go Go.RowKit

theorem del_len {k : ByteArray} {l : List KV} (hs : Srt l) : (del k l).length + (if (look k l).isSome = true then 1 else 0) = l.length := by
  induction l with
  | nil => simp [del, look]
  | cons p l ih =>
    have hs' := (List.pairwise_cons.1 hs).2
    have hp := (List.pairwise_cons.1 hs).1
    have ih' := ih hs'
    by_cases h : p.1 = k
    · subst h
      have e : del p.1 (p :: l) = l := by
        have := del_here (k := p.1) (u := p.2) (A := []) (B := l) (fun q hq => by cases hq) hp
        simpa using this
      rw [e]
      simp [look]
    · have e1 : del k (p :: l) = p :: del k l := by simp [del, h]
      have e2 : look k (p :: l) = look k l := by simp [look, List.find?_cons, h]
      rw [e1, e2]
      simp only [List.length_cons]
      omega

def TDropPostS (w : World) (a : Nat) (l : List KV) (L : List Nat) (k : ByteArray) (e : Ending) (w' : World) : Prop :=
  ∃ L', IsTreeS w' a (del k l) L' ∧ Chg L w w' ∧ Sub w L' L ∧ e = .returned (.tuple #[(look k l).getD (Value.string ⟨#[]⟩), .bool (look k l).isSome])

/-- the tree's own cells and its root, behind the root's drop -/
structure TDS (w : World) (a : Nat) (N : Nat) (h : Nat) (b : Nat) (t' : GT) (L : List Nat) (wx : World) : Prop where
  blk : Blk wx a 104 #[.pointer (some ⟨b, 0, none⟩), .int .i64 N]
  tre : Tre TS wx h t'
  chg : Chg (a :: L) w wx
theorem TDS.many {w wx : World} {a N N' h b : Nat} {t' : GT} {L : List Nat} (H : TDS w a N h b t' L wx) (ha : a ∉ fp h t') : TDS w a N' h b t' L (wx.setCell ⟨a, 1, none⟩ (.int .i64 N')) :=
  ⟨H.blk.set_ 1 _, ⟨H.tre.rep.chg ((Chg.refl [a] wx).setCell (.inl (by simp)) _) (fun x hx hm => by rw [List.mem_singleton.1 hm] at hx; exact ha hx), H.tre.sep⟩, H.chg.setCell (.inl (by simp)) _⟩

set_option maxRecDepth 20000 in
set_option maxHeartbeats 8000000 in
theorem tdropS (w : World) (a : Nat) (l : List KV) (L : List Nat) (key : ByteArray) (H : IsTreeS w a l L) (hlen : l.length ≤ 1000000) :
    Calls Try.prog 42 #[.pointer (some ⟨a, 0, none⟩), .string key] w (TDropPostS w a l L key) := by
  obtain ⟨h, t, hB, hT, hb, hs, hl, ha, rfl, h0⟩ := H
  have hdl := del_len (k := key) hs
  have hdrop := Lib.hid (show Calls Try.prog 75 #[.pointer (some ⟨t.b, 0, none⟩), .string key] w (fun e w1 => ∃ (z : Value) (was : Bool) (t' : GT) (KA : Option Addr) (kc : Nat), e = .returned (.tuple #[z, .bool was]) ∧ (look key l).isSome = was ∧ w1.cell? ⟨t.b, 0, none⟩ = some (.slice KA t'.ks.length kc) ∧
      Hid (z = (look key l).getD (Value.string ⟨#[]⟩) ∧ t'.b = t.b ∧ BT h t' ∧ toL h t' = del key l ∧ Sub w (fp h t') (fp h t) ∧ a ∉ fp h t') ∧ Hid (TDS w a l.length h t.b t' (fp h t) w1)) from by
    refine (drop_allS h t w key hT hb (by rw [hl]; exact hs) (by
      cases h with
      | zero => exact .inl rfl
      | succ h => exact .inr (h0 (by omega)))).mono ?_
    rintro e w1 ⟨t', r1, r2, r3, r4, r5, r6, r7, r8⟩
    rw [hl] at r5 r8
    obtain ⟨KA, kc, e0, -⟩ := (celS r2 r3).key
    have ha' : a ∉ fp h t' := fun hm => (r7 a hm).elim ha (fun hh => by have := hB.lt; omega)
    exact ⟨_, _, t', KA, kc, r8, rfl, by rw [← r1]; exact e0, Lib.hid ⟨rfl, r1, r3, r5, r7, ha'⟩, Lib.hid ⟨hB.chg r6 ha, r2, r6.mono fun x hx => .inl (List.mem_cons_of_mem _ hx)⟩⟩)
  have hleaf := Lib.hid (fun (w1 : World) (t' : GT) (b : Nat) (H1 : Tre TS w1 h t') (B1 : BT h t') (hb : t'.b = b) => show Calls Try.prog 64 #[.pointer (some ⟨b, 0, none⟩)] w1 fun e w' => e = .returned (.bool (decide (h = 0))) ∧ w1 = w' from by rw [← hb]; exact leafTS w1 h t' H1 B1)
  have SR := Lib.hid hs
  have DL := Lib.hid hdl
  have LN := Lib.hid hlen
  have a0 : w.cell? ⟨a, 0, none⟩ = some (.pointer (some ⟨t.b, 0, none⟩)) := hB.cell 0
  -- the tree as it is left
  have stay := Lib.hid (show ∀ (t' : GT) (z : Value) (was : Bool) (wx : World), (look key l).isSome = was → z = (look key l).getD (Value.string ⟨#[]⟩) ∧ t'.b = t.b ∧ BT h t' ∧ toL h t' = del key l ∧ Sub w (fp h t') (fp h t) ∧ a ∉ fp h t' → TDS w a (del key l).length h t.b t' (fp h t) wx → (0 < h → 0 < t'.ks.length) →
      TDropPostS w a l (a :: fp h t) key (.returned (.tuple #[z, .bool was])) wx from by
    rintro t' z was wx hw ⟨rfl, e1, e2, e3, e4, e5⟩ D hh
    subst hw
    refine ⟨a :: fp h t', ⟨h, t', by rw [e1]; exact D.blk, D.tre, e2, hs.del, e3, e5, rfl, hh⟩, D.chg, fun k hk => ?_, rfl⟩
    rcases List.mem_cons.1 hk with rfl | hk
    · exact .inl (by simp)
    · exact (e4 k hk).imp (fun x => List.mem_cons_of_mem _ x) id)
  have sink := Lib.hid (show ∀ (h' : Nat) (t' c : GT) (z : Value) (was : Bool) (wx : World), h = h' + 1 → t'.ks.length = 0 → t'.cs[0]? = some c → (look key l).isSome = was → z = (look key l).getD (Value.string ⟨#[]⟩) ∧ t'.b = t.b ∧ BT h t' ∧ toL h t' = del key l ∧ Sub w (fp h t') (fp h t) ∧ a ∉ fp h t' → TDS w a (del key l).length h t.b t' (fp h t) wx →
      TDropPostS w a l (a :: fp h t) key (.returned (.tuple #[z, .bool was])) (wx.setCell ⟨a, 0, none⟩ (.pointer (some ⟨c.b, 0, none⟩))) from by
    rintro h' t' c z was wx rfl hk hc hw ⟨rfl, e1, e2, e3, e4, e5⟩ D
    subst hw
    have hsub : ∀ x ∈ fp h' c, x ∈ fp (h' + 1) t' := fun x hx => by rw [fp_kid hc]; simp [hx]
    have Hc := D.tre.kid hc
    have Bc := e2.kid_at hc
    have ac : a ∉ fp h' c := fun hm => e5 (hsub a hm)
    have hL : toL h' c = del key l := by
      rw [← e3, toL_split e2 (Nat.zero_le _) hc, Lf_zero, Rt_end e2 (by omega)]; simp
    refine ⟨a :: fp h' c, ⟨h', c, D.blk.set_ 0 _, ⟨Hc.rep.chg ((Chg.refl [a] wx).setCell (.inl (by simp)) _) (fun x hx hm => by rw [List.mem_singleton.1 hm] at hx; exact ac hx), Hc.sep⟩, Bc.1, hs.del, hL, ac, rfl, fun _ => by omega⟩, D.chg.setCell (.inl (by simp)) _, fun k hk => ?_, rfl⟩
    rcases List.mem_cons.1 hk with rfl | hk
    · exact .inl (by simp)
    · exact (e4 k (hsub k hk)).imp (fun x => List.mem_cons_of_mem _ x) id)
  clear hB hT hb hs hl ha hdl hlen h0
  go_enter Try.func42, Try.ntmps42
  go_wp2_with fail
  refine hdrop.out.mono ?_
  clear hdrop a0
  rintro e w1 ⟨z, was, t', KA, kc, rfl, hw, k0, F, D⟩
  have HW := Lib.hid hw
  have a0 : w1.cell? ⟨a, 0, none⟩ = some (.pointer (some ⟨t.b, 0, none⟩)) := D.out.blk.cell 0
  have a1 : w1.cell? ⟨a, 1, none⟩ = some (.int .i64 l.length) := D.out.blk.cell 1
  have f1 : w1.frozen? ⟨a, 1, none⟩ = false := D.out.blk.frozen 1
  have hll : (l.length : Int) ≤ 1000000 := by have := LN.out; omega
  obtain ⟨N, hN⟩ : ∃ N, N = l.length := ⟨_, rfl⟩
  rw [← hN] at a1 hll
  clear hw k0
  cases was with
  | true =>
    obtain ⟨M, rfl⟩ : ∃ M, N = M + 1 := ⟨N - 1, by have := DL.out; rw [HW.out] at this; simp at this; omega⟩
    have hMz : IntKind.i64.wrap ((M : Int) + 1 - 1) = (M : Int) := by rw [IntKind.wrap_i64]; omega
    have hMz2 : IntKind.i64.wrap (M : Int) = (M : Int) := by rw [IntKind.wrap_i64]; omega
    have hdM : (del key l).length = M := by have := DL.out; rw [HW.out] at this; simp at this; omega
    have D2 := Lib.hid (TDS.many (N' := M) D.out F.out.2.2.2.2.2)
    rw [← hdM] at D2
    have HM := Lib.hid hdM
    clear hdM hN D
    go_upto_region 6 with fail
    rw [HM.out] at D2
    generalize w1.setCell ⟨a, 1, none⟩ (.int .i64 (M : Int)) = wx at *
    rw [← HM.out] at D2
    clear a0 a1 f1
    have a0 : wx.cell? ⟨a, 0, none⟩ = some (.pointer (some ⟨t.b, 0, none⟩)) := D2.out.blk.cell 0
    have f0 : wx.frozen? ⟨a, 0, none⟩ = false := D2.out.blk.frozen 0
    obtain ⟨KB, kb, k0⟩ : ∃ (KB : Option Addr) (kb : Nat), wx.cell? ⟨t.b, 0, none⟩ = some (.slice KB t'.ks.length kb) := by
      obtain ⟨KB, kb, e0, -⟩ := (celS D2.out.tre F.out.2.2.1).key
      exact ⟨KB, kb, by rw [← F.out.2.1]; exact e0⟩
    have hl := Lib.hid (hleaf.out wx t' t.b D2.out.tre F.out.2.2.1 F.out.2.1)
    by_cases hn : t'.ks.length = 0
    · rw [hn] at k0
      cases h with
      | zero =>
        have hfin := Lib.hid (stay.out t' z true wx HW.out F.out D2.out (fun h => by omega))
        clear stay sink hleaf F D2 hn
        go_wp2_with (go_at_call 64; refine hl.out.mono ?_; rintro e w' ⟨rfl, rfl⟩)
        go_ret2
        exact hfin.out
      | succ h' =>
        have B1 := F.out.2.2.1.1
        obtain ⟨g, cc, _, _, c0, -, ck⟩ := kidCellsS D2.out.tre F.out.2.2.1
        rw [F.out.2.1, hn] at c0
        obtain ⟨c, hc⟩ : ∃ c, t'.cs[0]? = some c := ⟨_, List.getElem?_eq_getElem (by omega)⟩
        have ck0 := (ck 0 c hc).1
        have hfin := Lib.hid (sink.out h' t' c z true wx rfl hn hc HW.out F.out D2.out)
        clear stay sink hleaf F D2 hn B1 ck hc
        go_wp2_with (go_at_call 64; refine hl.out.mono ?_; rintro e w' ⟨rfl, rfl⟩)
        go_ret2
        exact hfin.out
    · have hfin := Lib.hid (stay.out t' z true wx HW.out F.out D2.out (fun _ => by omega))
      have hnz : ((t'.ks.length : Int) == 0) = false := by rw [beq_eq_false_iff_ne]; omega
      clear stay sink hleaf F D2 hn
      generalize t'.ks.length = n at *
      go_wp2_with fail
      go_ret2
      exact hfin.out
  | false =>
    have D2 := Lib.hid (show TDS w a (del key l).length h t.b t' (fp h t) w1 from by
      have hd : (del key l).length = l.length := by have := DL.out; rw [HW.out] at this; simpa using this
      rw [hd]; exact D.out)
    clear hN D
    go_upto_region 6 with fail
    generalize w1 = wx at *
    clear a0 a1 f1
    have a0 : wx.cell? ⟨a, 0, none⟩ = some (.pointer (some ⟨t.b, 0, none⟩)) := D2.out.blk.cell 0
    have f0 : wx.frozen? ⟨a, 0, none⟩ = false := D2.out.blk.frozen 0
    obtain ⟨KB, kb, k0⟩ : ∃ (KB : Option Addr) (kb : Nat), wx.cell? ⟨t.b, 0, none⟩ = some (.slice KB t'.ks.length kb) := by
      obtain ⟨KB, kb, e0, -⟩ := (celS D2.out.tre F.out.2.2.1).key
      exact ⟨KB, kb, by rw [← F.out.2.1]; exact e0⟩
    have hl := Lib.hid (hleaf.out wx t' t.b D2.out.tre F.out.2.2.1 F.out.2.1)
    by_cases hn : t'.ks.length = 0
    · rw [hn] at k0
      cases h with
      | zero =>
        have hfin := Lib.hid (stay.out t' z false wx HW.out F.out D2.out (fun h => by omega))
        clear stay sink hleaf F D2 hn
        go_wp2_with (go_at_call 64; refine hl.out.mono ?_; rintro e w' ⟨rfl, rfl⟩)
        go_ret2
        exact hfin.out
      | succ h' =>
        have B1 := F.out.2.2.1.1
        obtain ⟨g, cc, _, _, c0, -, ck⟩ := kidCellsS D2.out.tre F.out.2.2.1
        rw [F.out.2.1, hn] at c0
        obtain ⟨c, hc⟩ : ∃ c, t'.cs[0]? = some c := ⟨_, List.getElem?_eq_getElem (by omega)⟩
        have ck0 := (ck 0 c hc).1
        have hfin := Lib.hid (sink.out h' t' c z false wx rfl hn hc HW.out F.out D2.out)
        clear stay sink hleaf F D2 hn B1 ck hc
        go_wp2_with (go_at_call 64; refine hl.out.mono ?_; rintro e w' ⟨rfl, rfl⟩)
        go_ret2
        exact hfin.out
    · have hfin := Lib.hid (stay.out t' z false wx HW.out F.out D2.out (fun _ => by omega))
      have hnz : ((t'.ks.length : Int) == 0) = false := by rw [beq_eq_false_iff_ne]; omega
      clear stay sink hleaf F D2 hn
      generalize t'.ks.length = n at *
      go_wp2_with fail
      go_ret2
      exact hfin.out

theorem drop_ownS {w0 w : World} {a : Nat} {l : List KV} (H : TOwnS w0 w a l) (key : ByteArray) (hlen : l.length ≤ 1000000) :
    Calls Try.prog 42 #[.pointer (some ⟨a, 0, none⟩), .string key] w fun e w' => e = .returned (.tuple #[(look key l).getD (Value.string ⟨#[]⟩), .bool (look key l).isSome]) ∧ Hid (TOwnS w0 w' a (del key l)) := by
  obtain ⟨L, h, h1, h2⟩ := H
  refine (tdropS w a l L key h hlen).mono ?_
  rintro e w' ⟨L', q1, q2, q3, q4⟩
  exact ⟨q4, Lib.hid ⟨L', q1, fun k hk => (q3 k hk).elim (h1 k) (fun x => Nat.le_trans h2.size x), h2.trans (q2.below h1 h2.size)⟩⟩

end Go.Proofs.Ytcidmaeclonilaa
