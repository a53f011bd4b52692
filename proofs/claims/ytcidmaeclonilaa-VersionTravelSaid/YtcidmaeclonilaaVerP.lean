/- A store of one key's versions: the walk of Put. -/
import Derived.Test.YtcidmaeclonilaaVerF
namespace Go.Proofs.Ytcidmaeclonilaa
open Go Go.RowKit

set_option maxRecDepth 100000 in
set_option maxHeartbeats 8000000 in
theorem put33 {w0 w : World} {s : Nat} {key : ByteArray} {vs : List Ver} {rs : List ByteArray} (H : SO w0 w s key vs rs) (at_ : Int) (h1 : 1 ≤ at_) (hup : ∀ v ∈ vs, v.at_ < at_) (hn : vs.length ≤ 1000) (gone : Bool) (RA : Option Addr) (rn rc : Nat) (r : ByteArray) (hR : BytesAt w (RA, rn, rc) r) (hrs : r.size ≤ 140737488355328) :
    Calls Try.prog 33 #[.pointer (some ⟨s, 0, none⟩), .string key, .int .i64 at_, .slice RA rn rc, .bool gone] w fun e w' => e = .returned .nilIface ∧ ∃ row', Hid (SO w0 w' s key (vs ++ [⟨at_, row', gone⟩]) (rs ++ [if gone = true then ⟨#[]⟩ else r])) := by
  obtain ⟨a, L, A, n, c, h⟩ := H
  have hlk : (look key (treeL key vs (.slice A n c))).getD (.slice none 0 0) = .slice A n c := by
    unfold treeL
    by_cases hv : vs = []
    · have := h.chain.len
      subst hv
      have hn0 : n = 0 := this.symm
      have hA := h.start rfl
      rw [hA, hn0, h.nil_ hA]; simp [look]
    · rw [if_neg hv]; simp [look]
  have HLK := Lib.hid hlk
  have hg := (tgetC h.tree key).mono (fun e w' hh => (⟨by have := hh.1; rw [hlk] at this; exact this, hh.2⟩ : e = .returned (.tuple #[.slice A n c, .bool (look key (treeL key vs (.slice A n c))).isSome]) ∧ Below w.heap.size w w'))
  obtain ⟨lb, hlb⟩ : ∃ b, b = (look key (treeL key vs (.slice A n c))).isSome := ⟨_, rfl⟩
  have h0 : w.cell? ⟨s, 0, none⟩ = some (.pointer (some ⟨a, 0, none⟩)) := h.box.cell 0
  have hge1 : ¬ (at_ < 1) := by omega
  have HG := Lib.hid hg
  have HLB := Lib.hid hlb
  clear hg hlk hlb
  have HH := Lib.hid h
  have HR := Lib.hid hR
  have hnl := h.chain.len
  have hw3 := Lib.hid (wv3 (n := n) (by omega))
  have hw1 := Lib.hid (wv1 (n := n) (by omega))
  clear h hR
  go_enter Try.func33, Try.ntmps33
  go_wp2_with fail
  refine HG.out.mono ?_
  clear HG
  rintro e w1 ⟨rfl, hb1⟩
  rw [← HLB.out]
  have B1 := Lib.hid hb1
  have h1s : w.heap.size ≤ w1.heap.size := hb1.size
  clear hb1
  -- the chain's last commit lies ahead
  have last : (n = 0 ∧ ((n : Int) - 1 < 0)) ∨ ∃ (m g : Nat) (ai : Int), n = m + 1 ∧ A = some ⟨g, 0, none⟩ ∧ ai < at_ ∧ ∀ W, Below w.heap.size w W → W.cell? ⟨g, m * 3, none⟩ = some (.int .i64 ai) := by
    cases n with
    | zero => exact .inl ⟨rfl, by omega⟩
    | succ m =>
      obtain ⟨v, hv⟩ : ∃ v, vs[m]? = some v := ⟨_, List.getElem?_eq_getElem (by omega)⟩
      obtain ⟨g, e1, e2, e3, -, -⟩ := HH.out.chain.at_ hv
      exact .inr ⟨m, g, v.at_, rfl, e1, hup v (List.mem_of_getElem? hv), fun W hb => (hb.cell (p := ⟨g, m * 3, none⟩) e2).trans e3⟩
  have LAST := Lib.hid last
  clear last
  cases gone with
  | true =>
    obtain ⟨wP, hwP⟩ : ∃ x, x = w1.alloc (.cells #[.int .i64 at_, .slice none 0 0, .bool true] 120) := ⟨_, rfl⟩
    have BP := Lib.hid (show Below w.heap.size w wP from by rw [hwP]; exact B1.out.alloc B1.out.size _)
    have hbk : Blk wP w1.heap.size 120 #[.int .i64 at_, .slice none 0 0, .bool true] := by rw [hwP]; exact Blk.new w1 120 _
    have WP := Lib.hid hwP
    have ln := LAST.out
    have h := HH.out
    have hRN : ∀ g, ((none, 0, 0) : Sl).1 = some ⟨g, 0, none⟩ → w.heap.size ≤ g := fun g hg => by cases hg
    have hTX : (⟨#[]⟩ : ByteArray).size ≤ 140737488355328 := Nat.zero_le _
    have RBy := Lib.hid (BytesAt.nil wP)
    have g1 := hw3.out
    have g2 := hw1.out
    rcases ln with ⟨hn0, hlt⟩ | ⟨m, g, ai, hm, hA, hai, hcell⟩
    · subst hn0
      have hlt2 : ((0 : Nat) : Int) - 1 < 0 := hlt
      clear hwP

      have KS := Lib.hid (show ∀ w' : World, w'.heap[s]? = w.heap[s]? → w'.heap[w1.heap.size]? = wP.heap[w1.heap.size]? → (w'.cell? ⟨s, 0, none⟩ = some (.pointer (some ⟨a, 0, none⟩)) ∧ w'.cell? ⟨w1.heap.size, 0, none⟩ = some (.int .i64 at_) ∧ w'.cell? ⟨w1.heap.size, 1, none⟩ = some (.slice none 0 0) ∧ w'.cell? ⟨w1.heap.size, 2, none⟩ = some (.bool true)) from fun w' e1 e2 => ⟨Blk.cell (show Blk w' s 115 #[.pointer (some ⟨a, 0, none⟩)] from e1.trans h.box) 0, Blk.cell (show Blk w' w1.heap.size 120 #[.int .i64 at_, .slice none 0 0, .bool true] from e2.trans hbk) 0, Blk.cell (show Blk w' w1.heap.size 120 #[.int .i64 at_, .slice none 0 0, .bool true] from e2.trans hbk) 1, Blk.cell (show Blk w' w1.heap.size 120 #[.int .i64 at_, .slice none 0 0, .bool true] from e2.trans hbk) 2⟩)
      have KS1 := Lib.hid (show ∀ w' : World, Below wP.heap.size wP w' → (w'.cell? ⟨s, 0, none⟩ = some (.pointer (some ⟨a, 0, none⟩)) ∧ w'.cell? ⟨w1.heap.size, 0, none⟩ = some (.int .i64 at_) ∧ w'.cell? ⟨w1.heap.size, 1, none⟩ = some (.slice none 0 0) ∧ w'.cell? ⟨w1.heap.size, 2, none⟩ = some (.bool true)) from fun w' hb => KS.out w' ((hb.block s (Nat.lt_of_lt_of_le h.box.lt BP.out.size)).trans (BP.out.block s h.box.lt)) (hb.block _ hbk.lt))
      have hbE : Below wP.heap.size wP ((wP.alloc (.cells #[.int .i64 at_, .slice none 0 0, .bool true] 120)).drew) := by
        have hb := Below.refl wP.heap.size wP
        go_grown
      have nb : Blk ((wP.alloc (.cells #[.int .i64 at_, .slice none 0 0, .bool true] 120)).drew) wP.heap.size 120 #[.int .i64 at_, .slice none 0 0, .bool true] := Blk.new wP 120 _
      have hch : ChainAt ((wP.alloc (.cells #[.int .i64 at_, .slice none 0 0, .bool true] 120)).drew) A 0 vs := (h.chain.below BP.out).below (hbE.mono (Nat.le_refl _))
      obtain ⟨c', wQ, hr, hc1, hc2, hcq, hbq⟩ := chain_app hch (by have := h.chain.len; omega) ⟨at_, (none, 0, 0), true⟩ wP.heap.size (nb.cell 0) (nb.cell 1) (nb.cell 2)
      have hsE : ((wP.alloc (.cells #[.int .i64 at_, .slice none 0 0, .bool true] 120)).drew).heap.size = wP.heap.size + 1 := by simp
      have hbQ : Below wP.heap.size wP wQ := hbE.trans (hbq.mono (by omega))
      have hsq2 := hbq.size
      rw [hsE] at hr hcq hsq2
      have hg2 : wP.heap.size + 1 < wQ.heap.size := by
        rcases hcq.form with ⟨hx, -⟩ | ⟨g, hx, hgl, -⟩
        · cases hx
        · have : wP.heap.size + 1 = g := by injection hx with hx; injection hx
          omega
      have fin := put_fin h BP.out hbQ hcq hc1 (by omega) hg2 rfl (RBy.out : BytesAt wP (none, 0, 0) ⟨#[]⟩) hTX hRN w1.heap.size h1s (by have := hbk.lt; omega)
      have HP := Lib.hid (show Calls Try.prog 69 #[.pointer (some ⟨a, 0, none⟩), .string key, .slice (some ⟨wP.heap.size + 1, 0, none⟩) (0 + 1) c'] wQ fun e w9 => ∃ (zA : Option Addr) (zn zc : Nat) (b9 : Bool), e = .returned (.tuple #[.slice zA zn zc, .bool b9]) ∧ Hid (SO w0 w9 s key (vs ++ [⟨at_, (none, 0, 0), true⟩]) (rs ++ [⟨#[]⟩])) ∧ (w9.cell? ⟨s, 0, none⟩ = some (.pointer (some ⟨a, 0, none⟩)) ∧ w9.cell? ⟨w1.heap.size, 0, none⟩ = some (.int .i64 at_) ∧ w9.cell? ⟨w1.heap.size, 1, none⟩ = some (.slice none 0 0) ∧ w9.cell? ⟨w1.heap.size, 2, none⟩ = some (.bool true)) from fin.mono fun e w9 hh => by
        obtain ⟨b9, e1, e2, e3, e4⟩ := hh
        rw [HLK.out] at e1
        exact ⟨_, _, _, b9, e1, e2, KS.out w9 (e4.trans ((hbQ.block s (Nat.lt_of_lt_of_le h.box.lt BP.out.size)).trans (BP.out.block s h.box.lt))) (e3.trans (hbQ.block _ hbk.lt))⟩)
      have HQ := Lib.hid hbQ
      have hsQ := hbQ.size
      have hclip := Lib.hid (fun W => clip70 W A 0 c h.cap h.nil_)
      have hb := below_drew3 wP
      have hs := hb.size
      clear fin hcq hbq hch nb hbE hsE hbk h hc1 hc2 hg2 hsq2
      go_upto_region 12 with fail
      rw [← WP.out]
      go_region_held3 (fun w' : World => w'.cell? ⟨s, 0, none⟩ = some (.pointer (some ⟨a, 0, none⟩)) ∧ w'.cell? ⟨w1.heap.size, 0, none⟩ = some (.int .i64 at_) ∧ w'.cell? ⟨w1.heap.size, 1, none⟩ = some (.slice none 0 0) ∧ w'.cell? ⟨w1.heap.size, 2, none⟩ = some (.bool true))
        ((first | (refine KS1.out _ ?_; go_grown; done) | (with_reducible assumption)))
        (first
          | (go_at_call 70; refine (hclip.out _).mono ?_; rintro e w' ⟨rfl, rfl⟩)
          | (refine step_append_runI rfl _ _ 113 113 rfl (.slice A 0 0) (.slice (some ⟨wP.heap.size, 0, none⟩) 1 1) (by simp [Act.eval, Act.put]) (by simp [Act.eval, Act.put]) hr ?_)
          | (go_at_call 69; refine HP.out.mono ?_; rintro e w9 ⟨zA, zn, zc, b9, rfl, h9, ks9⟩))
      all_goals
        go_wp2_with fail
        go_ret
        exact ⟨rfl, _, _, _, h9⟩

    · subst hm hA
      have hci := hcell wP BP.out
      rw [hwP] at hci
      have hmz : ((m + 1 : Nat) : Int) - 1 = (m : Int) := by omega
      rw [hmz] at g1 g2
      have hm0 : (0 : Int) ≤ (m : Int) := by omega
      have hm1 : ¬ (at_ ≤ ai) := by omega
      have hm2 : (m : Int) < (m : Int) + 1 := by omega
      clear hcell hwP

      have KS := Lib.hid (show ∀ w' : World, w'.heap[s]? = w.heap[s]? → w'.heap[w1.heap.size]? = wP.heap[w1.heap.size]? → (w'.cell? ⟨s, 0, none⟩ = some (.pointer (some ⟨a, 0, none⟩)) ∧ w'.cell? ⟨w1.heap.size, 0, none⟩ = some (.int .i64 at_) ∧ w'.cell? ⟨w1.heap.size, 1, none⟩ = some (.slice none 0 0) ∧ w'.cell? ⟨w1.heap.size, 2, none⟩ = some (.bool true)) from fun w' e1 e2 => ⟨Blk.cell (show Blk w' s 115 #[.pointer (some ⟨a, 0, none⟩)] from e1.trans h.box) 0, Blk.cell (show Blk w' w1.heap.size 120 #[.int .i64 at_, .slice none 0 0, .bool true] from e2.trans hbk) 0, Blk.cell (show Blk w' w1.heap.size 120 #[.int .i64 at_, .slice none 0 0, .bool true] from e2.trans hbk) 1, Blk.cell (show Blk w' w1.heap.size 120 #[.int .i64 at_, .slice none 0 0, .bool true] from e2.trans hbk) 2⟩)
      have KS1 := Lib.hid (show ∀ w' : World, Below wP.heap.size wP w' → (w'.cell? ⟨s, 0, none⟩ = some (.pointer (some ⟨a, 0, none⟩)) ∧ w'.cell? ⟨w1.heap.size, 0, none⟩ = some (.int .i64 at_) ∧ w'.cell? ⟨w1.heap.size, 1, none⟩ = some (.slice none 0 0) ∧ w'.cell? ⟨w1.heap.size, 2, none⟩ = some (.bool true)) from fun w' hb => KS.out w' ((hb.block s (Nat.lt_of_lt_of_le h.box.lt BP.out.size)).trans (BP.out.block s h.box.lt)) (hb.block _ hbk.lt))
      have hbE : Below wP.heap.size wP ((wP.alloc (.cells #[.int .i64 at_, .slice none 0 0, .bool true] 120)).drew) := by
        have hb := Below.refl wP.heap.size wP
        go_grown
      have nb : Blk ((wP.alloc (.cells #[.int .i64 at_, .slice none 0 0, .bool true] 120)).drew) wP.heap.size 120 #[.int .i64 at_, .slice none 0 0, .bool true] := Blk.new wP 120 _
      have hch : ChainAt ((wP.alloc (.cells #[.int .i64 at_, .slice none 0 0, .bool true] 120)).drew) (some ⟨g, 0, none⟩) (m + 1) vs := (h.chain.below BP.out).below (hbE.mono (Nat.le_refl _))
      obtain ⟨c', wQ, hr, hc1, hc2, hcq, hbq⟩ := chain_app hch (by have := h.chain.len; omega) ⟨at_, (none, 0, 0), true⟩ wP.heap.size (nb.cell 0) (nb.cell 1) (nb.cell 2)
      have hsE : ((wP.alloc (.cells #[.int .i64 at_, .slice none 0 0, .bool true] 120)).drew).heap.size = wP.heap.size + 1 := by simp
      have hbQ : Below wP.heap.size wP wQ := hbE.trans (hbq.mono (by omega))
      have hsq2 := hbq.size
      rw [hsE] at hr hcq hsq2
      have hg2 : wP.heap.size + 1 < wQ.heap.size := by
        rcases hcq.form with ⟨hx, -⟩ | ⟨g, hx, hgl, -⟩
        · cases hx
        · have : wP.heap.size + 1 = g := by injection hx with hx; injection hx
          omega
      have fin := put_fin h BP.out hbQ hcq hc1 (by omega) hg2 rfl (RBy.out : BytesAt wP (none, 0, 0) ⟨#[]⟩) hTX hRN w1.heap.size h1s (by have := hbk.lt; omega)
      have HP := Lib.hid (show Calls Try.prog 69 #[.pointer (some ⟨a, 0, none⟩), .string key, .slice (some ⟨wP.heap.size + 1, 0, none⟩) ((m + 1) + 1) c'] wQ fun e w9 => ∃ (zA : Option Addr) (zn zc : Nat) (b9 : Bool), e = .returned (.tuple #[.slice zA zn zc, .bool b9]) ∧ Hid (SO w0 w9 s key (vs ++ [⟨at_, (none, 0, 0), true⟩]) (rs ++ [⟨#[]⟩])) ∧ (w9.cell? ⟨s, 0, none⟩ = some (.pointer (some ⟨a, 0, none⟩)) ∧ w9.cell? ⟨w1.heap.size, 0, none⟩ = some (.int .i64 at_) ∧ w9.cell? ⟨w1.heap.size, 1, none⟩ = some (.slice none 0 0) ∧ w9.cell? ⟨w1.heap.size, 2, none⟩ = some (.bool true)) from fin.mono fun e w9 hh => by
        obtain ⟨b9, e1, e2, e3, e4⟩ := hh
        rw [HLK.out] at e1
        exact ⟨_, _, _, b9, e1, e2, KS.out w9 (e4.trans ((hbQ.block s (Nat.lt_of_lt_of_le h.box.lt BP.out.size)).trans (BP.out.block s h.box.lt))) (e3.trans (hbQ.block _ hbk.lt))⟩)
      have HQ := Lib.hid hbQ
      have hsQ := hbQ.size
      have hclip := Lib.hid (fun W => clip70 W (some ⟨g, 0, none⟩) (m + 1) c h.cap h.nil_)
      have hb := below_drew3 wP
      have hs := hb.size
      clear fin hcq hbq hch nb hbE hsE hbk h hc1 hc2 hg2 hsq2
      go_upto_region 12 with fail
      rw [← WP.out]
      go_region_held3 (fun w' : World => w'.cell? ⟨s, 0, none⟩ = some (.pointer (some ⟨a, 0, none⟩)) ∧ w'.cell? ⟨w1.heap.size, 0, none⟩ = some (.int .i64 at_) ∧ w'.cell? ⟨w1.heap.size, 1, none⟩ = some (.slice none 0 0) ∧ w'.cell? ⟨w1.heap.size, 2, none⟩ = some (.bool true))
        ((first | (refine KS1.out _ ?_; go_grown; done) | (with_reducible assumption)))
        (first
          | (go_at_call 70; refine (hclip.out _).mono ?_; rintro e w' ⟨rfl, rfl⟩)
          | (refine step_append_runI rfl _ _ 113 113 rfl (.slice (some ⟨g, 0, none⟩) (m + 1) (m + 1)) (.slice (some ⟨wP.heap.size, 0, none⟩) 1 1) (by simp [Act.eval, Act.put]) (by simp [Act.eval, Act.put]) hr ?_)
          | (go_at_call 69; refine HP.out.mono ?_; rintro e w9 ⟨zA, zn, zc, b9, rfl, h9, ks9⟩))
      all_goals
        go_wp2_with fail
        go_ret
        exact ⟨rfl, _, _, _, h9⟩

  | false =>
    obtain ⟨wA, hwA⟩ : ∃ x, x = w1.alloc (.cells #[.int .i64 at_, .slice none 0 0, .bool false] 120) := ⟨_, rfl⟩
    have BA := Lib.hid (show Below w.heap.size w wA from by rw [hwA]; exact B1.out.alloc B1.out.size _)
    have bA : Blk wA w1.heap.size 120 #[.int .i64 at_, .slice none 0 0, .bool false] := by rw [hwA]; exact Blk.new w1 120 _
    have WA := Lib.hid hwA
    have hcl := Lib.hid (clone68 wA RA rn rc r (HR.out.below BA.out) hrs)
    have BK := Lib.hid bA
    clear hwA bA
    go_wp2_with fail
    rw [← WA.out]
    refine hcl.out.mono ?_
    clear hcl
    rintro e w3 ⟨A', q', rfl, hby, hfr, h3⟩
    have z3 : Blk w3 w1.heap.size 120 #[.int .i64 at_, .slice none 0 0, .bool false] := (h3.out.block _ BK.out.lt).trans BK.out
    obtain ⟨wP, hwP⟩ : ∃ x, x = w3.setCell ⟨w1.heap.size, 1, none⟩ (.slice A' rn q') := ⟨_, rfl⟩
    have BP := Lib.hid (show Below w.heap.size w wP from by rw [hwP]; exact (BA.out.trans (h3.out.mono BA.out.size)).setCell (p := ⟨w1.heap.size, 1, none⟩) h1s _)
    have hbk : Blk wP w1.heap.size 120 #[.int .i64 at_, .slice A' rn q', .bool false] := by rw [hwP]; exact z3.set_ 1 _
    have x1 : w3.cell? ⟨w1.heap.size, 1, none⟩ = some (.slice none 0 0) := z3.cell 1
    have x2 := z3.frozen 1
    have WP := Lib.hid hwP
    have h := HH.out
    have hTX := hrs
    have RBy := Lib.hid (show BytesAt wP (A', rn, q') r from by
      rw [hwP]
      refine ⟨hby.out.len, hby.out.cap, ?_⟩
      rcases hby.out.form with hf | ⟨g, e1, e2, e3⟩
      · exact .inl hf
      · have hgn := hfr g e1
        have := BK.out.lt
        exact .inr ⟨g, e1, by simpa [World.setCell] using e2, fun j hj => (World.cell?_of_block (Below.heap_setCell w3 ⟨w1.heap.size, 1, none⟩ _ g (by show g ≠ w1.heap.size; omega))).trans (e3 j hj)⟩)
    have hRN : ∀ g, ((A', rn, q') : Sl).1 = some ⟨g, 0, none⟩ → w.heap.size ≤ g := fun g hg => Nat.le_trans BA.out.size (hfr g hg)
    have ln := LAST.out
    have g1 := hw3.out
    have g2 := hw1.out
    clear z3
    rcases ln with ⟨hn0, hlt⟩ | ⟨m, g, ai, hm, hA, hai, hcell⟩
    · subst hn0
      have hlt2 : ((0 : Nat) : Int) - 1 < 0 := hlt
      clear hwP

      have KS := Lib.hid (show ∀ w' : World, w'.heap[s]? = w.heap[s]? → w'.heap[w1.heap.size]? = wP.heap[w1.heap.size]? → (w'.cell? ⟨s, 0, none⟩ = some (.pointer (some ⟨a, 0, none⟩)) ∧ w'.cell? ⟨w1.heap.size, 0, none⟩ = some (.int .i64 at_) ∧ w'.cell? ⟨w1.heap.size, 1, none⟩ = some (.slice A' rn q') ∧ w'.cell? ⟨w1.heap.size, 2, none⟩ = some (.bool false)) from fun w' e1 e2 => ⟨Blk.cell (show Blk w' s 115 #[.pointer (some ⟨a, 0, none⟩)] from e1.trans h.box) 0, Blk.cell (show Blk w' w1.heap.size 120 #[.int .i64 at_, .slice A' rn q', .bool false] from e2.trans hbk) 0, Blk.cell (show Blk w' w1.heap.size 120 #[.int .i64 at_, .slice A' rn q', .bool false] from e2.trans hbk) 1, Blk.cell (show Blk w' w1.heap.size 120 #[.int .i64 at_, .slice A' rn q', .bool false] from e2.trans hbk) 2⟩)
      have KS1 := Lib.hid (show ∀ w' : World, Below wP.heap.size wP w' → (w'.cell? ⟨s, 0, none⟩ = some (.pointer (some ⟨a, 0, none⟩)) ∧ w'.cell? ⟨w1.heap.size, 0, none⟩ = some (.int .i64 at_) ∧ w'.cell? ⟨w1.heap.size, 1, none⟩ = some (.slice A' rn q') ∧ w'.cell? ⟨w1.heap.size, 2, none⟩ = some (.bool false)) from fun w' hb => KS.out w' ((hb.block s (Nat.lt_of_lt_of_le h.box.lt BP.out.size)).trans (BP.out.block s h.box.lt)) (hb.block _ hbk.lt))
      have hbE : Below wP.heap.size wP ((wP.alloc (.cells #[.int .i64 at_, .slice A' rn q', .bool false] 120)).drew) := by
        have hb := Below.refl wP.heap.size wP
        go_grown
      have nb : Blk ((wP.alloc (.cells #[.int .i64 at_, .slice A' rn q', .bool false] 120)).drew) wP.heap.size 120 #[.int .i64 at_, .slice A' rn q', .bool false] := Blk.new wP 120 _
      have hch : ChainAt ((wP.alloc (.cells #[.int .i64 at_, .slice A' rn q', .bool false] 120)).drew) A 0 vs := (h.chain.below BP.out).below (hbE.mono (Nat.le_refl _))
      obtain ⟨c', wQ, hr, hc1, hc2, hcq, hbq⟩ := chain_app hch (by have := h.chain.len; omega) ⟨at_, (A', rn, q'), false⟩ wP.heap.size (nb.cell 0) (nb.cell 1) (nb.cell 2)
      have hsE : ((wP.alloc (.cells #[.int .i64 at_, .slice A' rn q', .bool false] 120)).drew).heap.size = wP.heap.size + 1 := by simp
      have hbQ : Below wP.heap.size wP wQ := hbE.trans (hbq.mono (by omega))
      have hsq2 := hbq.size
      rw [hsE] at hr hcq hsq2
      have hg2 : wP.heap.size + 1 < wQ.heap.size := by
        rcases hcq.form with ⟨hx, -⟩ | ⟨g, hx, hgl, -⟩
        · cases hx
        · have : wP.heap.size + 1 = g := by injection hx with hx; injection hx
          omega
      have fin := put_fin h BP.out hbQ hcq hc1 (by omega) hg2 rfl (RBy.out : BytesAt wP (A', rn, q') r) hTX hRN w1.heap.size h1s (by have := hbk.lt; omega)
      have HP := Lib.hid (show Calls Try.prog 69 #[.pointer (some ⟨a, 0, none⟩), .string key, .slice (some ⟨wP.heap.size + 1, 0, none⟩) (0 + 1) c'] wQ fun e w9 => ∃ (zA : Option Addr) (zn zc : Nat) (b9 : Bool), e = .returned (.tuple #[.slice zA zn zc, .bool b9]) ∧ Hid (SO w0 w9 s key (vs ++ [⟨at_, (A', rn, q'), false⟩]) (rs ++ [r])) ∧ (w9.cell? ⟨s, 0, none⟩ = some (.pointer (some ⟨a, 0, none⟩)) ∧ w9.cell? ⟨w1.heap.size, 0, none⟩ = some (.int .i64 at_) ∧ w9.cell? ⟨w1.heap.size, 1, none⟩ = some (.slice A' rn q') ∧ w9.cell? ⟨w1.heap.size, 2, none⟩ = some (.bool false)) from fin.mono fun e w9 hh => by
        obtain ⟨b9, e1, e2, e3, e4⟩ := hh
        rw [HLK.out] at e1
        exact ⟨_, _, _, b9, e1, e2, KS.out w9 (e4.trans ((hbQ.block s (Nat.lt_of_lt_of_le h.box.lt BP.out.size)).trans (BP.out.block s h.box.lt))) (e3.trans (hbQ.block _ hbk.lt))⟩)
      have HQ := Lib.hid hbQ
      have hsQ := hbQ.size
      have hclip := Lib.hid (fun W => clip70 W A 0 c h.cap h.nil_)
      have hb := below_drew3 wP
      have hs := hb.size
      clear fin hcq hbq hch nb hbE hsE hbk h hc1 hc2 hg2 hsq2
      go_upto_region 12 with fail
      rw [← WP.out]
      go_region_held3 (fun w' : World => w'.cell? ⟨s, 0, none⟩ = some (.pointer (some ⟨a, 0, none⟩)) ∧ w'.cell? ⟨w1.heap.size, 0, none⟩ = some (.int .i64 at_) ∧ w'.cell? ⟨w1.heap.size, 1, none⟩ = some (.slice A' rn q') ∧ w'.cell? ⟨w1.heap.size, 2, none⟩ = some (.bool false))
        ((first | (refine KS1.out _ ?_; go_grown; done) | (with_reducible assumption)))
        (first
          | (go_at_call 70; refine (hclip.out _).mono ?_; rintro e w' ⟨rfl, rfl⟩)
          | (refine step_append_runI rfl _ _ 113 113 rfl (.slice A 0 0) (.slice (some ⟨wP.heap.size, 0, none⟩) 1 1) (by simp [Act.eval, Act.put]) (by simp [Act.eval, Act.put]) hr ?_)
          | (go_at_call 69; refine HP.out.mono ?_; rintro e w9 ⟨zA, zn, zc, b9, rfl, h9, ks9⟩))
      all_goals
        go_wp2_with fail
        go_ret
        exact ⟨rfl, _, _, _, h9⟩

    · subst hm hA
      have hci := hcell wP BP.out
      rw [hwP] at hci
      have hmz : ((m + 1 : Nat) : Int) - 1 = (m : Int) := by omega
      rw [hmz] at g1 g2
      have hm0 : (0 : Int) ≤ (m : Int) := by omega
      have hm1 : ¬ (at_ ≤ ai) := by omega
      have hm2 : (m : Int) < (m : Int) + 1 := by omega
      clear hcell hwP

      have KS := Lib.hid (show ∀ w' : World, w'.heap[s]? = w.heap[s]? → w'.heap[w1.heap.size]? = wP.heap[w1.heap.size]? → (w'.cell? ⟨s, 0, none⟩ = some (.pointer (some ⟨a, 0, none⟩)) ∧ w'.cell? ⟨w1.heap.size, 0, none⟩ = some (.int .i64 at_) ∧ w'.cell? ⟨w1.heap.size, 1, none⟩ = some (.slice A' rn q') ∧ w'.cell? ⟨w1.heap.size, 2, none⟩ = some (.bool false)) from fun w' e1 e2 => ⟨Blk.cell (show Blk w' s 115 #[.pointer (some ⟨a, 0, none⟩)] from e1.trans h.box) 0, Blk.cell (show Blk w' w1.heap.size 120 #[.int .i64 at_, .slice A' rn q', .bool false] from e2.trans hbk) 0, Blk.cell (show Blk w' w1.heap.size 120 #[.int .i64 at_, .slice A' rn q', .bool false] from e2.trans hbk) 1, Blk.cell (show Blk w' w1.heap.size 120 #[.int .i64 at_, .slice A' rn q', .bool false] from e2.trans hbk) 2⟩)
      have KS1 := Lib.hid (show ∀ w' : World, Below wP.heap.size wP w' → (w'.cell? ⟨s, 0, none⟩ = some (.pointer (some ⟨a, 0, none⟩)) ∧ w'.cell? ⟨w1.heap.size, 0, none⟩ = some (.int .i64 at_) ∧ w'.cell? ⟨w1.heap.size, 1, none⟩ = some (.slice A' rn q') ∧ w'.cell? ⟨w1.heap.size, 2, none⟩ = some (.bool false)) from fun w' hb => KS.out w' ((hb.block s (Nat.lt_of_lt_of_le h.box.lt BP.out.size)).trans (BP.out.block s h.box.lt)) (hb.block _ hbk.lt))
      have hbE : Below wP.heap.size wP ((wP.alloc (.cells #[.int .i64 at_, .slice A' rn q', .bool false] 120)).drew) := by
        have hb := Below.refl wP.heap.size wP
        go_grown
      have nb : Blk ((wP.alloc (.cells #[.int .i64 at_, .slice A' rn q', .bool false] 120)).drew) wP.heap.size 120 #[.int .i64 at_, .slice A' rn q', .bool false] := Blk.new wP 120 _
      have hch : ChainAt ((wP.alloc (.cells #[.int .i64 at_, .slice A' rn q', .bool false] 120)).drew) (some ⟨g, 0, none⟩) (m + 1) vs := (h.chain.below BP.out).below (hbE.mono (Nat.le_refl _))
      obtain ⟨c', wQ, hr, hc1, hc2, hcq, hbq⟩ := chain_app hch (by have := h.chain.len; omega) ⟨at_, (A', rn, q'), false⟩ wP.heap.size (nb.cell 0) (nb.cell 1) (nb.cell 2)
      have hsE : ((wP.alloc (.cells #[.int .i64 at_, .slice A' rn q', .bool false] 120)).drew).heap.size = wP.heap.size + 1 := by simp
      have hbQ : Below wP.heap.size wP wQ := hbE.trans (hbq.mono (by omega))
      have hsq2 := hbq.size
      rw [hsE] at hr hcq hsq2
      have hg2 : wP.heap.size + 1 < wQ.heap.size := by
        rcases hcq.form with ⟨hx, -⟩ | ⟨g, hx, hgl, -⟩
        · cases hx
        · have : wP.heap.size + 1 = g := by injection hx with hx; injection hx
          omega
      have fin := put_fin h BP.out hbQ hcq hc1 (by omega) hg2 rfl (RBy.out : BytesAt wP (A', rn, q') r) hTX hRN w1.heap.size h1s (by have := hbk.lt; omega)
      have HP := Lib.hid (show Calls Try.prog 69 #[.pointer (some ⟨a, 0, none⟩), .string key, .slice (some ⟨wP.heap.size + 1, 0, none⟩) ((m + 1) + 1) c'] wQ fun e w9 => ∃ (zA : Option Addr) (zn zc : Nat) (b9 : Bool), e = .returned (.tuple #[.slice zA zn zc, .bool b9]) ∧ Hid (SO w0 w9 s key (vs ++ [⟨at_, (A', rn, q'), false⟩]) (rs ++ [r])) ∧ (w9.cell? ⟨s, 0, none⟩ = some (.pointer (some ⟨a, 0, none⟩)) ∧ w9.cell? ⟨w1.heap.size, 0, none⟩ = some (.int .i64 at_) ∧ w9.cell? ⟨w1.heap.size, 1, none⟩ = some (.slice A' rn q') ∧ w9.cell? ⟨w1.heap.size, 2, none⟩ = some (.bool false)) from fin.mono fun e w9 hh => by
        obtain ⟨b9, e1, e2, e3, e4⟩ := hh
        rw [HLK.out] at e1
        exact ⟨_, _, _, b9, e1, e2, KS.out w9 (e4.trans ((hbQ.block s (Nat.lt_of_lt_of_le h.box.lt BP.out.size)).trans (BP.out.block s h.box.lt))) (e3.trans (hbQ.block _ hbk.lt))⟩)
      have HQ := Lib.hid hbQ
      have hsQ := hbQ.size
      have hclip := Lib.hid (fun W => clip70 W (some ⟨g, 0, none⟩) (m + 1) c h.cap h.nil_)
      have hb := below_drew3 wP
      have hs := hb.size
      clear fin hcq hbq hch nb hbE hsE hbk h hc1 hc2 hg2 hsq2
      go_upto_region 12 with fail
      rw [← WP.out]
      go_region_held3 (fun w' : World => w'.cell? ⟨s, 0, none⟩ = some (.pointer (some ⟨a, 0, none⟩)) ∧ w'.cell? ⟨w1.heap.size, 0, none⟩ = some (.int .i64 at_) ∧ w'.cell? ⟨w1.heap.size, 1, none⟩ = some (.slice A' rn q') ∧ w'.cell? ⟨w1.heap.size, 2, none⟩ = some (.bool false))
        ((first | (refine KS1.out _ ?_; go_grown; done) | (with_reducible assumption)))
        (first
          | (go_at_call 70; refine (hclip.out _).mono ?_; rintro e w' ⟨rfl, rfl⟩)
          | (refine step_append_runI rfl _ _ 113 113 rfl (.slice (some ⟨g, 0, none⟩) (m + 1) (m + 1)) (.slice (some ⟨wP.heap.size, 0, none⟩) 1 1) (by simp [Act.eval, Act.put]) (by simp [Act.eval, Act.put]) hr ?_)
          | (go_at_call 69; refine HP.out.mono ?_; rintro e w9 ⟨zA, zn, zc, b9, rfl, h9, ks9⟩))
      all_goals
        go_wp2_with fail
        go_ret
        exact ⟨rfl, _, _, _, h9⟩


end Go.Proofs.Ytcidmaeclonilaa
