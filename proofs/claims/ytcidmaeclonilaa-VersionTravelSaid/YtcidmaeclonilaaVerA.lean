/- Store.all: a loop over the chains of a range, whose body calls a function value. -/
import Derived.Test.YtcidmaeclonilaaVerP
import Derived.Test.YtcidmaeclonilaaSeqLC
namespace Go.Proofs.Ytcidmaeclonilaa
open Go Go.RowKit Go.Shelf
attribute [local go_sem] Oper.semAt_some

theorem ownFrom_chg2 {β : Type} {M : List Nat} {w₀ : World} {B : Nat} (hB : w₀.heap.size ≤ B) : OwnFrom B (fun (_ : β) W => Chg M w₀ W) :=
  fun _ _ _ row hs hg hr => ⟨hg.os.trans hs.os, hg.tape.trans hs.tape, hg.output.trans hs.output, Nat.le_trans hs.size hg.size, fun k hk hn => (hg.block k (Nat.lt_of_lt_of_le hk hs.size) (fun e => by have := (hr k e.symm).1; omega)).trans (hs.block k hk hn)⟩
/-- the box that a function value writes -/
structure BoxI (b : Nat) (v : Value) (w W : World) : Prop where
  cell : W.cell? ⟨b, 0, none⟩ = some v
  frozen : W.frozen? ⟨b, 0, none⟩ = false
  chg : Chg [b] w W
theorem BoxI.shut {b : Nat} {v : Value} {w W : World} (h : BoxI b v w W) {D : Nat} (hK : W.heap[D]? = some (.deferred (some []))) (hD : w.heap.size ≤ D) : BoxI b v w (W.putObj D (.deferred none)) :=
  ⟨cell_kept h.cell (grownBy_putObj' _ D (.deferred none)) (fun r e => by cases e; exact ⟨_, hK, rfl⟩), (frozen_kept h.cell (grownBy_putObj' _ D (.deferred none)) (fun r e => by cases e; exact ⟨_, hK, rfl⟩)).trans h.frozen,
    ownFrom_chg2 (β := Unit) (Nat.le_refl w.heap.size) () W _ (some D) h.chg (grownBy_putObj' W D (.deferred none)) (fun r e => by cases e; exact ⟨hD, _, hK, rfl⟩)⟩
/-- what a function value does at a chain -/
def DoAt (f : Nat) (lb : Array Value) (b : Nat) (xs : List CK) (val : List { x : CK // x ∈ xs } → Value) (go : List { x : CK // x ∈ xs } → Bool) (w : World) : Prop :=
  ∀ (pre : List { x : CK // x ∈ xs }) (x : { x : CK // x ∈ xs }) (W : World), BoxI b (val pre) w W → Calls Try.prog f (#[.string x.1.1, .slice x.1.2.1 x.1.2.2.1 x.1.2.2.2] ++ lb) W fun e W' => e = .returned (.bool (go (pre ++ [x]))) ∧ BoxI b (val (pre ++ [x])) W W' ∧ KeepsOthers W W'

set_option maxRecDepth 100000 in
set_option maxHeartbeats 4000000 in
theorem all72c {w0 wp w : World} {s : Nat} {key : ByteArray} {vs : List Ver} {rs : List ByteArray} {a : Nat} {L : List Nat} {A : Option Addr} {n c : Nat} (h : SOat w0 wp s key vs rs a L A n c) (hpw : Below wp.heap.size wp w) (fr tt : ByteArray) (hf ht of ot : Bool) (q : Value) (q2 : Value) (b : Nat) (hb1 : wp.heap.size ≤ b) (hb2 : b < w.heap.size)
    (xs : List CK) (hxs : xs = (inR fr tt hf ht of ot (treeL key vs (.slice A n c))).map kvC) (val : List { x : CK // x ∈ xs } → Value) (go : List { x : CK // x ∈ xs } → Bool) (hdo : DoAt 73 #[q, q2] b xs val go w) (hv0 : BoxI b (val []) w w) :
    Calls Try.prog 72 #[.pointer (some ⟨s, 0, none⟩), .agg #[.string fr, .string tt, .bool hf, .bool ht, .bool of, .bool ot], .func (.func 73) #[] #[q, q2]] w fun e w' => ∃ (v : Value) (pre : List { x : CK // x ∈ xs }), e = .returned v ∧ (pre.map (·.1) = xs ∨ (pre ≠ [] ∧ pre.map (·.1) <+: xs)) ∧ Hid (BoxI b (val pre) w w') := by
  have h0 : w.cell? ⟨s, 0, none⟩ = some (.pointer (some ⟨a, 0, none⟩)) := (hpw.cell (p := ⟨s, 0, none⟩) h.box.lt).trans (h.box.cell 0)
  have TR := Lib.hid (show TOwnC w0 wp a (treeL key vs (.slice A n c)) from ⟨L, h.tree, h.new_, h.world⟩)
  have HB := Lib.hid hpw
  have DO := Lib.hid hdo
  have V0 := Lib.hid hv0
  have sl := h.box.lt
  clear hdo hv0 h
  obtain ⟨wA, hwA⟩ : ∃ x, x = ((w.alloc (.cells #[.string fr, .string tt, .bool hf, .bool ht, .bool of, .bool ot] 24)).alloc (.cells #[.func (.func 73) #[] #[q, q2]] 126)) := ⟨_, rfl⟩
  have bA : Below w.heap.size w wA := by rw [hwA]; exact ((Below.refl _ w).alloc (Nat.le_refl _) _).alloc (by simp) _
  have rA : RngAt wA w.heap.size ⟨fr, tt, hf, ht, of, ot⟩ := by rw [hwA]; exact RngAt.of_blk ((Blk.new w 24 (Rng.cells ⟨fr, tt, hf, ht, of, ot⟩)).alloc _)
  have fA : Blk wA (w.heap.size + 1) 126 #[.func (.func 73) #[] #[q, q2]] := by
    have := Blk.new (w.alloc (.cells #[.string fr, .string tt, .bool hf, .bool ht, .bool of, .bool ot] 24)) 126 #[.func (.func 73) #[] #[q, q2]]
    rw [World.size_alloc] at this
    rw [hwA]; exact this
  have sA : wA.heap.size = w.heap.size + 1 + 1 := by rw [hwA]; simp
  have WA := Lib.hid hwA
  have RA := Lib.hid rA
  have FA := Lib.hid fA
  have BA := Lib.hid bA
  clear hwA rA fA bA
  refine (callsIn_wide (n := 9)).1 ?_
  refine callsIn_of_wp_marks Try.func72 rfl trivial ?_ rfl
  refine wpIn_wide.2 ?_
  simp only [Try.ntmps72, List.size_toArray, List.length_cons, List.length_nil, Nat.reduceAdd, Nat.reduceSub, Array.replicate_succ, Array.replicate_zero, List.push_toArray, List.append_toArray, List.nil_append, List.cons_append]
  go_upto_region 2 with fail
  rw [← WA.out]
  have KS := Lib.hid (show ∀ W, Below wA.heap.size wA W → (W.cell? ⟨s, 0, none⟩ = some (.pointer (some ⟨a, 0, none⟩)) ∧ W.cell? ⟨w.heap.size, 0, none⟩ = some (.string fr) ∧ W.cell? ⟨w.heap.size, 1, none⟩ = some (.string tt) ∧ W.cell? ⟨w.heap.size, 2, none⟩ = some (.bool hf) ∧ W.cell? ⟨w.heap.size, 3, none⟩ = some (.bool ht) ∧ W.cell? ⟨w.heap.size, 4, none⟩ = some (.bool of) ∧ W.cell? ⟨w.heap.size, 5, none⟩ = some (.bool ot)) from fun W hb => by
    obtain ⟨x0, x1, x2, x3, x4, x5⟩ := RA.out.below hb (by omega)
    have := HB.out.size
    exact ⟨(hb.cell (p := ⟨s, 0, none⟩) (by show s < wA.heap.size; omega)).trans ((BA.out.cell (p := ⟨s, 0, none⟩) (by show s < w.heap.size; omega)).trans h0), x0, x1, x2, x3, x4, x5⟩)
  have hb := below_drew3 wA
  have hs := hb.size
  clear h0
  go_region_held3 (fun W : World => W.cell? ⟨s, 0, none⟩ = some (.pointer (some ⟨a, 0, none⟩)) ∧ W.cell? ⟨w.heap.size, 0, none⟩ = some (.string fr) ∧ W.cell? ⟨w.heap.size, 1, none⟩ = some (.string tt) ∧ W.cell? ⟨w.heap.size, 2, none⟩ = some (.bool hf) ∧ W.cell? ⟨w.heap.size, 3, none⟩ = some (.bool ht) ∧ W.cell? ⟨w.heap.size, 4, none⟩ = some (.bool of) ∧ W.cell? ⟨w.heap.size, 5, none⟩ = some (.bool ot))
    ((refine KS.out _ ?_; go_grown))
    ((go_at_call 93; refine (all93 _ (some ⟨a, 0, none⟩) fr tt hf ht of ot).mono ?_; rintro e w' ⟨rfl, rfl⟩))
  clear hb hs KS
  obtain ⟨wL, hwL⟩ : ∃ x, x = ((wA.alloc (.cells #[.pointer (some ⟨a, 0, none⟩)] 110)).alloc (.cells #[.string fr, .string tt, .bool hf, .bool ht, .bool of, .bool ot] 24)).drew := ⟨_, rfl⟩
  have fT : Blk wL (w.heap.size + 1 + 1) 110 #[.pointer (some ⟨a, 0, none⟩)] := by
    have := ((Blk.new wA 110 #[.pointer (some ⟨a, 0, none⟩)]).alloc (.cells #[.string fr, .string tt, .bool hf, .bool ht, .bool of, .bool ot] 24)).drew
    rw [sA] at this
    rw [hwL]; exact this
  have fR : Blk wL (w.heap.size + 1 + 1 + 1) 24 (Rng.cells ⟨fr, tt, hf, ht, of, ot⟩) := by
    have := (Blk.new (wA.alloc (.cells #[.pointer (some ⟨a, 0, none⟩)] 110)) 24 (Rng.cells ⟨fr, tt, hf, ht, of, ot⟩)).drew
    rw [World.size_alloc, sA] at this
    rw [hwL]; exact this
  have sL : wL.heap.size = w.heap.size + 1 + 1 + 1 + 1 := by rw [hwL]; simp [sA]
  have bL : Below wA.heap.size wA wL := by
    rw [hwL]
    have hb := Below.refl wA.heap.size wA
    go_grown
  have WL := Lib.hid hwL
  have FT := Lib.hid (And.intro fT fR)
  have BL := Lib.hid bL
  clear hwL fT fR bL
  go_wp2_with fail
  rw [← WL.out]
  have hpsz := HB.out.size
  have bwL : Below w.heap.size w wL := BA.out.trans (BL.out.mono BA.out.size)
  have h01 : Below wp.heap.size wp wL := HB.out.trans (bwL.mono HB.out.size)
  refine (wpIn_wide (n := 9)).1 ?_
  refine wpIn_rangeFunc_ownF rfl (by omega) (gf := 112) (lb := #[.pointer (some ⟨w.heap.size + 1 + 1, 0, none⟩), .pointer (some ⟨w.heap.size + 1 + 1 + 1, 0, none⟩)]) rfl trivial (enters_of Try.func112 (by kernel_rfl) rfl)
    (all112_stops _ (by omega) TR.out h01 (w.heap.size + 1 + 1) (w.heap.size + 1 + 1 + 1) fr tt hf ht of ot (by omega) (by omega) (FT.out.1.cell 0) (RngAt.of_blk FT.out.2) xs hxs) KB.trans (kb_put h01.size (fun k hk => by simp at hk; omega)) (Below.refl _ _) (fun _ => rfl)
    (fun pre W => BoxI b (val pre) w W ∧ Chg [b] wL W)
    (fun cc pre W => (cc = .ret ∧ pre ≠ []) ∧ BoxI b (val pre) w W ∧ Chg [b] wL W)
    (fun s A B row hs hg hr => ⟨⟨cell_kept hs.1.cell hg (fun r e => (hr r e).2), (frozen_kept hs.1.cell hg (fun r e => (hr r e).2)).trans hs.1.frozen, ownFrom_chg2 bwL.size s A B row hs.1.chg hg hr⟩, ownFrom_chg2 (Nat.le_refl _) s A B row hs.2 hg hr⟩)
    (fun cc s A B row hs hg hr => ⟨hs.1, ⟨cell_kept hs.2.1.cell hg (fun r e => (hr r e).2), (frozen_kept hs.2.1.cell hg (fun r e => (hr r e).2)).trans hs.2.1.frozen, ownFrom_chg2 bwL.size s A B row hs.2.1.chg hg hr⟩, ownFrom_chg2 (Nat.le_refl _) s A B row hs.2.2 hg hr⟩)
    ⟨⟨(bwL.cell (p := ⟨b, 0, none⟩) hb2).trans V0.out.cell, (bwL.frozen (p := ⟨b, 0, none⟩) hb2).trans V0.out.frozen, Chg.of_below bwL⟩, Chg.refl _ _⟩ ?a1 ?assign ?body ?done ?stop
  case assign =>
    intro lp x W K hK
    simp only [encC]
    gi_wp2
    exact hK
  case body =>
    rintro lp pre x W ⟨hbx, hch⟩ hlen
    have d5 : W.cell? ⟨w.heap.size + 1, 0, none⟩ = some (.func (.func 73) #[] #[q, q2]) := Blk.cell (show Blk W (w.heap.size + 1) 126 #[.func (.func 73) #[] #[q, q2]] from (hch.block _ (by omega) (by simp; omega)).trans ((BL.out.block _ (by omega)).trans FA.out)) 0
    have hd : Calls Try.prog 73 #[.string x.1.1, .slice x.1.2.1 x.1.2.2.1 x.1.2.2.2, q, q2] W fun e W' => e = .returned (.bool (go (pre ++ [x]))) ∧ BoxI b (val (pre ++ [x])) W W' ∧ KeepsOthers W W' := DO.out pre x W hbx
    have BX := Lib.hid hbx
    have CH := Lib.hid hch
    have kbl : ∀ W', Chg [b] W W' → KB wp.heap.size [w.heap.size + 1 + 1, w.heap.size + 1 + 1 + 1] W W' := fun W' hc => ⟨hc.below (fun k hk => by simp at hk; omega) (by have := hch.size; omega), fun k hk => hc.block k (by have := hch.size; simp at hk; omega) (by simp at hk ⊢; omega)⟩
    have KBL := Lib.hid kbl
    have tr : ∀ W', BoxI b (val (pre ++ [x])) W W' → BoxI b (val (pre ++ [x])) w W' ∧ Chg [b] wL W' := fun W' hc => ⟨⟨hc.cell, hc.frozen, hbx.chg.trans hc.chg (fun x hx => .inl hx)⟩, hch.trans hc.chg (fun x hx => .inl hx)⟩
    have TRR := Lib.hid tr
    clear hbx hch kbl tr
    cases hgo : go (pre ++ [x]) with
    | true =>
      rw [hgo] at hd
      have HD := Lib.hid hd
      clear hd hgo
      gi_wp2_with ((try with_reducible refine And.intro (wide_fn _) ?_); gi_at_call 73; refine (CallsIn.inRound lp (callsIn_wide.2 HD.out)).mono ?_; rintro e W3 ⟨rfl, h3, k3⟩)
      exact ⟨k3, KBL.out _ h3.chg, TRR.out _ h3⟩
    | false =>
      rw [hgo] at hd
      have HD := Lib.hid hd
      clear hd hgo
      gi_wp2_with ((try with_reducible refine And.intro (wide_fn _) ?_); gi_at_call 73; refine (CallsIn.inRound lp (callsIn_wide.2 HD.out)).mono ?_; rintro e W3 ⟨rfl, h3, k3⟩)
      exact ⟨k3, ⟨rfl, by simp⟩, TRR.out _ h3⟩
  case done =>
    rintro D ys W hD hys ⟨hbx, hch⟩ hK
    go_wp2_with fail
    refine ⟨by simp, .inl ⟨_, _, rfl, run_takeDeferred hK, ?_⟩⟩
    exact ⟨_, results_none rfl _ _ _, _, ys, rfl, .inl hys, Lib.hid (hbx.shut hK (by have := bwL.size; omega))⟩
  case stop =>
    rintro D cc pre W hD hpre ⟨⟨rfl, hne⟩, hbx, hch⟩ hK
    refine wpIn_wide.2 ?_
    go_wp2_with fail
    refine ⟨by simp, .inl ⟨_, _, rfl, run_takeDeferred hK, ?_⟩⟩
    exact ⟨_, results_none rfl _ _ _, _, pre, rfl, .inr ⟨hne, hpre⟩, Lib.hid (hbx.shut hK (by have := bwL.size; omega))⟩

set_option maxRecDepth 100000 in
set_option maxHeartbeats 4000000 in
theorem all72v {w0 wp w : World} {s : Nat} {key : ByteArray} {vs : List Ver} {rs : List ByteArray} {a : Nat} {L : List Nat} {A : Option Addr} {n c : Nat} (h : SOat w0 wp s key vs rs a L A n c) (hpw : Below wp.heap.size wp w) (fr tt : ByteArray) (hf ht of ot : Bool) (q : Value) (b : Nat) (hb1 : wp.heap.size ≤ b) (hb2 : b < w.heap.size)
    (xs : List CK) (hxs : xs = (inR fr tt hf ht of ot (treeL key vs (.slice A n c))).map kvC) (val : List { x : CK // x ∈ xs } → Value) (go : List { x : CK // x ∈ xs } → Bool) (hdo : DoAt 74 #[q] b xs val go w) (hv0 : BoxI b (val []) w w) :
    Calls Try.prog 72 #[.pointer (some ⟨s, 0, none⟩), .agg #[.string fr, .string tt, .bool hf, .bool ht, .bool of, .bool ot], .func (.func 74) #[] #[q]] w fun e w' => ∃ (v : Value) (pre : List { x : CK // x ∈ xs }), e = .returned v ∧ (pre.map (·.1) = xs ∨ (pre ≠ [] ∧ pre.map (·.1) <+: xs)) ∧ Hid (BoxI b (val pre) w w') := by
  have h0 : w.cell? ⟨s, 0, none⟩ = some (.pointer (some ⟨a, 0, none⟩)) := (hpw.cell (p := ⟨s, 0, none⟩) h.box.lt).trans (h.box.cell 0)
  have TR := Lib.hid (show TOwnC w0 wp a (treeL key vs (.slice A n c)) from ⟨L, h.tree, h.new_, h.world⟩)
  have HB := Lib.hid hpw
  have DO := Lib.hid hdo
  have V0 := Lib.hid hv0
  have sl := h.box.lt
  clear hdo hv0 h
  obtain ⟨wA, hwA⟩ : ∃ x, x = ((w.alloc (.cells #[.string fr, .string tt, .bool hf, .bool ht, .bool of, .bool ot] 24)).alloc (.cells #[.func (.func 74) #[] #[q]] 126)) := ⟨_, rfl⟩
  have bA : Below w.heap.size w wA := by rw [hwA]; exact ((Below.refl _ w).alloc (Nat.le_refl _) _).alloc (by simp) _
  have rA : RngAt wA w.heap.size ⟨fr, tt, hf, ht, of, ot⟩ := by rw [hwA]; exact RngAt.of_blk ((Blk.new w 24 (Rng.cells ⟨fr, tt, hf, ht, of, ot⟩)).alloc _)
  have fA : Blk wA (w.heap.size + 1) 126 #[.func (.func 74) #[] #[q]] := by
    have := Blk.new (w.alloc (.cells #[.string fr, .string tt, .bool hf, .bool ht, .bool of, .bool ot] 24)) 126 #[.func (.func 74) #[] #[q]]
    rw [World.size_alloc] at this
    rw [hwA]; exact this
  have sA : wA.heap.size = w.heap.size + 1 + 1 := by rw [hwA]; simp
  have WA := Lib.hid hwA
  have RA := Lib.hid rA
  have FA := Lib.hid fA
  have BA := Lib.hid bA
  clear hwA rA fA bA
  refine (callsIn_wide (n := 9)).1 ?_
  refine callsIn_of_wp_marks Try.func72 rfl trivial ?_ rfl
  refine wpIn_wide.2 ?_
  simp only [Try.ntmps72, List.size_toArray, List.length_cons, List.length_nil, Nat.reduceAdd, Nat.reduceSub, Array.replicate_succ, Array.replicate_zero, List.push_toArray, List.append_toArray, List.nil_append, List.cons_append]
  go_upto_region 2 with fail
  rw [← WA.out]
  have KS := Lib.hid (show ∀ W, Below wA.heap.size wA W → (W.cell? ⟨s, 0, none⟩ = some (.pointer (some ⟨a, 0, none⟩)) ∧ W.cell? ⟨w.heap.size, 0, none⟩ = some (.string fr) ∧ W.cell? ⟨w.heap.size, 1, none⟩ = some (.string tt) ∧ W.cell? ⟨w.heap.size, 2, none⟩ = some (.bool hf) ∧ W.cell? ⟨w.heap.size, 3, none⟩ = some (.bool ht) ∧ W.cell? ⟨w.heap.size, 4, none⟩ = some (.bool of) ∧ W.cell? ⟨w.heap.size, 5, none⟩ = some (.bool ot)) from fun W hb => by
    obtain ⟨x0, x1, x2, x3, x4, x5⟩ := RA.out.below hb (by omega)
    have := HB.out.size
    exact ⟨(hb.cell (p := ⟨s, 0, none⟩) (by show s < wA.heap.size; omega)).trans ((BA.out.cell (p := ⟨s, 0, none⟩) (by show s < w.heap.size; omega)).trans h0), x0, x1, x2, x3, x4, x5⟩)
  have hb := below_drew3 wA
  have hs := hb.size
  clear h0
  go_region_held3 (fun W : World => W.cell? ⟨s, 0, none⟩ = some (.pointer (some ⟨a, 0, none⟩)) ∧ W.cell? ⟨w.heap.size, 0, none⟩ = some (.string fr) ∧ W.cell? ⟨w.heap.size, 1, none⟩ = some (.string tt) ∧ W.cell? ⟨w.heap.size, 2, none⟩ = some (.bool hf) ∧ W.cell? ⟨w.heap.size, 3, none⟩ = some (.bool ht) ∧ W.cell? ⟨w.heap.size, 4, none⟩ = some (.bool of) ∧ W.cell? ⟨w.heap.size, 5, none⟩ = some (.bool ot))
    ((refine KS.out _ ?_; go_grown))
    ((go_at_call 93; refine (all93 _ (some ⟨a, 0, none⟩) fr tt hf ht of ot).mono ?_; rintro e w' ⟨rfl, rfl⟩))
  clear hb hs KS
  obtain ⟨wL, hwL⟩ : ∃ x, x = ((wA.alloc (.cells #[.pointer (some ⟨a, 0, none⟩)] 110)).alloc (.cells #[.string fr, .string tt, .bool hf, .bool ht, .bool of, .bool ot] 24)).drew := ⟨_, rfl⟩
  have fT : Blk wL (w.heap.size + 1 + 1) 110 #[.pointer (some ⟨a, 0, none⟩)] := by
    have := ((Blk.new wA 110 #[.pointer (some ⟨a, 0, none⟩)]).alloc (.cells #[.string fr, .string tt, .bool hf, .bool ht, .bool of, .bool ot] 24)).drew
    rw [sA] at this
    rw [hwL]; exact this
  have fR : Blk wL (w.heap.size + 1 + 1 + 1) 24 (Rng.cells ⟨fr, tt, hf, ht, of, ot⟩) := by
    have := (Blk.new (wA.alloc (.cells #[.pointer (some ⟨a, 0, none⟩)] 110)) 24 (Rng.cells ⟨fr, tt, hf, ht, of, ot⟩)).drew
    rw [World.size_alloc, sA] at this
    rw [hwL]; exact this
  have sL : wL.heap.size = w.heap.size + 1 + 1 + 1 + 1 := by rw [hwL]; simp [sA]
  have bL : Below wA.heap.size wA wL := by
    rw [hwL]
    have hb := Below.refl wA.heap.size wA
    go_grown
  have WL := Lib.hid hwL
  have FT := Lib.hid (And.intro fT fR)
  have BL := Lib.hid bL
  clear hwL fT fR bL
  go_wp2_with fail
  rw [← WL.out]
  have hpsz := HB.out.size
  have bwL : Below w.heap.size w wL := BA.out.trans (BL.out.mono BA.out.size)
  have h01 : Below wp.heap.size wp wL := HB.out.trans (bwL.mono HB.out.size)
  refine (wpIn_wide (n := 9)).1 ?_
  refine wpIn_rangeFunc_ownF rfl (by omega) (gf := 112) (lb := #[.pointer (some ⟨w.heap.size + 1 + 1, 0, none⟩), .pointer (some ⟨w.heap.size + 1 + 1 + 1, 0, none⟩)]) rfl trivial (enters_of Try.func112 (by kernel_rfl) rfl)
    (all112_stops _ (by omega) TR.out h01 (w.heap.size + 1 + 1) (w.heap.size + 1 + 1 + 1) fr tt hf ht of ot (by omega) (by omega) (FT.out.1.cell 0) (RngAt.of_blk FT.out.2) xs hxs) KB.trans (kb_put h01.size (fun k hk => by simp at hk; omega)) (Below.refl _ _) (fun _ => rfl)
    (fun pre W => BoxI b (val pre) w W ∧ Chg [b] wL W)
    (fun cc pre W => (cc = .ret ∧ pre ≠ []) ∧ BoxI b (val pre) w W ∧ Chg [b] wL W)
    (fun s A B row hs hg hr => ⟨⟨cell_kept hs.1.cell hg (fun r e => (hr r e).2), (frozen_kept hs.1.cell hg (fun r e => (hr r e).2)).trans hs.1.frozen, ownFrom_chg2 bwL.size s A B row hs.1.chg hg hr⟩, ownFrom_chg2 (Nat.le_refl _) s A B row hs.2 hg hr⟩)
    (fun cc s A B row hs hg hr => ⟨hs.1, ⟨cell_kept hs.2.1.cell hg (fun r e => (hr r e).2), (frozen_kept hs.2.1.cell hg (fun r e => (hr r e).2)).trans hs.2.1.frozen, ownFrom_chg2 bwL.size s A B row hs.2.1.chg hg hr⟩, ownFrom_chg2 (Nat.le_refl _) s A B row hs.2.2 hg hr⟩)
    ⟨⟨(bwL.cell (p := ⟨b, 0, none⟩) hb2).trans V0.out.cell, (bwL.frozen (p := ⟨b, 0, none⟩) hb2).trans V0.out.frozen, Chg.of_below bwL⟩, Chg.refl _ _⟩ ?a1 ?assign ?body ?done ?stop
  case assign =>
    intro lp x W K hK
    simp only [encC]
    gi_wp2
    exact hK
  case body =>
    rintro lp pre x W ⟨hbx, hch⟩ hlen
    have d5 : W.cell? ⟨w.heap.size + 1, 0, none⟩ = some (.func (.func 74) #[] #[q]) := Blk.cell (show Blk W (w.heap.size + 1) 126 #[.func (.func 74) #[] #[q]] from (hch.block _ (by omega) (by simp; omega)).trans ((BL.out.block _ (by omega)).trans FA.out)) 0
    have hd : Calls Try.prog 74 #[.string x.1.1, .slice x.1.2.1 x.1.2.2.1 x.1.2.2.2, q] W fun e W' => e = .returned (.bool (go (pre ++ [x]))) ∧ BoxI b (val (pre ++ [x])) W W' ∧ KeepsOthers W W' := DO.out pre x W hbx
    have BX := Lib.hid hbx
    have CH := Lib.hid hch
    have kbl : ∀ W', Chg [b] W W' → KB wp.heap.size [w.heap.size + 1 + 1, w.heap.size + 1 + 1 + 1] W W' := fun W' hc => ⟨hc.below (fun k hk => by simp at hk; omega) (by have := hch.size; omega), fun k hk => hc.block k (by have := hch.size; simp at hk; omega) (by simp at hk ⊢; omega)⟩
    have KBL := Lib.hid kbl
    have tr : ∀ W', BoxI b (val (pre ++ [x])) W W' → BoxI b (val (pre ++ [x])) w W' ∧ Chg [b] wL W' := fun W' hc => ⟨⟨hc.cell, hc.frozen, hbx.chg.trans hc.chg (fun x hx => .inl hx)⟩, hch.trans hc.chg (fun x hx => .inl hx)⟩
    have TRR := Lib.hid tr
    clear hbx hch kbl tr
    cases hgo : go (pre ++ [x]) with
    | true =>
      rw [hgo] at hd
      have HD := Lib.hid hd
      clear hd hgo
      gi_wp2_with ((try with_reducible refine And.intro (wide_fn _) ?_); gi_at_call 74; refine (CallsIn.inRound lp (callsIn_wide.2 HD.out)).mono ?_; rintro e W3 ⟨rfl, h3, k3⟩)
      exact ⟨k3, KBL.out _ h3.chg, TRR.out _ h3⟩
    | false =>
      rw [hgo] at hd
      have HD := Lib.hid hd
      clear hd hgo
      gi_wp2_with ((try with_reducible refine And.intro (wide_fn _) ?_); gi_at_call 74; refine (CallsIn.inRound lp (callsIn_wide.2 HD.out)).mono ?_; rintro e W3 ⟨rfl, h3, k3⟩)
      exact ⟨k3, ⟨rfl, by simp⟩, TRR.out _ h3⟩
  case done =>
    rintro D ys W hD hys ⟨hbx, hch⟩ hK
    go_wp2_with fail
    refine ⟨by simp, .inl ⟨_, _, rfl, run_takeDeferred hK, ?_⟩⟩
    exact ⟨_, results_none rfl _ _ _, _, ys, rfl, .inl hys, Lib.hid (hbx.shut hK (by have := bwL.size; omega))⟩
  case stop =>
    rintro D cc pre W hD hpre ⟨⟨rfl, hne⟩, hbx, hch⟩ hK
    refine wpIn_wide.2 ?_
    go_wp2_with fail
    refine ⟨by simp, .inl ⟨_, _, rfl, run_takeDeferred hK, ?_⟩⟩
    exact ⟨_, results_none rfl _ _ _, _, pre, rfl, .inr ⟨hne, hpre⟩, Lib.hid (hbx.shut hK (by have := bwL.size; omega))⟩

end Go.Proofs.Ytcidmaeclonilaa
