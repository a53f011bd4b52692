/- The walk of barbicanlaw13.CursorGoes. -/
import Derived.Test.YtcidmaeclonilaaSplits
import Derived.Test.YtcidmaeclonilaaAll13
namespace Go.Proofs.Ytcidmaeclonilaa
open Go Go.RowKit Go.Shelf
attribute [local go_sem] Oper.semAt_some

set_option maxRecDepth 100000 in
theorem nf80 (lb : Array Value) (W : World) : (binOp BinOp.eql 85 (.func (.func 80) #[] lb) .nilFunc).run Try.prog W = .ok (.bool false) W := by kernel_rfl
set_option maxRecDepth 100000 in
theorem nf81 (lb : Array Value) (W : World) : (binOp BinOp.eql 85 (.func (.func 81) #[] lb) .nilFunc).run Try.prog W = .ok (.bool false) W := by kernel_rfl
/-- five blocks laid -/
theorem five (W : World) (t0 t1 t2 t3 t4 : TypeId) (o0 o1 o2 o3 o4 : Array Value) :
    Blk (((((W.alloc (.cells o0 t0)).alloc (.cells o1 t1)).alloc (.cells o2 t2)).alloc (.cells o3 t3)).alloc (.cells o4 t4)).drew W.heap.size t0 o0 ∧
    Blk (((((W.alloc (.cells o0 t0)).alloc (.cells o1 t1)).alloc (.cells o2 t2)).alloc (.cells o3 t3)).alloc (.cells o4 t4)).drew (W.heap.size + 1) t1 o1 ∧
    Blk (((((W.alloc (.cells o0 t0)).alloc (.cells o1 t1)).alloc (.cells o2 t2)).alloc (.cells o3 t3)).alloc (.cells o4 t4)).drew (W.heap.size + 1 + 1) t2 o2 ∧
    Blk (((((W.alloc (.cells o0 t0)).alloc (.cells o1 t1)).alloc (.cells o2 t2)).alloc (.cells o3 t3)).alloc (.cells o4 t4)).drew (W.heap.size + 1 + 1 + 1) t3 o3 ∧
    Blk (((((W.alloc (.cells o0 t0)).alloc (.cells o1 t1)).alloc (.cells o2 t2)).alloc (.cells o3 t3)).alloc (.cells o4 t4)).drew (W.heap.size + 1 + 1 + 1 + 1) t4 o4 ∧
    (((((W.alloc (.cells o0 t0)).alloc (.cells o1 t1)).alloc (.cells o2 t2)).alloc (.cells o3 t3)).alloc (.cells o4 t4)).drew.heap.size = W.heap.size + 1 + 1 + 1 + 1 + 1 ∧
    Below W.heap.size W (((((W.alloc (.cells o0 t0)).alloc (.cells o1 t1)).alloc (.cells o2 t2)).alloc (.cells o3 t3)).alloc (.cells o4 t4)).drew := by
  have h1 := Blk.new (W.alloc (.cells o0 t0)) t1 o1
  have h2 := Blk.new ((W.alloc (.cells o0 t0)).alloc (.cells o1 t1)) t2 o2
  have h3 := Blk.new (((W.alloc (.cells o0 t0)).alloc (.cells o1 t1)).alloc (.cells o2 t2)) t3 o3
  have h4 := Blk.new ((((W.alloc (.cells o0 t0)).alloc (.cells o1 t1)).alloc (.cells o2 t2)).alloc (.cells o3 t3)) t4 o4
  simp only [World.size_alloc] at h1 h2 h3 h4
  refine ⟨((((Blk.new W t0 o0).alloc _).alloc _).alloc _).alloc _, ((h1.alloc _).alloc _).alloc _, (h2.alloc _).alloc _, h3.alloc _, h4, by simp, ?_⟩
  have hb := Below.refl W.heap.size W
  go_grown
theorem ownFrom_chg {β : Type} {M : List Nat} {w₀ : World} : OwnFrom w₀.heap.size (fun (_ : β) W => Chg M w₀ W) :=
  fun _ _ _ row hs hg hr => ⟨hg.os.trans hs.os, hg.tape.trans hs.tape, hg.output.trans hs.output, Nat.le_trans hs.size hg.size, fun k hk hn => (hg.block k (Nat.lt_of_lt_of_le hk hs.size) (fun e => by have := (hr k e.symm).1; omega)).trans (hs.block k hk hn)⟩

theorem wq1 {n : Nat} (h : n ≤ 1000000) : IntKind.i64.wrap ((n : Int) - 1) = (n : Int) - 1 := by rw [IntKind.wrap_i64]; omega
theorem wq2 {n m j : Nat} (h : n = j + 1 + m) (hn : n ≤ 1000000) : IntKind.i64.wrap ((n : Int) - 1 - (m : Int)) = (j : Int) := by rw [IntKind.wrap_i64]; omega
theorem wq3 {n : Nat} (h : n ≤ 1000000) : wrap64 ((n : Int) - 1) = (n : Int) - 1 := by unfold wrap64; omega
theorem wq4 {n m j : Nat} (h : n = j + 1 + m) (hn : n ≤ 1000000) : wrap64 ((n : Int) - 1 - (m : Int)) = (j : Int) := by unfold wrap64; omega
theorem wq5 {n : Nat} (h : n ≤ 1000000) : wrap64 ((n : Int) + 1) = (n : Int) + 1 := by unfold wrap64; omega
theorem cellof {W W' : World} {b i : Nat} (h : W'.heap[b]? = W.heap[b]?) : W'.cell? ⟨b, i, none⟩ = W.cell? ⟨b, i, none⟩ := World.cell?_of_block h
theorem most5 (k : Int) : ∃ M : Nat, wrap64 ((IntKind.u64.wrap k).tmod 5) = (M : Int) ∧ M ≤ 4 := by
  have h0 : 0 ≤ IntKind.u64.wrap k := by rw [IntKind.wrap_u64]; omega
  generalize IntKind.u64.wrap k = x at h0
  have h1 : x.tmod 5 = x % 5 := Int.tmod_eq_emod_of_nonneg h0
  refine ⟨(x.tmod 5).toNat, ?_, ?_⟩
  · rw [h1]; unfold wrap64; omega
  · rw [h1]; omega
theorem pre_snoc {α : Type} {pre want : List α} {x y : α} (h : pre <+: want) (hy : want[pre.length]? = some y) : pre ++ [x] <+: want ↔ x = y := by
  obtain ⟨t, rfl⟩ := h
  rw [List.getElem?_append_right (Nat.le_refl _), Nat.sub_self] at hy
  cases t with
  | nil => simp at hy
  | cons z t =>
    obtain rfl : z = y := by simpa using hy
    rw [List.prefix_append_right_inj, List.cons_prefix_cons]
    simp
theorem Chg.hp {M : List Nat} {w w' : World} (h : Chg M w w') {k : Nat} (hk : k < w.heap.size) (hn : k ∉ M) : w'.heap[k]? = w.heap[k]? := h.block k hk hn

/-- the way out: three marks, and the result in a cell -/
theorem goes_end {w V w8 : World} {D1 D2 D3 : Nat} {tmps : Array Value} (_ : w.heap.size ≤ w.heap.size + 1)
    (D6 : ∀ W : World, Below V.heap.size V W → W.cell? ⟨w.heap.size + 1, 0, none⟩ = some (.bool false) ∧ W.frozen? ⟨w.heap.size + 1, 0, none⟩ = false)
    (KD : ∀ W : World, Below V.heap.size V W → (W.setCell ⟨w.heap.size + 1, 0, none⟩ (.bool true)).heap[D1]? = some (.deferred (some [])) ∧ (W.setCell ⟨w.heap.size + 1, 0, none⟩ (.bool true)).heap[D2]? = some (.deferred (some [])) ∧ (W.setCell ⟨w.heap.size + 1, 0, none⟩ (.bool true)).heap[D3]? = some (.deferred (some [])) ∧ D1 ≠ D2 ∧ D1 ≠ D3 ∧ D2 ≠ D3 ∧ w.heap.size ≤ D1 ∧ w.heap.size ≤ D2 ∧ w.heap.size ≤ D3)
    (BW : Below w.heap.size w V) (hb8 : Below V.heap.size V w8) (ht : tmps[6]? = some (.pointer (some ⟨w.heap.size + 1, 0, none⟩))) :
    bodyPostM Fence.wide 9 Try.prog Try.f11 (fun e w' => e = .returned (.bool true) ∧ Hid (Below w.heap.size w w')) Exit.ret { tmps := tmps, defers := [{ target := .collected D3, args := #[] }, { target := .collected D2, args := #[] }, { target := .collected D1, args := #[] }] } (w8.setCell ⟨w.heap.size + 1, 0, none⟩ (.bool true)) := by
  obtain ⟨k1, k2, k3, n12, n13, n23, l1, l2, l3⟩ := KD w8 hb8
  have hc0 : (w8.setCell ⟨w.heap.size + 1, 0, none⟩ (.bool true)).cell? ⟨w.heap.size + 1, 0, none⟩ = some (.bool true) := World.cell?_setCell_same' _ _ _ (by rw [(D6 w8 hb8).1]; rfl)
  have BF : Below w.heap.size w (w8.setCell ⟨w.heap.size + 1, 0, none⟩ (.bool true)) := (BW.trans (hb8.mono BW.size)).setCell (p := ⟨w.heap.size + 1, 0, none⟩) (by simp) _
  generalize w8.setCell ⟨w.heap.size + 1, 0, none⟩ (.bool true) = Wf at *
  have k2' : (Wf.putObj D3 (.deferred none)).heap[D2]? = some (.deferred (some [])) := (World.putObj_heap_other (by omega)).trans k2
  have k1' : ((Wf.putObj D3 (.deferred none)).putObj D2 (.deferred none)).heap[D1]? = some (.deferred (some [])) := (World.putObj_heap_other (by omega)).trans ((World.putObj_heap_other (by omega)).trans k1)
  have c1 := cell_kept hc0 (grownBy_putObj' _ D3 (.deferred none)) (fun r e => by cases e; exact ⟨_, k3, rfl⟩)
  have c2 := cell_kept c1 (grownBy_putObj' _ D2 (.deferred none)) (fun r e => by cases e; exact ⟨_, k2', rfl⟩)
  have c3 := cell_kept c2 (grownBy_putObj' _ D1 (.deferred none)) (fun r e => by cases e; exact ⟨_, k1', rfl⟩)
  have hres : Try.f11.results = #[ResultVar.cell 6 4] := rfl
  refine ⟨by simp, .inl ⟨_, _, rfl, run_takeDeferred k3, ?_⟩⟩
  refine ⟨by simp, .inl ⟨_, _, rfl, run_takeDeferred k2', ?_⟩⟩
  refine ⟨by simp, .inl ⟨_, _, rfl, run_takeDeferred k1', ?_⟩⟩
  refine ⟨.bool true, ?_, rfl, Lib.hid ?_⟩
  · simp [results, hres, go_sem, ht, c3]
  · exact ((BF.trans (belowK_b (w := w) (Nat.le_refl _) Wf D3 _ _ l3 k3 rfl rfl)).trans (belowK_b (w := w) (Nat.le_refl _) _ D2 _ _ l2 k2' rfl rfl)).trans (belowK_b (w := w) (Nat.le_refl _) _ D1 _ _ l1 k1' rfl rfl)

set_option maxRecDepth 100000 in
set_option maxHeartbeats 8000000 in
theorem cursorGoes11 (w : World) (A : Option Addr) (n c : Nat) (zs : List ByteArray) (hA : ArgS w A n zs) (hz : ∀ z ∈ zs, z.size ≤ 140737488355328) (fr tt : ByteArray) (hf ht of ot : Bool) (stop : Int) :
    Calls Try.prog 11 #[.slice A n c, .agg #[.string fr, .string tt, .bool hf, .bool ht, .bool of, .bool ot], .int .i64 stop] w fun e w' => e = .returned (.bool true) ∧ Hid (Below w.heap.size w w') := by
  obtain ⟨wA, hwA⟩ : ∃ x, x = (w.alloc (.cells #[.string fr, .string tt, .bool hf, .bool ht, .bool of, .bool ot] 23)).alloc (.cells #[.bool false] 4) := ⟨_, rfl⟩
  have bA : Below w.heap.size w wA := by rw [hwA]; exact ((Below.refl _ w).alloc (Nat.le_refl _) _).alloc (by simp) _
  have sA : wA.heap.size = w.heap.size + 1 + 1 := by rw [hwA]; simp
  have r0 : RngAt wA w.heap.size ⟨fr, tt, hf, ht, of, ot⟩ := by
    rw [hwA]
    exact RngAt.of_blk ((Blk.new w 23 (Rng.cells ⟨fr, tt, hf, ht, of, ot⟩)).alloc (.cells #[.bool false] 4))
  have r6 : Blk wA (w.heap.size + 1) 4 #[.bool false] := by
    have := Blk.new (w.alloc (.cells #[.string fr, .string tt, .bool hf, .bool ht, .bool of, .bool ot] 23)) 4 #[.bool false]
    rw [World.size_alloc] at this
    rw [hwA]; exact this
  have hgr := Lib.hid (grown38 wA A n c zs (hA.below bA) hz)
  have hsu := Lib.hid sure23
  have WA := Lib.hid hwA
  have R0 := Lib.hid r0
  have R6 := Lib.hid r6
  have BA := Lib.hid bA
  clear hA hz hwA r0 r6 bA
  refine (callsIn_wide (n := 9)).1 ?_
  refine callsIn_of_wp_marks Try.func11 rfl trivial ?_ rfl
  refine wpIn_wide.2 ?_
  simp only [Try.ntmps11, List.size_toArray, List.length_cons, List.length_nil, Nat.reduceAdd, Nat.reduceSub, Array.replicate_succ, Array.replicate_zero, List.push_toArray, List.append_toArray, List.nil_append, List.cons_append]
  go_wp2_with fail
  rw [← WA.out]
  refine hgr.out.mono ?_
  clear hgr
  rintro e w1 ⟨a, B, d, l, rfl, h1⟩
  have B1 := Lib.hid (show Below wA.heap.size wA w1 from h1.out.1.world)
  have TR := Lib.hid h1.out.1.tree
  have LI := Lib.hid h1.out.1.list
  have HL := Lib.hid h1.out.2
  obtain ⟨c0, c1, c2, c3, c4, c5⟩ := R0.out.below B1.out (by omega)
  simp only at c0 c1 c2 c3 c4 c5
  clear h1
  obtain ⟨wB, hwB⟩ : ∃ x, x = w1.alloc (.cells #[.string fr, .string tt, .bool hf, .bool ht, .bool of, .bool ot] 24) := ⟨_, rfl⟩
  have bB : Below w1.heap.size w1 wB := by rw [hwB]; exact (Below.refl _ w1).alloc (Nat.le_refl _) _
  have R9 := Lib.hid (show RngAt wB w1.heap.size ⟨fr, tt, hf, ht, of, ot⟩ ∧ w1.heap.size < wB.heap.size from ⟨by rw [hwB]; exact RngAt.of_blk (Blk.new w1 24 (Rng.cells ⟨fr, tt, hf, ht, of, ot⟩)), by rw [hwB]; simp⟩)
  obtain ⟨wl, hwl⟩ : ∃ x, x = inR fr tt hf ht of ot l := ⟨_, rfl⟩
  have hal := Lib.hid (all50 wB B l.length d l ((LI.out.kept bB).arg) (by have := HL.out; omega) TR.out.isV fr tt hf ht of ot)
  rw [← hwl] at hal
  have q4 := (R0.out.below B1.out (by omega)).below bB (by have := B1.out.size; omega)
  rw [hwB] at q4
  obtain ⟨e0, e1, e2, e3, e4, e5⟩ := q4
  simp only at e0 e1 e2 e3 e4 e5
  have BB := Lib.hid bB
  have WB := Lib.hid hwB
  have WL := Lib.hid hwl
  clear bB hwB hwl
  go_wp2_with fail
  rw [← WB.out]
  refine hal.out.mono ?_
  clear hal e0 e1 e2 e3 e4 e5 c0 c1 c2 c3 c4 c5
  rintro e w2 ⟨A', n', c', rfl, h2, h3⟩
  obtain ⟨wC, hwC⟩ : ∃ x, x = w2.alloc (.cells #[.slice A' n' c'] 61) := ⟨_, rfl⟩
  have bC : Below wB.heap.size wB wC := by rw [hwC]; exact h3.out.alloc h3.out.size _
  have R10 := Lib.hid (show Blk wC w2.heap.size 61 #[.slice A' n' c'] from by rw [hwC]; exact Blk.new w2 61 _)
  have OW := Lib.hid (show OwnR wC wB.heap.size A' n' c' wl from by rw [hwC]; exact h2.out.kept ((Below.refl _ w2).alloc (Nat.le_refl _) _))
  have hn' : wl.length = n' := h2.out.len
  have K9 := Lib.hid (show ∀ W, Below wC.heap.size wC W → RngAt W w1.heap.size ⟨fr, tt, hf, ht, of, ot⟩ from fun W hb => (R9.out.1.below bC R9.out.2).below hb (Nat.lt_of_lt_of_le R9.out.2 bC.size))
  have L9 := Lib.hid (show w1.heap.size < wC.heap.size from Nat.lt_of_lt_of_le R9.out.2 bC.size)
  have S10 := Lib.hid (show w2.heap.size < wC.heap.size ∧ wB.heap.size ≤ w2.heap.size from ⟨R10.out.lt, h3.out.size⟩)
  have BC := Lib.hid (show Below w1.heap.size w1 wC from BB.out.trans (bC.mono BB.out.size))
  have L6 := Lib.hid (show w.heap.size + 1 < wC.heap.size by have := B1.out.size; have := BC.out.size; omega)
  have R6C := Lib.hid (show Blk wC (w.heap.size + 1) 4 #[.bool false] from (BC.out.block _ (by have := B1.out.size; omega)).trans ((B1.out.block _ (by omega)).trans R6.out))
  have WC := Lib.hid hwC
  clear bC hwC h2 h3 R9 LI
  go_upto_region 6 with fail
  rw [← WC.out]
  have hb := below_drew1 wC
  have hs := hb.size
  go_region_held3 (fun w' : World => w'.cell? ⟨w1.heap.size, 0, none⟩ = some (.string fr) ∧ w'.cell? ⟨w1.heap.size, 1, none⟩ = some (.string tt) ∧ w'.cell? ⟨w1.heap.size, 2, none⟩ = some (.bool hf) ∧ w'.cell? ⟨w1.heap.size, 3, none⟩ = some (.bool ht) ∧ w'.cell? ⟨w1.heap.size, 4, none⟩ = some (.bool of) ∧ w'.cell? ⟨w1.heap.size, 5, none⟩ = some (.bool ot))
    ((refine K9.out _ ?_; go_grown))
    (first
      | (go_at_call 51; refine (all51 _ (some ⟨a, 0, none⟩) fr tt hf ht of ot).mono ?_; rintro e w' ⟨rfl, rfl⟩)
      | (go_at_call 52; refine (back52 _ (some ⟨a, 0, none⟩) fr tt hf ht of ot).mono ?_; rintro e w' ⟨rfl, rfl⟩))
  have hn80 := nf80
  have hn81 := nf81
  obtain ⟨wL, hwL⟩ : ∃ x, x = (((((wC.alloc (.cells #[.pointer (some ⟨a, 0, none⟩)] 38)).alloc (.cells #[.string fr, .string tt, .bool hf, .bool ht, .bool of, .bool ot] 24)).alloc (.cells #[.pointer (some ⟨a, 0, none⟩)] 38)).alloc (.cells #[.string fr, .string tt, .bool hf, .bool ht, .bool of, .bool ot] 24)).alloc (.cells #[.int .i64 0] 3)).drew := ⟨_, rfl⟩
  obtain ⟨f0, f1, f2, f3, f4, sL, bL⟩ := five wC 38 24 38 24 3 #[.pointer (some ⟨a, 0, none⟩)] (Rng.cells ⟨fr, tt, hf, ht, of, ot⟩) #[.pointer (some ⟨a, 0, none⟩)] (Rng.cells ⟨fr, tt, hf, ht, of, ot⟩) #[.int .i64 0]
  have hwL' : (((((wC.alloc (.cells #[.pointer (some ⟨a, 0, none⟩)] 38)).alloc (.cells (Rng.cells ⟨fr, tt, hf, ht, of, ot⟩) 24)).alloc (.cells #[.pointer (some ⟨a, 0, none⟩)] 38)).alloc (.cells (Rng.cells ⟨fr, tt, hf, ht, of, ot⟩) 24)).alloc (.cells #[.int .i64 0] 3)).drew = wL := by rw [hwL]; rfl
  rw [hwL'] at f0 f1 f2 f3 f4 sL bL
  have FL := Lib.hid (And.intro f0 (And.intro f1 (And.intro f2 (And.intro f3 f4))))
  have BL := Lib.hid bL
  have SL := Lib.hid sL
  have WLe := Lib.hid hwL
  clear hwL hwL' f0 f1 f2 f3 f4 sL bL hb hs
  go_wp2_with fail
  rw [← WLe.out]
  clear hn80 hn81
  refine (wpIn_wide (n := 9)).1 ?_
  have h01 : Below w1.heap.size w1 wL := BC.out.trans (BL.out.mono BC.out.size)
  have sz := SL.out
  refine wpIn_rangeFunc_ownF rfl (by omega) (gf := 80) (lb := #[.pointer (some ⟨wC.heap.size, 0, none⟩), .pointer (some ⟨wC.heap.size + 1, 0, none⟩)]) rfl trivial (enters_of Try.func80 (by kernel_rfl) rfl)
    (all80_stops _ (by omega) TR.out h01 wC.heap.size (wC.heap.size + 1) fr tt hf ht of ot (by omega) (by omega) (FL.out.1.cell 0) (RngAt.of_blk FL.out.2.1)) KB.trans (kb_put h01.size (fun k hk => by simp at hk; omega)) (Below.refl _ _) (fun _ => rfl)
    (fun pre W => (W.cell? ⟨wC.heap.size + 1 + 1 + 1 + 1, 0, none⟩ = some (.int .i64 pre.length) ∧ W.frozen? ⟨wC.heap.size + 1 + 1 + 1 + 1, 0, none⟩ = false) ∧ Chg [wC.heap.size + 1 + 1 + 1 + 1] wL W ∧ pre <+: wl.map kvS)
    (fun c pre W => c = .ret ∧ ¬ pre <+: wl.map kvS)
    (OwnFrom.and (Own.from (fun s A B row hs hg hr => ⟨cell_kept hs.1 hg hr, (frozen_kept hs.1 hg hr).trans hs.2⟩) _) (OwnFrom.and ownFrom_chg (fun s A B row hs hg hr => hs)))
    (fun c s A B row hs hg hr => hs)
    ⟨FL.out.2.2.2.2.boxed, Chg.refl _ _, List.nil_prefix⟩ ?a1 ?assign ?body ?done ?stop
  case assign =>
    intro lp x W K hK
    simp only [encP]
    gi_wp2
    exact hK
  case body =>
    rintro lp pre x W ⟨⟨hc, hfz⟩, hch, hpre⟩ hlen
    have hlt : pre.length < wl.length := by rw [WL.out]; exact hlen
    obtain ⟨⟨pk, pv⟩, hp⟩ : ∃ p, wl[pre.length]? = some p := ⟨_, List.getElem?_eq_getElem hlt⟩
    obtain ⟨pz, hpz⟩ := TR.out.isV (pk, pv) (by have := List.mem_of_getElem? hp; rw [WL.out] at this; exact (List.mem_filter.1 this).1)
    obtain rfl : pv = .string pz := hpz
    obtain ⟨g, rfl, hg, e0, e1⟩ := OW.out.arg.at_ _ _ hp
    have hold : ∀ k, k < wC.heap.size → W.heap[k]? = wC.heap[k]? := fun k hk => (hch.hp (by omega) (by simp; omega)).trans (BL.out.block k hk)
    have d0 : W.cell? ⟨g, pre.length * 2, none⟩ = some (.string pk) := (World.cell?_of_block (hold g hg)).trans e0
    have d1 : W.cell? ⟨g, pre.length * 2 + 1, none⟩ = some (.string pz) := (World.cell?_of_block (hold g hg)).trans e1
    have d10 : W.cell? ⟨w2.heap.size, 0, none⟩ = some (.slice (some ⟨g, 0, none⟩) n' c') := (World.cell?_of_block (hold _ S10.out.1)).trans (R10.out.cell 0)
    have d6 : Blk W (w.heap.size + 1) 4 #[.bool false] := (hold _ L6.out).trans R6C.out
    have d6c : W.cell? ⟨w.heap.size + 1, 0, none⟩ = some (.bool false) := d6.cell 0
    have d6f := d6.frozen 0
    have hsn := pre_snoc (x := x) hpre (y := (pk, pz)) (by rw [List.getElem?_map, hp]; rfl)
    have hge : ¬ ((n' : Int) ≤ (pre.length : Int)) := by omega
    have hlz : (pre.length : Int) < (n' : Int) := by omega
    have hw : wrap64 ((pre.length : Int) + 1) = (pre.length : Int) + 1 := by have := HL.out; have : wl.length ≤ l.length := by (rw [WL.out]; exact List.length_filter_le _ _)
                                                                             unfold wrap64; omega
    clear hp e0 e1 d6 hg
    obtain ⟨x1, x2⟩ := x
    have szc := BC.out.size
    cases hb1 : (x1.toList == pk.toList) with
    | false =>
      gi_wp2
      exact ⟨KeepsOthers.setCell _ _ _, rfl, fun h => by
        injection hsn.1 h with e1 e2
        rw [e1] at hb1; simp at hb1⟩
    | true =>
      cases hb2 : (x2.toList == pz.toList) with
      | false =>
        gi_wp2
        exact ⟨KeepsOthers.setCell _ _ _, rfl, fun h => by
          injection hsn.1 h with e1 e2
          rw [e2] at hb2; simp at hb2⟩
      | true =>
        gi_wp2
        exact ⟨KeepsOthers.setCell _ _ _, kb_set W (by omega) (fun k hk => by simp at hk; omega) _, ⟨by
          rw [World.cell?_setCell_same' _ _ _ (by rw [hc]; rfl)]
          simp, by rw [World.frozen?_setCell]; exact hfz⟩, hch.setCell (.inl (by simp)) _, hsn.2 (by
            rw [beq_toList] at hb1 hb2
            rw [of_decide_eq_true hb1, of_decide_eq_true hb2])⟩
  case stop =>
    rintro D c pre W hD hpre ⟨rfl, h⟩ hK
    exact absurd (by rw [WL.out]; exact hpre) h
  case done =>
    rintro D1 xs V1 hD1 hxs ⟨⟨hc, hfz⟩, hch, -⟩ hK1
    have hN : (xs.length : Int) = (n' : Int) := by rw [hxs, List.length_map, ← WL.out, hn']
    rw [hN] at hc
    clear hxs hN
    have S1 := hch.size
    have X1 := Lib.hid (And.intro hc hfz)
    have C1 := Lib.hid hch
    have K1 := Lib.hid (And.intro hK1 hD1)
    have W7 := Lib.hid (show wC.heap.size ≤ V1.heap.size by omega)
    clear hc hfz hch hK1 hD1 h01
    obtain ⟨wM, hwM⟩ : ∃ x, x = V1.alloc (.cells #[.int .i64 0] 3) := ⟨_, rfl⟩
    have FM := Lib.hid (show Blk wM V1.heap.size 3 #[.int .i64 0] from by rw [hwM]; exact Blk.new V1 3 _)
    have BM := Lib.hid (show Below V1.heap.size V1 wM from by rw [hwM]; exact (Below.refl _ V1).alloc (Nat.le_refl _) _)
    have sM : wM.heap.size = V1.heap.size + 1 := by rw [hwM]; simp
    have WM := Lib.hid hwM
    clear hwM
    -- what lay ahead of the first loop lies on
    have OM := Lib.hid (show ∀ k, k < wL.heap.size → k ≠ wC.heap.size + 1 + 1 + 1 + 1 → wM.heap[k]? = wL.heap[k]? from fun k hk hne => (BM.out.block k (by omega)).trans (C1.out.hp hk (by simp; omega)))
    have b1M : Below w1.heap.size w1 wM := (BC.out.trans (BL.out.mono BC.out.size)).trans ((C1.out.below (B := w1.heap.size) (fun x hx => by have := BC.out.size; simp at hx; omega) (by have := BC.out.size; omega)).trans (BM.out.mono (by have := BC.out.size; omega)))
    have B1M := Lib.hid b1M
    go_wp2_with fail
    rw [← WM.out]
    refine (wpIn_wide (n := 9)).1 ?_
    refine wpIn_rangeFunc_ownF rfl (by omega) (gf := 81) (lb := #[.pointer (some ⟨wC.heap.size + 1 + 1, 0, none⟩), .pointer (some ⟨wC.heap.size + 1 + 1 + 1, 0, none⟩)]) rfl trivial (enters_of Try.func81 (by kernel_rfl) rfl)
      (back81_stops _ (by omega) TR.out b1M (wC.heap.size + 1 + 1) (wC.heap.size + 1 + 1 + 1) fr tt hf ht of ot (by omega) (by omega) (Blk.cell (show Blk wM (wC.heap.size + 1 + 1) 38 #[.pointer (some ⟨a, 0, none⟩)] from (OM.out _ (by omega) (by omega)).trans FL.out.2.2.1) 0) (RngAt.of_blk (show Blk wM (wC.heap.size + 1 + 1 + 1) 24 (Rng.cells ⟨fr, tt, hf, ht, of, ot⟩) from (OM.out _ (by omega) (by omega)).trans FL.out.2.2.2.1))) KB.trans (kb_put b1M.size (fun k hk => by simp at hk; omega)) (Below.refl _ _) (fun _ => rfl)
      (fun pre W => (W.cell? ⟨V1.heap.size, 0, none⟩ = some (.int .i64 pre.length) ∧ W.frozen? ⟨V1.heap.size, 0, none⟩ = false) ∧ Chg [V1.heap.size] wM W ∧ pre <+: (wl.map kvS).reverse)
      (fun c pre W => c = .ret ∧ ¬ pre <+: (wl.map kvS).reverse)
      (OwnFrom.and (Own.from (fun s A B row hs hg hr => ⟨cell_kept hs.1 hg hr, (frozen_kept hs.1 hg hr).trans hs.2⟩) _) (OwnFrom.and ownFrom_chg (fun s A B row hs hg hr => hs)))
      (fun c s A B row hs hg hr => hs)
      ⟨FM.out.boxed, Chg.refl _ _, List.nil_prefix⟩ ?a2 ?assign2 ?body2 ?done2 ?stop2
    case assign2 =>
      intro lp x W K hK
      simp only [encP]
      gi_wp2
      exact hK
    case stop2 =>
      rintro D c pre W hD hpre ⟨rfl, h⟩ hK
      exact absurd (by rw [WL.out, ← List.map_reverse]; exact hpre) h
    case body2 =>
      rintro lp pre x W ⟨⟨hc, hfz⟩, hch, hpre⟩ hlen
      have hlt : pre.length < wl.length := by rw [WL.out]; exact hlen
      obtain ⟨j, hj⟩ : ∃ j, wl.length = j + 1 + pre.length := ⟨wl.length - 1 - pre.length, by omega⟩
      obtain ⟨⟨pk, pv⟩, hp⟩ : ∃ p, wl[j]? = some p := ⟨_, List.getElem?_eq_getElem (by omega)⟩
      obtain ⟨pz, hpz⟩ := TR.out.isV (pk, pv) (by have := List.mem_of_getElem? hp; rw [WL.out] at this; exact (List.mem_filter.1 this).1)
      obtain rfl : pv = .string pz := hpz
      obtain ⟨g, rfl, hg, e0, e1⟩ := OW.out.arg.at_ _ _ hp
      have hold : ∀ k, k < wC.heap.size → W.heap[k]? = wC.heap[k]? := fun k hk => (hch.hp (by omega) (by simp; omega)).trans ((OM.out k (by omega) (by omega)).trans (BL.out.block k hk))
      have d0 : W.cell? ⟨g, j * 2, none⟩ = some (.string pk) := (World.cell?_of_block (hold g hg)).trans e0
      have d1 : W.cell? ⟨g, j * 2 + 1, none⟩ = some (.string pz) := (World.cell?_of_block (hold g hg)).trans e1
      have d10 : W.cell? ⟨w2.heap.size, 0, none⟩ = some (.slice (some ⟨g, 0, none⟩) n' c') := (World.cell?_of_block (hold _ S10.out.1)).trans (R10.out.cell 0)
      have d6 : Blk W (w.heap.size + 1) 4 #[.bool false] := (hold _ L6.out).trans R6C.out
      have d6c : W.cell? ⟨w.heap.size + 1, 0, none⟩ = some (.bool false) := d6.cell 0
      have d6f := d6.frozen 0
      have hsn := pre_snoc (x := x) hpre (y := (pk, pz)) (by rw [← List.map_reverse, List.getElem?_map, List.getElem?_reverse hlt, show wl.length - 1 - pre.length = j by omega, hp]; rfl)
      have hN3 : n' ≤ 200 := by have := HL.out; have : wl.length ≤ l.length := by (rw [WL.out]; exact List.length_filter_le _ _)
                                omega
      have hge : ¬ ((n' : Int) ≤ (pre.length : Int)) := by omega
      have hlz : (j : Int) < (n' : Int) := by omega
      have hnj : n' = j + 1 + pre.length := by rw [← hn']; exact hj
      have szc := BC.out.size
      have hkb : w1.heap.size ≤ V1.heap.size := by omega
      have hkx : ∀ k ∈ [wC.heap.size + 1 + 1, wC.heap.size + 1 + 1 + 1], k ≠ V1.heap.size := fun k hk => by simp at hk; omega
      have hN6 : n' ≤ 1000000 := by omega
      have hN7 : pre.length ≤ 1000000 := by omega
      have hw := wq5 hN7
      have hw3 := wq1 hN6
      have hw4 := wq2 hnj hN6
      have hw5 := wq3 hN6
      have hw6 := wq4 hnj hN6
      have HS := Lib.hid hsn
      have HC := Lib.hid hch
      clear hN6 hN7 hnj hp e0 e1 d6 hg hj hlt hN3 hlen hsn hch hpre hold
      obtain ⟨x1, x2⟩ := x
      cases hb1 : (x1.toList == pk.toList) with
      | false =>
        gi_wp2
        exact ⟨KeepsOthers.setCell _ _ _, rfl, fun h => by
          injection HS.out.1 h with e1 e2
          rw [e1] at hb1; simp at hb1⟩
      | true =>
        cases hb2 : (x2.toList == pz.toList) with
        | false =>
          gi_wp2
          exact ⟨KeepsOthers.setCell _ _ _, rfl, fun h => by
            injection HS.out.1 h with e1 e2
            rw [e2] at hb2; simp at hb2⟩
        | true =>
          gi_wp2
          exact ⟨KeepsOthers.setCell _ _ _, kb_set W hkb hkx _, ⟨by
            rw [World.cell?_setCell_same' _ _ _ (by rw [hc]; rfl)]
            simp, by rw [World.frozen?_setCell]; exact hfz⟩, HC.out.setCell (.inl (by simp)) _, HS.out.2 (by
              rw [beq_toList] at hb1 hb2
              rw [of_decide_eq_true hb1, of_decide_eq_true hb2])⟩
    case done2 =>
      rintro D2 xs V2 hD2 hxs ⟨⟨hc, hfz⟩, hch, -⟩ hK2
      have hN : (xs.length : Int) = (n' : Int) := by rw [hxs, List.length_map, List.length_reverse, ← WL.out, hn']
      rw [hN] at hc
      clear hxs hN
      have S2 := hch.size
      have X2 := Lib.hid (And.intro hc hfz)
      have C2 := Lib.hid hch
      have K2 := Lib.hid (And.intro hK2 hD2)
      clear hc hfz hch hK2 hD2
      obtain ⟨M, hM, hM4⟩ := most5 stop
      obtain ⟨wO, hwO⟩ : ∃ x, x = (V2.alloc (.cells #[.int .i64 (M : Int)] 3)).alloc (.cells #[.int .i64 0] 3) := ⟨_, rfl⟩
      have FO := Lib.hid (show Blk wO V2.heap.size 3 #[.int .i64 (M : Int)] ∧ Blk wO (V2.heap.size + 1) 3 #[.int .i64 0] from by
        rw [hwO]
        have h := Blk.new (V2.alloc (.cells #[.int .i64 (M : Int)] 3)) 3 #[.int .i64 0]
        rw [World.size_alloc] at h
        exact ⟨(Blk.new V2 3 _).alloc _, h⟩)
      have BO := Lib.hid (show Below V2.heap.size V2 wO from by rw [hwO]; exact ((Below.refl _ V2).alloc (Nat.le_refl _) _).alloc (by simp) _)
      have sO : wO.heap.size = V2.heap.size + 1 + 1 := by rw [hwO]; simp
      have WO := Lib.hid hwO
      clear hwO
      have OO := Lib.hid (show ∀ k, k < wL.heap.size → k ≠ wC.heap.size + 1 + 1 + 1 + 1 → wO.heap[k]? = wL.heap[k]? from fun k hk hne => (BO.out.block k (by omega)).trans ((C2.out.hp (by omega) (by simp; omega)).trans (OM.out k hk hne)))
      have b1O : Below w1.heap.size w1 wO := b1M.trans ((C2.out.below (B := w1.heap.size) (fun x hx => by have := BC.out.size; simp at hx; omega) b1M.size).trans (BO.out.mono (by have := BC.out.size; omega)))
      have B1O := Lib.hid b1O
      have szc := BC.out.size
      have hkb : w1.heap.size ≤ V2.heap.size + 1 := by omega
      have hkx : ∀ k ∈ [wC.heap.size, wC.heap.size + 1], k ≠ V2.heap.size + 1 := fun k hk => by simp at hk; omega
      have hbT : Blk wO wC.heap.size 38 #[.pointer (some ⟨a, 0, none⟩)] := (OO.out _ (by omega) (by omega)).trans FL.out.1
      have hbR : Blk wO (wC.heap.size + 1) 24 (Rng.cells ⟨fr, tt, hf, ht, of, ot⟩) := (OO.out _ (by omega) (by omega)).trans FL.out.2.1
      have hX3 : ∀ k ∈ [wC.heap.size, wC.heap.size + 1], k < wO.heap.size := fun k hk => by simp at hk; omega
      have BT := Lib.hid (And.intro hbT hbR)
      clear hbT hbR b1M
      go_wp2_with fail
      rw [← WO.out]
      refine (wpIn_wide (n := 9)).1 ?_
      refine wpIn_rangeFunc_ownF rfl (by decide) (gf := 80) (lb := #[.pointer (some ⟨wC.heap.size, 0, none⟩), .pointer (some ⟨wC.heap.size + 1, 0, none⟩)]) rfl trivial (enters_of Try.func80 (by kernel_rfl) rfl)
        (all80_stops _ (by decide) TR.out b1O wC.heap.size (wC.heap.size + 1) fr tt hf ht of ot (hX3 _ (by simp)) (hX3 _ (by simp)) (BT.out.1.cell 0) (RngAt.of_blk BT.out.2)) KB.trans (kb_put b1O.size hX3) (Below.refl _ _) (fun _ => rfl)
        (fun pre W => (W.cell? ⟨V2.heap.size + 1, 0, none⟩ = some (.int .i64 pre.length) ∧ W.frozen? ⟨V2.heap.size + 1, 0, none⟩ = false) ∧ Chg [V2.heap.size + 1] wO W ∧ pre.length ≤ M)
        (fun c pre W => (c = .exit 4 ∧ pre.length = M + 1) ∧ W.cell? ⟨V2.heap.size + 1, 0, none⟩ = some (.int .i64 M) ∧ Chg [V2.heap.size + 1] wO W)
        (OwnFrom.and (Own.from (fun s A B row hs hg hr => ⟨cell_kept hs.1 hg hr, (frozen_kept hs.1 hg hr).trans hs.2⟩) _) (OwnFrom.and ownFrom_chg (fun s A B row hs hg hr => hs)))
        (fun c s A B row hs hg hr => ⟨hs.1, cell_kept hs.2.1 hg (fun r e => (hr r e).2), ownFrom_chg s A B row hs.2.2 hg hr⟩)
        ⟨FO.out.2.boxed, Chg.refl _ _, Nat.zero_le _⟩ ?a3 ?assign3 ?body3 ?done3 ?stop3
      case assign3 =>
        intro lp x W K hK
        simp only [encP]
        gi_wp2
        first
          | exact hK
          | (go_simp; exact hK)
      case body3 =>
        rintro lp pre x W ⟨⟨hc, hfz⟩, hch, hle⟩ hlen
        have d19 : W.cell? ⟨V2.heap.size, 0, none⟩ = some (.int .i64 M) := (cellof (hch.hp (by omega) (by simp))).trans (FO.out.1.cell 0)
        have HC := Lib.hid hch
        by_cases hl4 : pre.length = M
        · have heq : ((pre.length : Int) == (M : Int)) = true := by rw [hl4]; simp
          have HL4 := Lib.hid hl4
          clear hle hch hlen hl4
          gi_wp2
          exact ⟨KeepsOthers.refl _, ⟨rfl, by have := HL4.out; simp; omega⟩, by rw [hc, HL4.out], HC.out⟩
        · have heq : ((pre.length : Int) == (M : Int)) = false := by simp; omega
          have HL4 := Lib.hid (show pre.length + 1 ≤ M by omega)
          have hw := wq5 (show pre.length ≤ 1000000 by omega)
          clear hle hch hlen hl4
          gi_wp2
          exact ⟨KeepsOthers.setCell _ _ _, kb_set W hkb hkx _, ⟨by
            rw [World.cell?_setCell_same' _ _ _ (by rw [hc]; rfl)]
            simp, by rw [World.frozen?_setCell]; exact hfz⟩, HC.out.setCell (.inl (by simp)) _, by simpa using HL4.out⟩
      case stop3 =>
        rintro D3 c pre V3 hD3 hpre ⟨⟨rfl, hpl⟩, hc, hch⟩ hK3
        obtain ⟨r, hr⟩ : ∃ r : Nat, r = M := ⟨_, rfl⟩
        have X3 := Lib.hid (show V3.cell? ⟨V2.heap.size + 1, 0, none⟩ = some (.int .i64 r) from by rw [hr]; exact hc)
        have HM := Lib.hid (show min (M : Int) (n' : Int) = (r : Int) from by
          have := hpre.length_le
          rw [List.length_map, ← WL.out, hpl, hn'] at this
          omega)
        have C3 := Lib.hid hch
        have K3 := Lib.hid (And.intro hK3 hD3)
        clear hc hch hK3 hD3 hpre hpl hr b1O hkb hkx hX3
        refine wpIn_wide.2 ?_
        have S3 := C3.out.size
        have holdC : ∀ k, k < wC.heap.size → V3.heap[k]? = wC.heap[k]? := fun k hk => (C3.out.hp (by omega) (by simp; omega)).trans ((OO.out k (by omega) (by omega)).trans (BL.out.block k hk))
        have e13 : V3.cell? ⟨wC.heap.size + 1 + 1 + 1 + 1, 0, none⟩ = some (.int .i64 n') := (cellof ((C3.out.hp (by omega) (by simp; omega)).trans ((BO.out.block _ (by omega)).trans ((C2.out.hp (by omega) (by simp; omega)).trans (BM.out.block _ (by omega)))))).trans X1.out.1
        have e16 : V3.cell? ⟨V1.heap.size, 0, none⟩ = some (.int .i64 n') := (cellof ((C3.out.hp (by omega) (by simp; omega)).trans (BO.out.block _ (by omega)))).trans X2.out.1
        have e19 : V3.cell? ⟨V2.heap.size, 0, none⟩ = some (.int .i64 M) := (cellof (C3.out.hp (by omega) (by simp))).trans (FO.out.1.cell 0)
        have e20 : V3.cell? ⟨V2.heap.size + 1, 0, none⟩ = some (.int .i64 r) := X3.out
        have e10 : V3.cell? ⟨w2.heap.size, 0, none⟩ = some (.slice A' n' c') := (cellof (holdC _ S10.out.1)).trans (R10.out.cell 0)
        have e9 : RngAt V3 w1.heap.size ⟨fr, tt, hf, ht, of, ot⟩ := (K9.out wC (Below.refl _ _)).keep (holdC _ L9.out)
        have e6 : Blk V3 (w.heap.size + 1) 4 #[.bool false] := (holdC _ L6.out).trans R6C.out
        have z1 := L6.out
        have z2 := L9.out
        have z3 := S10.out
        have z4 := B1.out.size
        have z5 := BB.out.size
        have z6 := BC.out.size
        have KV := Lib.hid (show ∀ w' : World, (∀ k, w1.heap.size ≤ k → k < V3.heap.size → w'.heap[k]? = V3.heap[k]?) → (w'.cell? ⟨wC.heap.size + 1 + 1 + 1 + 1, 0, none⟩ = some (.int .i64 n') ∧ w'.cell? ⟨w2.heap.size, 0, none⟩ = some (.slice A' n' c') ∧ w'.cell? ⟨V1.heap.size, 0, none⟩ = some (.int .i64 n') ∧ w'.cell? ⟨V2.heap.size + 1, 0, none⟩ = some (.int .i64 r) ∧ w'.cell? ⟨V2.heap.size, 0, none⟩ = some (.int .i64 M) ∧ w'.cell? ⟨w1.heap.size, 0, none⟩ = some (.string fr) ∧ w'.cell? ⟨w1.heap.size, 1, none⟩ = some (.string tt) ∧ w'.cell? ⟨w1.heap.size, 2, none⟩ = some (.bool hf) ∧ w'.cell? ⟨w1.heap.size, 3, none⟩ = some (.bool ht) ∧ w'.cell? ⟨w1.heap.size, 4, none⟩ = some (.bool of) ∧ w'.cell? ⟨w1.heap.size, 5, none⟩ = some (.bool ot)) from fun w' hb => by
          obtain ⟨x0, x1, x2, x3, x4, x5⟩ := e9.keep (hb _ (by omega) (by omega))
          exact ⟨(cellof (hb _ (by omega) (by omega))).trans e13, (cellof (hb _ (by omega) (by omega))).trans e10, (cellof (hb _ (by omega) (by omega))).trans e16, (cellof (hb _ (by omega) (by omega))).trans e20, (cellof (hb _ (by omega) (by omega))).trans e19, x0, x1, x2, x3, x4, x5⟩)
        have KV1 := Lib.hid (show ∀ w' : World, Below V3.heap.size V3 w' → _ from fun w' hb => KV.out w' (fun k _ hk => hb.block k hk))
        have KV2 := Lib.hid (show ∀ (w' : World) (u : Value), Below V3.heap.size V3 w' → _ from fun w' u hb => KV.out (w'.setCell ⟨w.heap.size + 1, 0, none⟩ u) (fun k hk1 hk => (Below.heap_setCell w' ⟨w.heap.size + 1, 0, none⟩ u k (by show k ≠ w.heap.size + 1; omega)).trans (hb.block k hk)))
        have B1V : Below w1.heap.size w1 V3 := B1O.out.trans (C3.out.below (B := w1.heap.size) (fun x hx => by simp at hx; omega) (by omega))
        have CT := Lib.hid (show ∀ W : World, Below V3.heap.size V3 W → Calls Try.prog 39 #[.pointer (some ⟨a, 0, none⟩), .agg #[.string fr, .string tt, .bool hf, .bool ht, .bool of, .bool ot]] W fun e w' => e = .returned (.int .i64 n') ∧ Hid (Below W.heap.size W w') from fun W hb => by
          have h := count39 ((TR.out.below B1V).below hb) (by have := HL.out; omega) fr tt hf ht of ot
          rw [← WL.out, hn'] at h
          exact h)
        have D6 := Lib.hid (show ∀ W : World, Below V3.heap.size V3 W → W.cell? ⟨w.heap.size + 1, 0, none⟩ = some (.bool false) ∧ W.frozen? ⟨w.heap.size + 1, 0, none⟩ = false from fun W hb => by
          have h : Blk W (w.heap.size + 1) 4 #[.bool false] := (hb.block _ e6.lt).trans e6
          exact ⟨h.cell 0, h.frozen 0⟩)
        have BW := Lib.hid (show Below w.heap.size w V3 from BA.out.trans ((B1.out.mono BA.out.size).trans (B1V.mono (by omega))))
        have KD := Lib.hid (show ∀ W : World, Below V3.heap.size V3 W → ∀ u : Value, (W.setCell ⟨w.heap.size + 1, 0, none⟩ u).heap[D1]? = some (.deferred (some [])) ∧ (W.setCell ⟨w.heap.size + 1, 0, none⟩ u).heap[D2]? = some (.deferred (some [])) ∧ (W.setCell ⟨w.heap.size + 1, 0, none⟩ u).heap[D3]? = some (.deferred (some [])) ∧ D1 ≠ D2 ∧ D1 ≠ D3 ∧ D2 ≠ D3 ∧ w.heap.size ≤ D1 ∧ w.heap.size ≤ D2 ∧ w.heap.size ≤ D3 from fun W hb u => by
          have q1 : D1 < V1.heap.size := (Array.getElem?_eq_some_iff.1 K1.out.1).1
          have q2 : D2 < V2.heap.size := (Array.getElem?_eq_some_iff.1 K2.out.1).1
          have q3 : D3 < V3.heap.size := (Array.getElem?_eq_some_iff.1 K3.out.1).1
          have p1 := K1.out.2
          have p2 := K2.out.2
          have p3 := K3.out.2
          have g1 : V3.heap[D1]? = some (.deferred (some [])) := (C3.out.hp (by omega) (by simp; omega)).trans ((BO.out.block _ (by omega)).trans ((C2.out.hp (by omega) (by simp; omega)).trans ((BM.out.block _ (by omega)).trans K1.out.1)))
          have g2 : V3.heap[D2]? = some (.deferred (some [])) := (C3.out.hp (by omega) (by simp; omega)).trans ((BO.out.block _ (by omega)).trans K2.out.1)
          have st : ∀ k, k ≠ w.heap.size + 1 → k < V3.heap.size → (W.setCell ⟨w.heap.size + 1, 0, none⟩ u).heap[k]? = V3.heap[k]? := fun k hk hk3 => (Below.heap_setCell W ⟨w.heap.size + 1, 0, none⟩ u k hk).trans (hb.block k hk3)
          exact ⟨(st _ (by omega) (by omega)).trans g1, (st _ (by omega) (by omega)).trans g2, (st _ (by omega) (by omega)).trans K3.out.1, by omega, by omega, by omega, by omega, by omega, by omega⟩)
        have hq1 : ((n' : Int) == (n' : Int)) = true := by simp
        have hq2 : ((r : Int) == (r : Int)) = true := by simp
        have hmin := HM.out
        have hb := below_drew1 V3
        have hs := hb.size
        clear S3 holdC e13 e16 e19 e20 e10 e9 e6 z1 z2 z3 z4 z5 z6 B1V KV
        go_upto_region 28 with fail
        go_region_held3 (fun w' : World => w'.cell? ⟨wC.heap.size + 1 + 1 + 1 + 1, 0, none⟩ = some (.int .i64 n') ∧ w'.cell? ⟨w2.heap.size, 0, none⟩ = some (.slice A' n' c') ∧ w'.cell? ⟨V1.heap.size, 0, none⟩ = some (.int .i64 n') ∧ w'.cell? ⟨V2.heap.size + 1, 0, none⟩ = some (.int .i64 r) ∧ w'.cell? ⟨V2.heap.size, 0, none⟩ = some (.int .i64 M) ∧ w'.cell? ⟨w1.heap.size, 0, none⟩ = some (.string fr) ∧ w'.cell? ⟨w1.heap.size, 1, none⟩ = some (.string tt) ∧ w'.cell? ⟨w1.heap.size, 2, none⟩ = some (.bool hf) ∧ w'.cell? ⟨w1.heap.size, 3, none⟩ = some (.bool ht) ∧ w'.cell? ⟨w1.heap.size, 4, none⟩ = some (.bool of) ∧ w'.cell? ⟨w1.heap.size, 5, none⟩ = some (.bool ot))
          ((first | (refine KV1.out _ ?_; go_grown; done) | (refine KV2.out _ _ ?_; go_grown; done)))
          (first
            | (go_at_call 39; refine (CT.out _ (by go_grown)).mono ?_; rintro e w6 ⟨rfl, h6⟩; have hb6 := bt h6.out (show Below V3.heap.size V3 _ by go_grown); have hs6 := hb6.size)
            | (go_at_call 23; refine (hsu.out _).mono ?_; rintro e w8 ⟨rfl, h8⟩; have hb8 := bt h8.out (show Below V3.heap.size V3 _ by go_grown); have hs8 := hb8.size; obtain ⟨d6c, d6f⟩ := D6.out _ hb8))
        all_goals
          go_wp2_with fail
          exact goes_end (by have := L6.out; omega) (fun W hb => D6.out W hb) (fun W hb => KD.out W hb (.bool true)) BW.out hb8 rfl

      case done3 =>
        rintro D3 xs V3 hD3 hxs ⟨⟨hc, hfz⟩, hch, hle⟩ hK3
        have hN : xs.length = n' := by rw [hxs, List.length_map, ← WL.out, hn']
        rw [hN] at hc hle
        obtain ⟨r, hr⟩ : ∃ r : Nat, r = n' := ⟨_, rfl⟩
        have X3 := Lib.hid (show V3.cell? ⟨V2.heap.size + 1, 0, none⟩ = some (.int .i64 r) from by rw [hr]; exact hc)
        have HM := Lib.hid (show min (M : Int) (n' : Int) = (r : Int) from by omega)
        have C3 := Lib.hid hch
        have K3 := Lib.hid (And.intro hK3 hD3)
        clear hc hfz hch hK3 hD3 hxs hN hr hle b1O hkb hkx hX3
        have S3 := C3.out.size
        have holdC : ∀ k, k < wC.heap.size → V3.heap[k]? = wC.heap[k]? := fun k hk => (C3.out.hp (by omega) (by simp; omega)).trans ((OO.out k (by omega) (by omega)).trans (BL.out.block k hk))
        have e13 : V3.cell? ⟨wC.heap.size + 1 + 1 + 1 + 1, 0, none⟩ = some (.int .i64 n') := (cellof ((C3.out.hp (by omega) (by simp; omega)).trans ((BO.out.block _ (by omega)).trans ((C2.out.hp (by omega) (by simp; omega)).trans (BM.out.block _ (by omega)))))).trans X1.out.1
        have e16 : V3.cell? ⟨V1.heap.size, 0, none⟩ = some (.int .i64 n') := (cellof ((C3.out.hp (by omega) (by simp; omega)).trans (BO.out.block _ (by omega)))).trans X2.out.1
        have e19 : V3.cell? ⟨V2.heap.size, 0, none⟩ = some (.int .i64 M) := (cellof (C3.out.hp (by omega) (by simp))).trans (FO.out.1.cell 0)
        have e20 : V3.cell? ⟨V2.heap.size + 1, 0, none⟩ = some (.int .i64 r) := X3.out
        have e10 : V3.cell? ⟨w2.heap.size, 0, none⟩ = some (.slice A' n' c') := (cellof (holdC _ S10.out.1)).trans (R10.out.cell 0)
        have e9 : RngAt V3 w1.heap.size ⟨fr, tt, hf, ht, of, ot⟩ := (K9.out wC (Below.refl _ _)).keep (holdC _ L9.out)
        have e6 : Blk V3 (w.heap.size + 1) 4 #[.bool false] := (holdC _ L6.out).trans R6C.out
        have z1 := L6.out
        have z2 := L9.out
        have z3 := S10.out
        have z4 := B1.out.size
        have z5 := BB.out.size
        have z6 := BC.out.size
        have KV := Lib.hid (show ∀ w' : World, (∀ k, w1.heap.size ≤ k → k < V3.heap.size → w'.heap[k]? = V3.heap[k]?) → (w'.cell? ⟨wC.heap.size + 1 + 1 + 1 + 1, 0, none⟩ = some (.int .i64 n') ∧ w'.cell? ⟨w2.heap.size, 0, none⟩ = some (.slice A' n' c') ∧ w'.cell? ⟨V1.heap.size, 0, none⟩ = some (.int .i64 n') ∧ w'.cell? ⟨V2.heap.size + 1, 0, none⟩ = some (.int .i64 r) ∧ w'.cell? ⟨V2.heap.size, 0, none⟩ = some (.int .i64 M) ∧ w'.cell? ⟨w1.heap.size, 0, none⟩ = some (.string fr) ∧ w'.cell? ⟨w1.heap.size, 1, none⟩ = some (.string tt) ∧ w'.cell? ⟨w1.heap.size, 2, none⟩ = some (.bool hf) ∧ w'.cell? ⟨w1.heap.size, 3, none⟩ = some (.bool ht) ∧ w'.cell? ⟨w1.heap.size, 4, none⟩ = some (.bool of) ∧ w'.cell? ⟨w1.heap.size, 5, none⟩ = some (.bool ot)) from fun w' hb => by
          obtain ⟨x0, x1, x2, x3, x4, x5⟩ := e9.keep (hb _ (by omega) (by omega))
          exact ⟨(cellof (hb _ (by omega) (by omega))).trans e13, (cellof (hb _ (by omega) (by omega))).trans e10, (cellof (hb _ (by omega) (by omega))).trans e16, (cellof (hb _ (by omega) (by omega))).trans e20, (cellof (hb _ (by omega) (by omega))).trans e19, x0, x1, x2, x3, x4, x5⟩)
        have KV1 := Lib.hid (show ∀ w' : World, Below V3.heap.size V3 w' → _ from fun w' hb => KV.out w' (fun k _ hk => hb.block k hk))
        have KV2 := Lib.hid (show ∀ (w' : World) (u : Value), Below V3.heap.size V3 w' → _ from fun w' u hb => KV.out (w'.setCell ⟨w.heap.size + 1, 0, none⟩ u) (fun k hk1 hk => (Below.heap_setCell w' ⟨w.heap.size + 1, 0, none⟩ u k (by show k ≠ w.heap.size + 1; omega)).trans (hb.block k hk)))
        have B1V : Below w1.heap.size w1 V3 := B1O.out.trans (C3.out.below (B := w1.heap.size) (fun x hx => by simp at hx; omega) (by omega))
        have CT := Lib.hid (show ∀ W : World, Below V3.heap.size V3 W → Calls Try.prog 39 #[.pointer (some ⟨a, 0, none⟩), .agg #[.string fr, .string tt, .bool hf, .bool ht, .bool of, .bool ot]] W fun e w' => e = .returned (.int .i64 n') ∧ Hid (Below W.heap.size W w') from fun W hb => by
          have h := count39 ((TR.out.below B1V).below hb) (by have := HL.out; omega) fr tt hf ht of ot
          rw [← WL.out, hn'] at h
          exact h)
        have D6 := Lib.hid (show ∀ W : World, Below V3.heap.size V3 W → W.cell? ⟨w.heap.size + 1, 0, none⟩ = some (.bool false) ∧ W.frozen? ⟨w.heap.size + 1, 0, none⟩ = false from fun W hb => by
          have h : Blk W (w.heap.size + 1) 4 #[.bool false] := (hb.block _ e6.lt).trans e6
          exact ⟨h.cell 0, h.frozen 0⟩)
        have BW := Lib.hid (show Below w.heap.size w V3 from BA.out.trans ((B1.out.mono BA.out.size).trans (B1V.mono (by omega))))
        have KD := Lib.hid (show ∀ W : World, Below V3.heap.size V3 W → ∀ u : Value, (W.setCell ⟨w.heap.size + 1, 0, none⟩ u).heap[D1]? = some (.deferred (some [])) ∧ (W.setCell ⟨w.heap.size + 1, 0, none⟩ u).heap[D2]? = some (.deferred (some [])) ∧ (W.setCell ⟨w.heap.size + 1, 0, none⟩ u).heap[D3]? = some (.deferred (some [])) ∧ D1 ≠ D2 ∧ D1 ≠ D3 ∧ D2 ≠ D3 ∧ w.heap.size ≤ D1 ∧ w.heap.size ≤ D2 ∧ w.heap.size ≤ D3 from fun W hb u => by
          have q1 : D1 < V1.heap.size := (Array.getElem?_eq_some_iff.1 K1.out.1).1
          have q2 : D2 < V2.heap.size := (Array.getElem?_eq_some_iff.1 K2.out.1).1
          have q3 : D3 < V3.heap.size := (Array.getElem?_eq_some_iff.1 K3.out.1).1
          have p1 := K1.out.2
          have p2 := K2.out.2
          have p3 := K3.out.2
          have g1 : V3.heap[D1]? = some (.deferred (some [])) := (C3.out.hp (by omega) (by simp; omega)).trans ((BO.out.block _ (by omega)).trans ((C2.out.hp (by omega) (by simp; omega)).trans ((BM.out.block _ (by omega)).trans K1.out.1)))
          have g2 : V3.heap[D2]? = some (.deferred (some [])) := (C3.out.hp (by omega) (by simp; omega)).trans ((BO.out.block _ (by omega)).trans K2.out.1)
          have st : ∀ k, k ≠ w.heap.size + 1 → k < V3.heap.size → (W.setCell ⟨w.heap.size + 1, 0, none⟩ u).heap[k]? = V3.heap[k]? := fun k hk hk3 => (Below.heap_setCell W ⟨w.heap.size + 1, 0, none⟩ u k hk).trans (hb.block k hk3)
          exact ⟨(st _ (by omega) (by omega)).trans g1, (st _ (by omega) (by omega)).trans g2, (st _ (by omega) (by omega)).trans K3.out.1, by omega, by omega, by omega, by omega, by omega, by omega⟩)
        have hq1 : ((n' : Int) == (n' : Int)) = true := by simp
        have hq2 : ((r : Int) == (r : Int)) = true := by simp
        have hmin := HM.out
        have hb := below_drew1 V3
        have hs := hb.size
        clear S3 holdC e13 e16 e19 e20 e10 e9 e6 z1 z2 z3 z4 z5 z6 B1V KV
        go_upto_region 28 with fail
        go_region_held3 (fun w' : World => w'.cell? ⟨wC.heap.size + 1 + 1 + 1 + 1, 0, none⟩ = some (.int .i64 n') ∧ w'.cell? ⟨w2.heap.size, 0, none⟩ = some (.slice A' n' c') ∧ w'.cell? ⟨V1.heap.size, 0, none⟩ = some (.int .i64 n') ∧ w'.cell? ⟨V2.heap.size + 1, 0, none⟩ = some (.int .i64 r) ∧ w'.cell? ⟨V2.heap.size, 0, none⟩ = some (.int .i64 M) ∧ w'.cell? ⟨w1.heap.size, 0, none⟩ = some (.string fr) ∧ w'.cell? ⟨w1.heap.size, 1, none⟩ = some (.string tt) ∧ w'.cell? ⟨w1.heap.size, 2, none⟩ = some (.bool hf) ∧ w'.cell? ⟨w1.heap.size, 3, none⟩ = some (.bool ht) ∧ w'.cell? ⟨w1.heap.size, 4, none⟩ = some (.bool of) ∧ w'.cell? ⟨w1.heap.size, 5, none⟩ = some (.bool ot))
          ((first | (refine KV1.out _ ?_; go_grown; done) | (refine KV2.out _ _ ?_; go_grown; done)))
          (first
            | (go_at_call 39; refine (CT.out _ (by go_grown)).mono ?_; rintro e w6 ⟨rfl, h6⟩; have hb6 := bt h6.out (show Below V3.heap.size V3 _ by go_grown); have hs6 := hb6.size)
            | (go_at_call 23; refine (hsu.out _).mono ?_; rintro e w8 ⟨rfl, h8⟩; have hb8 := bt h8.out (show Below V3.heap.size V3 _ by go_grown); have hs8 := hb8.size; obtain ⟨d6c, d6f⟩ := D6.out _ hb8))
        all_goals
          go_wp2_with fail
          exact goes_end (by have := L6.out; omega) (fun W hb => D6.out W hb) (fun W hb => KD.out W hb (.bool true)) BW.out hb8 rfl


end Go.Proofs.Ytcidmaeclonilaa
