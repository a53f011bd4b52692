/- cursor.Count. -/
import Derived.Test.YtcidmaeclonilaaSeqM
namespace Go.Proofs.Ytcidmaeclonilaa
open Go Go.RowKit Go.Shelf
attribute [local go_sem] Oper.semAt_some

theorem Blk.boxed {W : World} {b : Nat} {t : TypeId} {v : Value} (h : Blk W b t #[v]) : W.cell? ⟨b, 0, none⟩ = some v ∧ W.frozen? ⟨b, 0, none⟩ = false := ⟨h.cell 0, h.frozen 0⟩
/-- a store in a box of one's own keeps what the iterator wants -/
theorem kb_set {n₀ b : Nat} {X : List Nat} (W : World) (hb : n₀ ≤ b) (hX : ∀ k ∈ X, k ≠ b) (v : Value) : KB n₀ X W (W.setCell ⟨b, 0, none⟩ v) :=
  ⟨(Below.refl n₀ W).setCell (p := ⟨b, 0, none⟩) hb _, fun k hk => Below.heap_setCell W ⟨b, 0, none⟩ v k (fun e => hX k hk e)⟩

set_option maxRecDepth 100000 in
set_option maxHeartbeats 4000000 in
theorem count39 {w0 w : World} {a : Nat} {l : List KV} (H : TOwnS w0 w a l) (hl : l.length ≤ 60000) (fr to : ByteArray) (hf ht of ot : Bool) :
    Calls Try.prog 39 #[.pointer (some ⟨a, 0, none⟩), .agg #[.string fr, .string to, .bool hf, .bool ht, .bool of, .bool ot]] w fun e w' => e = .returned (.int .i64 (inR fr to hf ht of ot l).length) ∧ Hid (Below w.heap.size w w') := by
  obtain ⟨lb, hlb⟩ : ∃ lb, lb = inR fr to hf ht of ot l := ⟨_, rfl⟩
  have hN : lb.length ≤ 60000 := by rw [hlb]; exact Nat.le_trans (List.length_filter_le _ _) hl
  refine (callsIn_wide (n := 9)).1 ?_
  refine callsIn_of_wp_marks Try.func39 rfl trivial ?_ rfl
  simp only [Try.ntmps39, List.size_toArray, List.length_cons, List.length_nil, Nat.reduceAdd, Nat.reduceSub, Array.replicate_succ, Array.replicate_zero, List.push_toArray, List.append_toArray, List.nil_append, List.cons_append]
  gi_wp2_with ((try with_reducible refine And.intro (wide_fn _) ?_); gi_at_call 51; refine (callsIn_wide.2 (all51 _ (some ⟨a, 0, none⟩) fr to hf ht of ot)).mono ?_; rintro e w' ⟨rfl, rfl⟩)
  obtain ⟨wa, hwa⟩ : ∃ wa, wa = (((w.alloc (.cells #[.string fr, .string to, .bool hf, .bool ht, .bool of, .bool ot] 24)).alloc (.cells #[.int .i64 0] 3)).alloc (.cells #[.pointer (some ⟨a, 0, none⟩)] 38)).alloc (.cells #[.string fr, .string to, .bool hf, .bool ht, .bool of, .bool ot] 24) := ⟨_, rfl⟩
  have hsz : wa.heap.size = w.heap.size + 1 + 1 + 1 + 1 := by rw [hwa]; simp
  have bN : Blk wa (w.heap.size + 1) 3 #[.int .i64 0] := by
    have := ((Blk.new (w.alloc (.cells #[.string fr, .string to, .bool hf, .bool ht, .bool of, .bool ot] 24)) 3 #[.int .i64 0]).alloc (.cells #[.pointer (some ⟨a, 0, none⟩)] 38)).alloc (.cells #[.string fr, .string to, .bool hf, .bool ht, .bool of, .bool ot] 24)
    rw [World.size_alloc] at this
    rw [hwa]; exact this
  have bT : Blk wa (w.heap.size + 1 + 1) 38 #[.pointer (some ⟨a, 0, none⟩)] := by
    have := (Blk.new ((w.alloc (.cells #[.string fr, .string to, .bool hf, .bool ht, .bool of, .bool ot] 24)).alloc (.cells #[.int .i64 0] 3)) 38 #[.pointer (some ⟨a, 0, none⟩)]).alloc (.cells #[.string fr, .string to, .bool hf, .bool ht, .bool of, .bool ot] 24)
    rw [World.size_alloc, World.size_alloc] at this
    rw [hwa]; exact this
  have bR : Blk wa (w.heap.size + 1 + 1 + 1) 24 (Rng.cells ⟨fr, to, hf, ht, of, ot⟩) := by
    have := Blk.new (((w.alloc (.cells #[.string fr, .string to, .bool hf, .bool ht, .bool of, .bool ot] 24)).alloc (.cells #[.int .i64 0] 3)).alloc (.cells #[.pointer (some ⟨a, 0, none⟩)] 38)) 24 (Rng.cells ⟨fr, to, hf, ht, of, ot⟩)
    rw [World.size_alloc, World.size_alloc, World.size_alloc] at this
    rw [hwa]; exact this
  have h01 : Below w.heap.size w wa := by
    rw [hwa]; exact ((((Below.refl _ w).alloc (Nat.le_refl _) _).alloc (by simp) _).alloc (by simp; omega) _).alloc (by simp; omega) _
  rw [← hwa]
  clear hwa
  refine wpIn_rangeFunc_ownF rfl (by omega) (gf := 80) (lb := #[.pointer (some ⟨w.heap.size + 1 + 1, 0, none⟩), .pointer (some ⟨w.heap.size + 1 + 1 + 1, 0, none⟩)]) rfl trivial (enters_of Try.func80 (by kernel_rfl) rfl)
    (all80_stops _ (by omega) H h01 (w.heap.size + 1 + 1) (w.heap.size + 1 + 1 + 1) fr to hf ht of ot (by omega) (by omega) (bT.cell 0) (RngAt.of_blk bR)) KB.trans (kb_put (by omega) (fun k hk => by simp at hk; omega)) (Below.refl _ _) (fun _ => rfl)
    (fun pre W => (W.cell? ⟨w.heap.size + 1, 0, none⟩ = some (.int .i64 pre.length) ∧ W.frozen? ⟨w.heap.size + 1, 0, none⟩ = false) ∧ Below w.heap.size w W)
    (fun _ _ _ => False)
    (OwnFrom.and (Own.from (fun s A B row hs hg hr => ⟨cell_kept hs.1 hg hr, (frozen_kept hs.1 hg hr).trans hs.2⟩) _) (ownFrom_below (Nat.le_refl _) (by omega)))
    (fun _ _ _ _ _ hs _ _ => hs)
    ⟨bN.boxed, h01⟩
    (fun x => { tmps := #[.pointer (some ⟨a, 0, none⟩), .agg #[.string fr, .string to, .bool hf, .bool ht, .bool of, .bool ot], undef, .pointer (some ⟨w.heap.size, 0, none⟩), .int .i64 0, .pointer (some ⟨w.heap.size + 1, 0, none⟩), .pointer (some ⟨a, 0, none⟩), .agg #[.string fr, .string to, .bool hf, .bool ht, .bool of, .bool ot],
      .func (.func 80) #[] #[.pointer (some ⟨w.heap.size + 1 + 1, 0, none⟩), .pointer (some ⟨w.heap.size + 1 + 1 + 1, 0, none⟩)], .string x.1, .string x.2, undef, undef, undef], defers := [] }) ?assign ?body ?done ?stop
  case assign =>
    intro l x W K hK
    simp only [encP]
    gi_wp2
    first
      | (go_simp; exact hK)
      | (simp; exact hK)
      | (simp [Array.zip, Array.foldl]; trace_state; exact hK)
  case body =>
    rintro lp pre x W ⟨⟨hc, hf⟩, hB⟩ hlen
    rw [← hlb] at hlen
    have hw : wrap64 ((pre.length : Int) + 1) = (pre.length : Int) + 1 := by unfold wrap64; omega
    gi_wp2
    exact ⟨KeepsOthers.setCell _ _ _, kb_set W (by omega) (fun k hk => by simp at hk; omega) _, ⟨by
      rw [World.cell?_setCell_same' _ _ _ (by rw [hc]; rfl)]
      simp, by rw [World.frozen?_setCell]; exact hf⟩, hB.setCell (p := ⟨w.heap.size + 1, 0, none⟩) (by simp) _⟩
  case done =>
    rintro D xs W hD rfl ⟨⟨hc, _⟩, hB⟩ hK
    rw [← hlb] at hc
    gi_wp2
    refine ⟨by simp, .inl ⟨_, _, rfl, run_takeDeferred hK, ?_⟩⟩
    exact ⟨_, results_tmp rfl _ _ _, by rw [← hlb]; simp, Lib.hid (hB.trans (belowK_b (w := w) (Nat.le_refl _) W D _ _ (by omega) hK rfl rfl))⟩
  case stop =>
    rintro D c pre W _ _ h _
    exact h.elim

end Go.Proofs.Ytcidmaeclonilaa
