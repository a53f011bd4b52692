/- The walk of barbicanlaw13.CursorSplits. -/
import Derived.Test.YtcidmaeclonilaaGrown
import Derived.Test.YtcidmaeclonilaaCount
import Derived.Test.YtcidmaeclonilaaCur2
import Derived.Test.YtcidmaeclonilaaSure13
import Derived.Test.YtcidmaeclonilaaSplitsP
namespace Go.Proofs.Ytcidmaeclonilaa
open Go Go.RowKit

theorem bt {A W W' : World} (h' : Below W.heap.size W W') (h : Below A.heap.size A W) : Below A.heap.size A W' := h.trans (h'.mono h.size)
theorem zbox {W w' : World} {cs : Array Value} {t : TypeId} (h : Below (W.alloc (.cells cs t)).heap.size (W.alloc (.cells cs t)) w') : Blk w' W.heap.size t cs := (h.block _ (by simp)).trans (Blk.new W t cs)
theorem zboxd {W w' : World} {cs : Array Value} {t : TypeId} (h : Below (W.alloc (.cells cs t)).drew.heap.size (W.alloc (.cells cs t)).drew w') : Blk w' W.heap.size t cs := (h.block _ (by simp)).trans (Blk.new W t cs)
theorem zbox2 {W w' : World} {cs : Array Value} {t : TypeId} {b : Nat} (z : Blk W b t cs) (h : Below W.heap.size W w') : Blk w' b t cs := (h.block _ z.lt).trans z
/-- six cells that may be written -/
theorem zsix {W : World} {b : Nat} {v0 v1 v2 v3 v4 v5 : Value} {t : TypeId} (z : Blk W b t #[v0, v1, v2, v3, v4, v5]) :
    (W.cell? ⟨b, 0, none⟩ = some v0 ∧ W.cell? ⟨b, 1, none⟩ = some v1 ∧ W.cell? ⟨b, 2, none⟩ = some v2 ∧ W.cell? ⟨b, 3, none⟩ = some v3 ∧ W.cell? ⟨b, 4, none⟩ = some v4 ∧ W.cell? ⟨b, 5, none⟩ = some v5) ∧
    W.frozen? ⟨b, 0, none⟩ = false ∧ W.frozen? ⟨b, 1, none⟩ = false ∧ W.frozen? ⟨b, 2, none⟩ = false ∧ W.frozen? ⟨b, 3, none⟩ = false ∧ W.frozen? ⟨b, 4, none⟩ = false ∧ W.frozen? ⟨b, 5, none⟩ = false :=
  ⟨⟨z.cell 0, z.cell 1, z.cell 2, z.cell 3, z.cell 4, z.cell 5⟩, z.frozen 0, z.frozen 1, z.frozen 2, z.frozen 3, z.frozen 4, z.frozen 5⟩
theorem six_set {W : World} {b : Nat} {v0 v1 v2 v3 v4 v5 : Value} {t : TypeId} (z : Blk W b t #[v0, v1, v2, v3, v4, v5]) (f x : ByteArray) (b1 b2 b3 b4 : Bool) :
    Blk ((((((W.setCell ⟨b, 0, none⟩ (.string f)).setCell ⟨b, 1, none⟩ (.string x)).setCell ⟨b, 2, none⟩ (.bool b1)).setCell ⟨b, 3, none⟩ (.bool b2)).setCell ⟨b, 4, none⟩ (.bool b3)).setCell ⟨b, 5, none⟩ (.bool b4)) b t (Rng.cells ⟨f, x, b1, b2, b3, b4⟩) :=
  (((((z.set_ 0 (.string f)).set_ 1 (.string x)).set_ 2 (.bool b1)).set_ 3 (.bool b2)).set_ 4 (.bool b3)).set_ 5 (.bool b4)
theorem ArgS.below {w w' : World} {A : Option Addr} {n : Nat} {zs : List ByteArray} (H : ArgS w A n zs) (hb : Below w.heap.size w w') : ArgS w' A n zs :=
  ⟨H.len, fun i z hz => by
    obtain ⟨b, off, e, h1, h2⟩ := H.at_ i z hz
    exact ⟨b, off, e, Nat.lt_of_lt_of_le h1 hb.size, (hb.cell (p := ⟨b, off + i, none⟩) h1).trans h2⟩⟩

set_option maxRecDepth 100000 in
set_option maxHeartbeats 8000000 in
theorem cursorSplits7 (w : World) (A : Option Addr) (n c : Nat) (zs : List ByteArray) (hA : ArgS w A n zs) (hz : ∀ z ∈ zs, z.size ≤ 140737488355328) (fr tt at_ : ByteArray) (hf ht of ot : Bool) :
    Calls Try.prog 7 #[.slice A n c, .agg #[.string fr, .string tt, .bool hf, .bool ht, .bool of, .bool ot], .string at_] w fun e w' => e = .returned (.bool true) ∧ Hid (Below w.heap.size w w') := by
  have hA1 : ArgS (w.alloc (.cells #[.string fr, .string tt, .bool hf, .bool ht, .bool of, .bool ot] 23)) A n zs := hA.below ((Below.refl _ w).alloc (Nat.le_refl _) _)
  have hgr := Lib.hid (grown38 _ A n c zs hA1 hz)
  have hsu := Lib.hid sure23
  clear hA hA1 hz
  go_enter Try.func7, Try.ntmps7
  go_wp2_with fail
  refine hgr.out.mono ?_
  clear hgr
  rintro e w1 ⟨a, B, d, l, rfl, h1⟩
  have r0 : RngAt w1 w.heap.size ⟨fr, tt, hf, ht, of, ot⟩ := (RngAt.of_blk (show Blk (w.alloc (.cells #[.string fr, .string tt, .bool hf, .bool ht, .bool of, .bool ot] 23)) w.heap.size 23 (Rng.cells ⟨fr, tt, hf, ht, of, ot⟩) from Blk.new w 23 _)).below h1.out.1.world (by simp)
  obtain ⟨c0, c1, c2, c3, c4, c5⟩ := r0
  simp only at c0 c1 c2 c3 c4 c5
  go_wp2_with fail
  clear c0 c1 c2 c3 c4 c5
  refine (meet18 _ _ _ _ _ _ _ _ _ _ _ _ _).mono ?_
  rintro e w2 ⟨f1, t1, hf1, ht1, of1, ot1, rfl, m1, h2⟩
  obtain ⟨wB, hwB⟩ : ∃ x, x = w1.alloc (.cells #[.string fr, .string tt, .bool hf, .bool ht, .bool of, .bool ot] 24) := ⟨_, rfl⟩
  have r9 : RngAt wB w1.heap.size ⟨fr, tt, hf, ht, of, ot⟩ := by rw [hwB]; exact RngAt.of_blk (Blk.new w1 24 (Rng.cells ⟨fr, tt, hf, ht, of, ot⟩))
  have l9 : w1.heap.size < wB.heap.size := by rw [hwB]; simp
  have b1B : Below w1.heap.size w1 wB := by rw [hwB]; exact (Below.refl _ w1).alloc (Nat.le_refl _) _
  rw [← hwB] at h2
  clear hwB
  obtain ⟨wC, hwC⟩ : ∃ x, x = w2.alloc (.cells #[.string f1, .string t1, .bool hf1, .bool ht1, .bool of1, .bool ot1] 24) := ⟨_, rfl⟩
  have r10 : RngAt wC w2.heap.size ⟨f1, t1, hf1, ht1, of1, ot1⟩ := by rw [hwC]; exact RngAt.of_blk (Blk.new w2 24 (Rng.cells ⟨f1, t1, hf1, ht1, of1, ot1⟩))
  have l10 : w2.heap.size < wC.heap.size := by rw [hwC]; simp
  have bBC : Below wB.heap.size wB wC := by rw [hwC]; exact h2.out.alloc h2.out.size _
  have q9 := r9.below bBC l9
  rw [hwC] at q9
  obtain ⟨c0, c1, c2, c3, c4, c5⟩ := q9
  simp only at c0 c1 c2 c3 c4 c5
  have HB := Lib.hid bBC
  have R10 := Lib.hid (And.intro r10 l10)
  have R9 := Lib.hid (And.intro r9 l9)
  have B1B := Lib.hid b1B
  have HW := Lib.hid hwC
  clear bBC r10 l10 r9 l9 b1B h2 hwC
  go_wp2_with fail
  rw [← HW.out]
  clear c0 c1 c2 c3 c4 c5
  refine (meet18 _ _ _ _ _ _ _ _ _ _ _ _ _).mono ?_
  rintro e w3 ⟨f2, t2, hf2, ht2, of2, ot2, rfl, m2, h3⟩
  obtain ⟨wD, hwD⟩ : ∃ x, x = w3.alloc (.cells #[.string f2, .string t2, .bool hf2, .bool ht2, .bool of2, .bool ot2] 24) := ⟨_, rfl⟩
  have R11 := Lib.hid (show RngAt wD w3.heap.size ⟨f2, t2, hf2, ht2, of2, ot2⟩ ∧ w3.heap.size < wD.heap.size from ⟨by rw [hwD]; exact RngAt.of_blk (Blk.new w3 24 (Rng.cells ⟨f2, t2, hf2, ht2, of2, ot2⟩)), by rw [hwD]; simp⟩)
  have BCD := Lib.hid (show Below wC.heap.size wC wD by rw [hwD]; exact h3.out.alloc h3.out.size _)
  have HW3 := Lib.hid hwD
  clear hwD h3
  have BBD := Lib.hid (HB.out.trans (BCD.out.mono HB.out.size))
  have K9 := Lib.hid (show ∀ W, Below wD.heap.size wD W → RngAt W w1.heap.size ⟨fr, tt, hf, ht, of, ot⟩ from fun W hb => (R9.out.1.below BBD.out R9.out.2).below hb (Nat.lt_of_lt_of_le R9.out.2 BBD.out.size))
  have K10 := Lib.hid (show ∀ W, Below wD.heap.size wD W → RngAt W w2.heap.size ⟨f1, t1, hf1, ht1, of1, ot1⟩ from fun W hb => (R10.out.1.below BCD.out R10.out.2).below hb (Nat.lt_of_lt_of_le R10.out.2 BCD.out.size))
  have K11 := Lib.hid (show ∀ W, Below wD.heap.size wD W → RngAt W w3.heap.size ⟨f2, t2, hf2, ht2, of2, ot2⟩ from fun W hb => R11.out.1.below hb R11.out.2)
  have L1 := Lib.hid (show w1.heap.size < wD.heap.size ∧ w2.heap.size < wD.heap.size ∧ w3.heap.size < wD.heap.size from ⟨Nat.lt_of_lt_of_le R9.out.2 BBD.out.size, Nat.lt_of_lt_of_le R10.out.2 BCD.out.size, R11.out.2⟩)
  have TD := Lib.hid ((h1.out.1.below B1B.out).below BBD.out).tree
  have HL := Lib.hid h1.out.2
  have BWD := Lib.hid (show Below w.heap.size w wD from (((((Below.refl _ w).alloc (Nat.le_refl _) _).trans (h1.out.1.world.mono (by simp))).trans (B1B.out.mono (by have := h1.out.1.world.size; simp at this; omega))).trans (BBD.out.mono (by have h7 := h1.out.1.world.size; have h8 := R9.out.2; simp at h7; omega))))
  clear HB R10 R9 B1B HW R11 BCD BBD h1
  go_wp2_with fail
  rw [← HW3.out]
  go_cut [12] from 29 to 33 (fun s12 wx => ∃ (b12 : Nat) (f3 t3 : ByteArray) (hf3 ht3 of3 ot3 : Bool), s12 = .pointer (some ⟨b12, 0, none⟩) ∧ Hid (RngAt wx b12 ⟨f3, t3, hf3, ht3, of3, ot3⟩ ∧ b12 < wx.heap.size) ∧ Hid (narB true fr hf of at_ true false = (f3, hf3, of3) ∧ narB false tt ht ot at_ true false = (t3, ht3, ot3)) ∧ Hid (Below wD.heap.size wD wx))
  case first =>
    have hb := below_drew1 wD
    have hs3 := hb.size
    obtain ⟨c0, c1, c2, c3, c4, c5⟩ := K9.out wD.drew hb
    simp only at c0 c1 c2 c3 c4 c5
    go_region_held3 (fun w' : World => w'.cell? ⟨w1.heap.size, 0, none⟩ = some (.string fr) ∧ w'.cell? ⟨w1.heap.size, 1, none⟩ = some (.string tt) ∧ w'.cell? ⟨w1.heap.size, 2, none⟩ = some (.bool hf) ∧ w'.cell? ⟨w1.heap.size, 3, none⟩ = some (.bool ht) ∧ w'.cell? ⟨w1.heap.size, 4, none⟩ = some (.bool of) ∧ w'.cell? ⟨w1.heap.size, 5, none⟩ = some (.bool ot))
      ((refine K9.out _ ?_; go_grown))
      (first
        | (go_at_call 22; refine (one22 _ _).mono ?_; rintro e w4 ⟨rfl, h4⟩; have hb4 := bt h4.out (show Below wD.heap.size wD _ by go_grown); have hs4 := hb4.size; try (with_reducible have z4 := zboxd h4.out))
        | (go_at_call 18; refine (meet18 _ _ _ _ _ _ _ _ _ _ _ _ _).mono ?_; rintro e w5 ⟨f3, t3, hf3, ht3, of3, ot3, rfl, m3, h5⟩; have hb5 := bt h5.out (show Below wD.heap.size wD _ by go_grown); have hs5 := hb5.size; try ((first | with_reducible have z5 := zbox h5.out | have z5 := zbox2 z4 h5.out); obtain ⟨⟨z50, z51, z52, z53, z54, z55⟩, y50, y51, y52, y53, y54, y55⟩ := zsix z5)))
    · go_wp2_with fail
      go_meet
      case rel => exact ⟨_, f3, t3, hf3, ht3, of3, ot3, rfl, Lib.hid ⟨RngAt.of_blk (Blk.new w5 24 (Rng.cells ⟨f3, t3, hf3, ht3, of3, ot3⟩)), by simp⟩, m3, Lib.hid (by go_grown)⟩
    · have z6 := six_set z5 f3 t3 hf3 ht3 of3 ot3
      clear z5 z50 z51 z52 z53 z54 z55 y50 y51 y52 y53 y54 y55
      go_wp2_with fail
      go_meet
      case rel => exact ⟨_, f3, t3, hf3, ht3, of3, ot3, rfl, Lib.hid ⟨RngAt.of_blk z6, z6.lt⟩, m3, Lib.hid (by go_grown)⟩
    · have z6 := six_set z5 f3 t3 hf3 ht3 of3 ot3
      clear z5 z50 z51 z52 z53 z54 z55 y50 y51 y52 y53 y54 y55
      go_wp2_with fail
      go_meet
      case rel => exact ⟨_, f3, t3, hf3, ht3, of3, ot3, rfl, Lib.hid ⟨RngAt.of_blk z6, z6.lt⟩, m3, Lib.hid (by go_grown)⟩
  case rest =>
    obtain ⟨b12, f3, t3, hf3, ht3, of3, ot3, rfl, R12, m3, hE⟩ := hcut
    have cells := Lib.hid (show ∀ w' : World, Below wc.heap.size wc w' → (w'.cell? ⟨w1.heap.size, 0, none⟩ = some (.string fr) ∧ w'.cell? ⟨w1.heap.size, 1, none⟩ = some (.string tt) ∧ w'.cell? ⟨w1.heap.size, 2, none⟩ = some (.bool hf) ∧ w'.cell? ⟨w1.heap.size, 3, none⟩ = some (.bool ht) ∧ w'.cell? ⟨w1.heap.size, 4, none⟩ = some (.bool of) ∧ w'.cell? ⟨w1.heap.size, 5, none⟩ = some (.bool ot) ∧ w'.cell? ⟨w2.heap.size, 0, none⟩ = some (.string f1) ∧ w'.cell? ⟨w2.heap.size, 1, none⟩ = some (.string t1) ∧ w'.cell? ⟨w2.heap.size, 2, none⟩ = some (.bool hf1) ∧ w'.cell? ⟨w2.heap.size, 3, none⟩ = some (.bool ht1) ∧ w'.cell? ⟨w2.heap.size, 4, none⟩ = some (.bool of1) ∧ w'.cell? ⟨w2.heap.size, 5, none⟩ = some (.bool ot1) ∧ w'.cell? ⟨w3.heap.size, 0, none⟩ = some (.string f2) ∧ w'.cell? ⟨w3.heap.size, 1, none⟩ = some (.string t2) ∧ w'.cell? ⟨w3.heap.size, 2, none⟩ = some (.bool hf2) ∧ w'.cell? ⟨w3.heap.size, 3, none⟩ = some (.bool ht2) ∧ w'.cell? ⟨w3.heap.size, 4, none⟩ = some (.bool of2) ∧ w'.cell? ⟨w3.heap.size, 5, none⟩ = some (.bool ot2) ∧ w'.cell? ⟨b12, 0, none⟩ = some (.string f3) ∧ w'.cell? ⟨b12, 1, none⟩ = some (.string t3) ∧ w'.cell? ⟨b12, 2, none⟩ = some (.bool hf3) ∧ w'.cell? ⟨b12, 3, none⟩ = some (.bool ht3) ∧ w'.cell? ⟨b12, 4, none⟩ = some (.bool of3) ∧ w'.cell? ⟨b12, 5, none⟩ = some (.bool ot3)) from fun w' hb => by
      have hD : Below wD.heap.size wD w' := hE.out.trans (hb.mono hE.out.size)
      obtain ⟨x0, x1, x2, x3, x4, x5⟩ := K9.out w' hD
      obtain ⟨y0, y1, y2, y3, y4, y5⟩ := K10.out w' hD
      obtain ⟨z0, z1, z2, z3, z4, z5⟩ := K11.out w' hD
      obtain ⟨v0, v1, v2, v3, v4, v5⟩ := R12.out.1.below hb R12.out.2
      exact ⟨x0, x1, x2, x3, x4, x5, y0, y1, y2, y3, y4, y5, z0, z1, z2, z3, z4, z5, v0, v1, v2, v3, v4, v5⟩)
    obtain ⟨C, hC⟩ : ∃ C : ByteArray → ByteArray → Bool → Bool → Bool → Bool → Nat, C = fun f t a b c d => (inR f t a b c d l).length := ⟨_, rfl⟩
    have HCt := Lib.hid (show ∀ (W : World), Below wc.heap.size wc W → ∀ (f t : ByteArray) (b1 b2 b3 b4 : Bool), Calls Try.prog 39 #[.pointer (some ⟨a, 0, none⟩), .agg #[.string f, .string t, .bool b1, .bool b2, .bool b3, .bool b4]] W fun e w' => e = .returned (.int .i64 (C f t b1 b2 b3 b4)) ∧ Hid (Below W.heap.size W w') from fun W hb f t b1 b2 b3 b4 => by
      rw [hC]
      exact count39 ((TD.out.below hE.out).below hb) (by have := HL.out; omega) f t b1 b2 b3 b4)
    have HLn := Lib.hid (show ∀ (W : World), Below wc.heap.size wc W → Calls Try.prog 40 #[.pointer (some ⟨a, 0, none⟩)] W fun e w' => e = .returned (.int .i64 l.length) ∧ W = w' from fun W hb => len_ownS ((TD.out.below hE.out).below hb))
    have BW := Lib.hid (show Below w.heap.size w wc from BWD.out.trans (hE.out.mono BWD.out.size))
    have hs1 : C f1 t1 hf1 ht1 of1 ot1 + C f3 t3 hf3 ht3 of3 ot3 + C f2 t2 hf2 ht2 of2 ot2 = C fr tt hf ht of ot := by rw [hC]; exact splits_len m1.out m2.out m3.out l
    have hle : C fr tt hf ht of ot ≤ 200 := by rw [hC]; exact Nat.le_trans (List.length_filter_le _ _) HL.out
    have hall : C ⟨#[]⟩ ⟨#[]⟩ false false false false = l.length := by rw [hC]; exact all_len l
    have hw1 : IntKind.i64.wrap ((C f1 t1 hf1 ht1 of1 ot1 : Int) + (C f3 t3 hf3 ht3 of3 ot3 : Int)) = (C f1 t1 hf1 ht1 of1 ot1 : Int) + (C f3 t3 hf3 ht3 of3 ot3 : Int) := by rw [IntKind.wrap_i64]; omega
    have hw2 : IntKind.i64.wrap ((C f1 t1 hf1 ht1 of1 ot1 : Int) + (C f3 t3 hf3 ht3 of3 ot3 : Int) + (C f2 t2 hf2 ht2 of2 ot2 : Int)) = (C fr tt hf ht of ot : Int) := by rw [IntKind.wrap_i64]; omega
    have hq : ((C ⟨#[]⟩ ⟨#[]⟩ false false false false : Int) == (l.length : Int)) = true := by rw [hall]; simp
    have hb := below_drew1 wc
    have hs := hb.size
    clear m1 m2 m3 hC K9 K10 K11 L1 hE R12 TD HL hs1 hle hall BWD
    go_upto_region 8 with fail
    go_region_held3 (fun w' : World => w'.cell? ⟨w1.heap.size, 0, none⟩ = some (.string fr) ∧ w'.cell? ⟨w1.heap.size, 1, none⟩ = some (.string tt) ∧ w'.cell? ⟨w1.heap.size, 2, none⟩ = some (.bool hf) ∧ w'.cell? ⟨w1.heap.size, 3, none⟩ = some (.bool ht) ∧ w'.cell? ⟨w1.heap.size, 4, none⟩ = some (.bool of) ∧ w'.cell? ⟨w1.heap.size, 5, none⟩ = some (.bool ot) ∧ w'.cell? ⟨w2.heap.size, 0, none⟩ = some (.string f1) ∧ w'.cell? ⟨w2.heap.size, 1, none⟩ = some (.string t1) ∧ w'.cell? ⟨w2.heap.size, 2, none⟩ = some (.bool hf1) ∧ w'.cell? ⟨w2.heap.size, 3, none⟩ = some (.bool ht1) ∧ w'.cell? ⟨w2.heap.size, 4, none⟩ = some (.bool of1) ∧ w'.cell? ⟨w2.heap.size, 5, none⟩ = some (.bool ot1) ∧ w'.cell? ⟨w3.heap.size, 0, none⟩ = some (.string f2) ∧ w'.cell? ⟨w3.heap.size, 1, none⟩ = some (.string t2) ∧ w'.cell? ⟨w3.heap.size, 2, none⟩ = some (.bool hf2) ∧ w'.cell? ⟨w3.heap.size, 3, none⟩ = some (.bool ht2) ∧ w'.cell? ⟨w3.heap.size, 4, none⟩ = some (.bool of2) ∧ w'.cell? ⟨w3.heap.size, 5, none⟩ = some (.bool ot2) ∧ w'.cell? ⟨b12, 0, none⟩ = some (.string f3) ∧ w'.cell? ⟨b12, 1, none⟩ = some (.string t3) ∧ w'.cell? ⟨b12, 2, none⟩ = some (.bool hf3) ∧ w'.cell? ⟨b12, 3, none⟩ = some (.bool ht3) ∧ w'.cell? ⟨b12, 4, none⟩ = some (.bool of3) ∧ w'.cell? ⟨b12, 5, none⟩ = some (.bool ot3))
      ((refine cells.out _ ?_; go_grown))
      (first
        | (go_at_call 39; refine (HCt.out _ (by go_grown) _ _ _ _ _ _).mono ?_; rintro e w6 ⟨rfl, h6⟩; have hb6 := bt h6.out (show Below wc.heap.size wc _ by go_grown); have hs6 := hb6.size)
        | (go_at_call 40; refine (HLn.out _ (by go_grown)).mono ?_; rintro e w7 ⟨rfl, rfl⟩)
        | (go_at_call 23; refine (hsu.out _).mono ?_; rintro e w8 ⟨rfl, h8⟩; have hb8 := bt h8.out (show Below wc.heap.size wc _ by go_grown)))
    all_goals
      go_wp2_with fail
      go_ret
      exact ⟨rfl, Lib.hid (BW.out.trans (hb8.mono BW.out.size))⟩

end Go.Proofs.Ytcidmaeclonilaa
