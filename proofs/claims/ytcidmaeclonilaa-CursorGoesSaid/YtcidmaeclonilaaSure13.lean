/- barbicanlaw13.sure: the walk. -/
import Derived.Test.YtcidmaeclonilaaText2
namespace Go.Proofs.Ytcidmaeclonilaa
open Go Go.RowKit

theorem klt_of_lists {a b : List UInt8} : klt ⟨a.toArray⟩ ⟨b.toArray⟩ = Op.bytesLess a b := by
  unfold klt
  rw [ByteArray.toList_eq, ByteArray.toList_eq]

set_option maxRecDepth 100000 in
set_option maxHeartbeats 4000000 in
theorem sure23 (w : World) : Calls Try.prog 23 #[] w fun e w' => e = .returned (.bool true) ∧ Hid (Below w.heap.size w w') := by
  have n1 : narB true ⟨#[97]⟩ true false ⟨#[97]⟩ true true = (⟨#[97]⟩, true, true) := by simp [narB]
  have n2 : narB false ⟨#[99]⟩ true false ⟨#[98]⟩ true false = (⟨#[98]⟩, true, false) := by
    have h : klt ⟨#[99]⟩ ⟨#[98]⟩ = false := klt_of_lists (a := [99]) (b := [98])
    have hne : (⟨#[99]⟩ : ByteArray) ≠ ⟨#[98]⟩ := by intro h; injection h with h; exact absurd h (by decide)
    simp [narB, h, hne]
  have hmeet := Lib.hid (show ∀ w1, Calls Try.prog 18 #[.agg #[.string ⟨#[97]⟩, .string ⟨#[99]⟩, .bool true, .bool true, .bool false, .bool false], .agg #[.string ⟨#[97]⟩, .string ⟨#[98]⟩, .bool true, .bool true, .bool true, .bool false]] w1 fun e w' =>
      e = .returned (.agg #[.string ⟨#[97]⟩, .string ⟨#[98]⟩, .bool true, .bool true, .bool true, .bool false]) ∧ Hid (Below w1.heap.size w1 w') from fun w1 => (meet18 w1 _ _ _ _ _ _ _ _ _ _ _ _).mono fun e w' ⟨f, t, hf, ht, of, ot, he, h1, h2⟩ => by
    have h := h1.out
    rw [n1, n2] at h
    obtain ⟨ha, hb⟩ := h
    injection ha with a1 a2
    injection a2 with a2 a3
    injection hb with b1 b2
    injection b2 with b2 b3
    subst a1 a2 a3 b1 b2 b3
    exact ⟨he, h2⟩)
  have htext := Lib.hid (show ∀ w1, Calls Try.prog 16 #[.agg #[.string ⟨#[97]⟩, .string ⟨#[]⟩, .bool true, .bool false, .bool false, .bool false]] w1 fun e w' =>
      e = .returned (.string ⟨#[91, 54, 49, 44, 41]⟩) ∧ Hid (Below w1.heap.size w1 w') from fun w1 => (text16 w1 _ _ _ _ _ _ (by decide) (by decide)).mono fun e w' h => ⟨h.1.trans (by rfl), h.2⟩)
  clear n1 n2
  go_enter Try.func23, Try.ntmps23
  go_wp2_with fail
  refine (hmeet.out _).mono ?_
  rintro e w1 ⟨rfl, h1⟩
  have B1 := Lib.hid h1.out
  clear h1
  go_wp2_with fail
  refine (htext.out _).mono ?_
  rintro e w2 ⟨rfl, h2⟩
  have hb : Blk w2 w1.heap.size 24 #[.string ⟨#[97]⟩, .string ⟨#[98]⟩, .bool true, .bool true, .bool true, .bool false] := by
    have b := Blk.new w1 24 #[.string ⟨#[97]⟩, .string ⟨#[98]⟩, .bool true, .bool true, .bool true, .bool false]
    exact (h2.out.block _ b.lt).trans b
  have B2 := Lib.hid (show Below w.heap.size w w2 from (B1.out.alloc B1.out.size _).trans (h2.out.mono (by have := B1.out.size; rw [World.size_alloc]; omega)))
  have c0 := hb.cell 0
  have c1 := hb.cell 1
  have c2 := hb.cell 2
  have c3 := hb.cell 3
  have c4 := hb.cell 4
  have c5 := hb.cell 5
  simp only [List.getElem?_toArray, List.getElem?_cons_zero, List.getElem?_cons_succ] at c0 c1 c2 c3 c4 c5
  clear hb h2 B1
  go_wp2
  go_ret
  exact ⟨rfl, B2⟩

end Go.Proofs.Ytcidmaeclonilaa
