/- barbicanref13.Text: the walk (printed by mkrefb.py). -/
import Derived.Test.YtcidmaeclonilaaRefA
import Derived.Test.YtcidmaeclonilaaHex
namespace Go.Proofs.Ytcidmaeclonilaa
open Go Go.RowKit

theorem ret_str {a b : ByteArray} (h : a = b) : Ending.returned (.string a) = .returned (.string b) := by rw [h]
theorem box17 (w w1 : World) (fr to : ByteArray) (hf ht of ot : Bool) (hb : Below (w.alloc (.cells #[.string fr, .string to, .bool hf, .bool ht, .bool of, .bool ot] 23)).heap.size (w.alloc (.cells #[.string fr, .string to, .bool hf, .bool ht, .bool of, .bool ot] 23)) w1) :
    w1.cell? ⟨w.heap.size, 0, none⟩ = some (.string fr) ∧ w1.cell? ⟨w.heap.size, 1, none⟩ = some (.string to) ∧ w1.cell? ⟨w.heap.size, 2, none⟩ = some (.bool hf) ∧ w1.cell? ⟨w.heap.size, 3, none⟩ = some (.bool ht) ∧ w1.cell? ⟨w.heap.size, 4, none⟩ = some (.bool of) ∧ w1.cell? ⟨w.heap.size, 5, none⟩ = some (.bool ot) ∧ Below w.heap.size w w1 := by
  have b0 := Blk.new w 23 #[.string fr, .string to, .bool hf, .bool ht, .bool of, .bool ot]
  have b : Blk w1 w.heap.size 23 #[.string fr, .string to, .bool hf, .bool ht, .bool of, .bool ot] := (hb.block _ b0.lt).trans b0
  exact ⟨b.cell 0, b.cell 1, b.cell 2, b.cell 3, b.cell 4, b.cell 5, ((Below.refl _ w).alloc (Nat.le_refl _) _).trans (hb.mono (by simp))⟩

set_option maxRecDepth 100000 in
set_option maxHeartbeats 8000000 in
theorem text17 (w : World) (fr to : ByteArray) (hf ht of ot : Bool) (hs : 2 * fr.size ≤ 60000000000000) (hs2 : 2 * to.size ≤ 60000000000000) :
    Calls Try.prog 17 #[.agg #[.string fr, .string to, .bool hf, .bool ht, .bool of, .bool ot]] w fun e w' => e = .returned (.string ⟨(textL fr to hf ht of ot).toArray⟩) ∧ Hid (Below w.heap.size w w') := by
  have hhex := Lib.hid (fun (w1 : World) (s : ByteArray) (hs : 2 * s.size ≤ 60000000000000) => show Calls Try.prog 57 #[.string s] w1 fun e w' => ∃ S : ByteArray, e = .returned (.string S) ∧ Hid (S = ⟨(hexL s.data.toList).toArray⟩) ∧ (S.size : Int) ≤ 60000000000000 ∧ Hid (Below w1.heap.size w1 w') from
    (hex57 w1 s (by omega)).mono fun e w' hh => ⟨_, hh.1, Lib.hid rfl, by show ((hexL s.data.toList).toArray.size : Int) ≤ _; rw [List.size_toArray, hexL_len, szL]; omega, hh.2⟩)
  have box := Lib.hid (box17 w)
  have HF := Lib.hid hs
  have HT := Lib.hid hs2
  have B0 := Lib.hid ((Below.refl w.heap.size w).alloc (Nat.le_refl _) (.cells #[.string fr, .string to, .bool hf, .bool ht, .bool of, .bool ot] 23))
  clear hs hs2

  cases hf
  · cases ht
    · cases of <;> cases ot
      all_goals
        go_enter Try.func17, Try.ntmps17
        clear box hhex
        go_wp2
        go_ret
        exact ⟨ret_str (by apply ByteArray.ext; simp [textL]), B0⟩
    · cases of <;> cases ot
      all_goals
        go_enter Try.func17, Try.ntmps17
        go_wp2_with fail
        refine (hhex.out _ to HT.out).mono ?_
        rintro e w2 ⟨S2, rfl, E2, z2, hb2⟩
        obtain ⟨d0, d1, d2, d3, d4, d5, hB⟩ := box.out w2 _ _ _ _ _ _ hb2.out
        clear hb2 B0
        have B2 := Lib.hid hB
        clear hB
        clear box hhex
        go_wp2
        go_ret
        exact ⟨ret_str (by have e2 := E2.out; subst e2; apply ByteArray.ext; simp [textL]), B2⟩
  · cases ht
    · cases of <;> cases ot
      all_goals
        go_enter Try.func17, Try.ntmps17
        go_wp2_with fail
        refine (hhex.out _ fr HF.out).mono ?_
        rintro e w1 ⟨S1, rfl, E1, z1, hb⟩
        obtain ⟨c0, c1, c2, c3, c4, c5, hB⟩ := box.out w1 _ _ _ _ _ _ hb.out
        have B1 := Lib.hid hB
        clear hB B0
        clear hb
        clear box hhex
        go_wp2
        go_ret
        exact ⟨ret_str (by have e1 := E1.out; subst e1; apply ByteArray.ext; simp [textL]), B1⟩
    · cases of <;> cases ot
      all_goals
        go_enter Try.func17, Try.ntmps17
        go_wp2_with fail
        refine (hhex.out _ fr HF.out).mono ?_
        rintro e w1 ⟨S1, rfl, E1, z1, hb⟩
        obtain ⟨c0, c1, c2, c3, c4, c5, hB⟩ := box.out w1 _ _ _ _ _ _ hb.out
        have B1 := Lib.hid hB
        clear hB B0
        go_wp2_with fail
        refine (hhex.out _ to HT.out).mono ?_
        rintro e w2 ⟨S2, rfl, E2, z2, hb2⟩
        obtain ⟨d0, d1, d2, d3, d4, d5, hB⟩ := box.out w2 _ _ _ _ _ _ (hb.out.trans (hb2.out.mono hb.out.size))
        clear c0 c1 c2 c3 c4 c5 hb hb2 B1
        have B2 := Lib.hid hB
        clear hB
        clear box hhex
        have q1 : (S1.size : Int) + 10 ≤ 9223372036854775807 := by omega
        go_wp2
        go_ret
        exact ⟨ret_str (by have e1 := E1.out; subst e1; have e2 := E2.out; subst e2; apply ByteArray.ext; simp [textL]), B2⟩

end Go.Proofs.Ytcidmaeclonilaa
