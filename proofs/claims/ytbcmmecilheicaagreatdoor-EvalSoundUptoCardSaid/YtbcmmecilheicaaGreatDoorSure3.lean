/- law21.sure. -/
import Derived.Test.YtbcmmecilheicaaGreatDoorSure2
namespace Go.Proofs.YtbcmmecilheicaaGreatDoor
open Go Go.RowKit

def sL0 : Ex := .mk ⟨#[108, 105, 116]⟩ 0 0 Val.null []
def sL3 : Ex := .mk ⟨#[108, 105, 116]⟩ 3 0 ⟨3, 0, ⟨#[]⟩, false⟩ []
def sX : Ex := .mk ⟨#[97, 110, 100]⟩ 3 0 Val.null [sL0, sL3]
theorem sX_eval : evalP E0 sX = (Val.ofBool false, none) := by
  unfold sX sL0 sL3
  rw [evalP_mk, evalL_cons, evalP_mk, evo_lit, evalL_cons, evalP_mk, evo_lit, evalL_nil, evo_and]
  simp only [List.length_cons, List.length_nil, Nat.zero_add, Nat.reduceAdd, if_true, biTail, biP_and]
  rfl
def sArgs : Array Value := #[.string ⟨#[108, 105, 116]⟩, .int .i64 0, .int .i64 0, .int .i64 0, .int .i64 0, .string ⟨#[]⟩, .bool false, .slice none 0 0, .string ⟨#[108, 105, 116]⟩, .int .i64 3, .int .i64 0, .int .i64 3, .int .i64 0, .string ⟨#[]⟩, .bool false, .slice none 0 0]
theorem sC {W : World} {g : Nat} (z : Blk W g 51 sArgs) : ∀ (j : Nat) (e : Ex), [sL0, sL3][j]? = some e → ExC W g (0 + j * 8) e none 0 0 := fun j e hj => by
  match j, hj with
  | 0, hj => obtain rfl : sL0 = e := by simpa using hj
             exact ⟨z.cell 0, z.cell 1, z.cell 2, z.cell 3, z.cell 4, z.cell 5, z.cell 6, z.cell 7⟩
  | 1, hj => obtain rfl : sL3 = e := by simpa using hj
             exact ⟨z.cell 8, z.cell 9, z.cell 10, z.cell 11, z.cell 12, z.cell 13, z.cell 14, z.cell 15⟩
  | j + 2, hj => simp at hj
theorem leafIs (W : World) (op : ByteArray) (kind col : Int) (v : Val) (tx : v.text.size ≤ TB) : ExIs W (.mk op kind col v []) none 0 0 :=
  .mk op kind col v [] none 0 0 rfl (by unfold TB; omega) tx 0 0 (fun h => by omega) (fun _ => none) (fun _ => 0) (fun _ => 0) (fun j e hj => by simp at hj) (fun j e hj => by simp at hj)
theorem sIs {W : World} {g : Nat} (z : Blk W g 51 sArgs) : ExIs W sX (some ⟨g, 0, none⟩) 2 2 :=
  .mk _ 3 0 Val.null [sL0, sL3] _ 2 2 rfl (by unfold TB; omega) (by unfold TB; exact Nat.zero_le _) g 0 (fun _ => ⟨rfl, z.lt⟩) (fun _ => none) (fun _ => 0) (fun _ => 0) (sC z) (fun j e hj => by
    match j, hj with
    | 0, hj => obtain rfl : sL0 = e := by simpa using hj
               exact leafIs W _ _ _ _ (by unfold TB; exact Nat.zero_le _)
    | 1, hj => obtain rfl : sL3 = e := by simpa using hj
               exact leafIs W _ _ _ _ (by unfold TB; exact Nat.zero_le _)
    | j + 2, hj => simp at hj)
theorem lit_no : ∀ y ∈ aggs, ((⟨#[108, 105, 116]⟩ : ByteArray).toList == y.toList) = false := by
  intro y hy
  simp only [aggs, List.mem_cons, List.not_mem_nil, or_false] at hy
  rcases hy with rfl | rfl | rfl | rfl | rfl <;> kernel_rfl
theorem and_no : ∀ y ∈ aggs, ((⟨#[97, 110, 100]⟩ : ByteArray).toList == y.toList) = false := by
  intro y hy
  simp only [aggs, List.mem_cons, List.not_mem_nil, or_false] at hy
  rcases hy with rfl | rfl | rfl | rfl | rfl <;> kernel_rfl
theorem leafNo (W : World) (kind col : Int) (v : Val) : AggNo (.mk ⟨#[108, 105, 116]⟩ kind col v []) none 0 0 W :=
  agg33 W _ kind col v [] none 0 0 0 0 lit_no rfl (by omega) (fun h => by omega) (fun _ => none) (fun _ => 0) (fun _ => 0) (fun j e hj => by simp at hj) (fun j e hj => by simp at hj)
theorem leafCon (W : World) (kind col : Int) (v : Val) : ConY (.mk ⟨#[108, 105, 116]⟩ kind col v []) none 0 0 W :=
  const18 W _ kind col v [] none 0 0 0 0 (by kernel_rfl) (by kernel_rfl) (fun W2 _ => leafNo W2 kind col v) rfl (by omega) (fun h => by omega) (fun _ => none) (fun _ => 0) (fun _ => 0) (fun j e hj => by simp at hj) (fun j e hj => by simp at hj)
theorem sCon {W : World} {g : Nat} (z : Blk W g 51 sArgs) : ConY sX (some ⟨g, 0, none⟩) 2 2 W := by
  have two : ∀ (P : Ex → Prop), P sL0 → P sL3 → ∀ (j : Nat) (e : Ex), [sL0, sL3][j]? = some e → P e := fun P h0 h3 j e hj => by
    match j, hj with
    | 0, hj => obtain rfl : sL0 = e := by simpa using hj
               exact h0
    | 1, hj => obtain rfl : sL3 = e := by simpa using hj
               exact h3
    | j + 2, hj => simp at hj
  refine const18 W _ 3 0 Val.null [sL0, sL3] _ 2 2 g 0 (by kernel_rfl) (by kernel_rfl) (fun W2 h2 => ?_) rfl (by omega) (fun _ => ⟨rfl, z.lt⟩) (fun _ => none) (fun _ => 0) (fun _ => 0) (sC z) (fun j e hj => two (fun e => ∀ W2, Below W.heap.size W W2 → ConY e none 0 0 W2) (fun W2 _ => leafCon W2 _ _ _) (fun W2 _ => leafCon W2 _ _ _) j e hj)
  have z2 := z.below h2
  exact agg33 W2 _ 3 0 Val.null [sL0, sL3] _ 2 2 g 0 and_no rfl (by omega) (fun _ => ⟨rfl, z2.lt⟩) (fun _ => none) (fun _ => 0) (fun _ => 0) (sC z2) (fun j e hj => two (fun e => ∀ W3, Below W2.heap.size W2 W3 → AggNo e none 0 0 W3) (fun W3 _ => leafNo W3 _ _ _) (fun W3 _ => leafNo W3 _ _ _) j e hj)

set_option maxRecDepth 100000 in
set_option maxHeartbeats 4000000 in
theorem sure7 (w : World) : Calls Tryz.prog 9 #[] w fun e w' => e = .returned (.bool true) ∧ Hid (Below w.heap.size w w') := by
  obtain ⟨W1, hW1⟩ : ∃ y, y = (w.alloc (.cells sArgs 51)).alloc (.cells #[.string ⟨#[97, 110, 100]⟩, .int .i64 3, .int .i64 0, .int .i64 0, .int .i64 0, .string ⟨#[]⟩, .bool false, .slice (some ⟨w.heap.size, 0, none⟩) 2 2] 51) := ⟨_, rfl⟩
  have za : Blk W1 w.heap.size 51 sArgs := by rw [hW1]; exact (blk_new' (w := w) rfl rfl).alloc _
  have zx : Blk W1 (w.heap.size + 1) 51 #[.string ⟨#[97, 110, 100]⟩, .int .i64 3, .int .i64 0, .int .i64 0, .int .i64 0, .string ⟨#[]⟩, .bool false, .slice (some ⟨w.heap.size, 0, none⟩) 2 2] := by rw [hW1]; exact blk_new' (w := w.alloc _) rfl (by simp)
  have bW : Below w.heap.size w W1 := by rw [hW1]; exact bt (below_alloc _ _) (below_alloc _ _)
  have hc := const17 (sIs za)
  rw [sX_eval] at hc
  have HC : Hid (Calls Tryz.prog 37 #[.agg #[.string ⟨#[97, 110, 100]⟩, .int .i64 3, .int .i64 0, .int .i64 0, .int .i64 0, .string ⟨#[]⟩, .bool false, .slice (some ⟨w.heap.size, 0, none⟩) 2 2]] W1 fun e w' => e = .returned (.tuple #[.agg #[.int .i64 3, .int .i64 0, .string ⟨#[]⟩, .bool false], .nilIface]) ∧ Hid (Below W1.heap.size W1 w')) := Lib.hid hc
  have HK : Hid (∀ W2, Below W1.heap.size W1 W2 → Calls Tryz.prog 38 #[.agg #[.string ⟨#[97, 110, 100]⟩, .int .i64 3, .int .i64 0, .int .i64 0, .int .i64 0, .string ⟨#[]⟩, .bool false, .slice (some ⟨w.heap.size, 0, none⟩) 2 2]] W2 fun e w' => e = .returned (.bool true) ∧ Hid (Below W2.heap.size W2 w')) := Lib.hid (fun W2 h2 => sCon (za.below h2))
  have ZX := Lib.hid zx
  have BW := Lib.hid bW
  have HW := Lib.hid hW1
  clear hc za zx bW hW1
  go_enter Tryz.func9, Tryz.ntmps9
  go_upto_region 2 with fail
  rw [show ((w.alloc (.cells #[.string ⟨#[108, 105, 116]⟩, .int .i64 0, .int .i64 0, .int .i64 0, .int .i64 0, .string ⟨#[]⟩, .bool false, .slice none 0 0, .string ⟨#[108, 105, 116]⟩, .int .i64 3, .int .i64 0, .int .i64 3, .int .i64 0, .string ⟨#[]⟩, .bool false, .slice none 0 0] 51)).alloc (.cells #[.string ⟨#[97, 110, 100]⟩, .int .i64 3, .int .i64 0, .int .i64 0, .int .i64 0, .string ⟨#[]⟩, .bool false, .slice (some ⟨w.heap.size, 0, none⟩) 2 2] 51)) = W1 from HW.out.symm]
  have x0 := ZX.out.cell 0
  have x1 := ZX.out.cell 1
  have x2 := ZX.out.cell 2
  have x3 := ZX.out.cell 3
  have x4 := ZX.out.cell 4
  have x5 := ZX.out.cell 5
  have x6 := ZX.out.cell 6
  have x7 := ZX.out.cell 7
  go_wp2_with fail
  refine HC.out.mono ?_
  clear x0 x1 x2 x3 x4 x5 x6 x7
  rintro e w2 ⟨rfl, h2⟩
  have z2 := ZX.out.below h2.out
  have x0 := z2.cell 0
  have x1 := z2.cell 1
  have x2 := z2.cell 2
  have x3 := z2.cell 3
  have x4 := z2.cell 4
  have x5 := z2.cell 5
  have x6 := z2.cell 6
  have x7 := z2.cell 7
  have hl := z2.lt
  have K2 := Lib.hid (HK.out (w2.alloc (.cells #[.int .i64 3, .int .i64 0, .string ⟨#[]⟩, .bool false] 26)) (bt (below_alloc _ _) h2.out))
  have B2 := Lib.hid (bt h2.out BW.out)
  clear z2 h2
  go_wp2_with fail
  refine K2.out.mono ?_
  rintro e w3 ⟨rfl, h3⟩
  have B3 := Lib.hid (bt h3.out.from1 B2.out)
  clear x0 x1 x2 x3 x4 x5 x6 x7 h3
  go_wp2_with fail
  go_ret
  exact ⟨rfl, B3⟩

end Go.Proofs.YtbcmmecilheicaaGreatDoor
