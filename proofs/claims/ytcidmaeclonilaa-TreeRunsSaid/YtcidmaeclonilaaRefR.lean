/- ref12.Put at the nil list. -/
import Derived.Test.YtcidmaeclonilaaRefP
namespace Go.Proofs.Ytcidmaeclonilaa
open Go Go.RowKit

theorem app_none (W : World) {A : Option Addr} {n c : Nat} (hn : n ≤ c) : (Builtin.append_ #[61, 61] 61 #[.slice A n c, .slice none 0 0]).run Try.prog W = .ok (.slice A n c) W := by
  obtain ⟨i, hi, hz, hsz, hby⟩ := info81
  cases A <;> simp [Builtin.append_, run_underlying Try.underlying61, sizeOf, typeInfo, hi, Builtin.lenOf, Builtin.firstCells, hn, storeCells, loadCells, loadCellsFrom]

set_option maxHeartbeats 4000000 in
set_option maxRecDepth 100000 in
theorem put46_nil (w : World) (key z3 : ByteArray) (hat : Calls Try.prog 76 #[.slice none 0 0, .string key] w fun e w' => e = .returned (.tuple #[.int .i64 0, .bool false]) ∧ ∃ q, w' = w.drewN q) :
    Calls Try.prog 46 #[.slice none 0 0, .string key, .string z3] w (PutPost w w.heap.size [] (ins key (.string z3) []) key) := by
  have HAT := Lib.hid hat
  clear hat
  go_enter Try.func46, Try.ntmps46
  go_wp2_with fail
  refine HAT.out.mono ?_
  clear HAT
  rintro e w1 ⟨rfl, q, rfl⟩
  have hr1 := app_none (w.drewN q) (A := none) (n := 0) (c := 0) (Nat.le_refl _)
  have hbw : Below w.heap.size w ((w.drewN q).alloc (.cells #[.string key, .string z3] 81)) := (below_drewN' (Below.refl _ w) q).alloc (Nat.le_refl _) _
  obtain ⟨A2, c2, w3, hr2, own2, gr2⟩ := app_part (OwnR.nil ((w.drewN q).alloc (.cells #[.string key, .string z3] 81)) w.heap.size) hbw.size ⟨w.heap.size, 0, none⟩ 1 1 [(key, .string z3)] rfl (fun p hp => by
    obtain rfl : p = (key, .string z3) := by simpa using hp
    exact ⟨_, rfl⟩) (fun j u hj => by
    rw [add_lit0, (show Blk ((w.drewN q).alloc (.cells #[.string key, .string z3] 81)) w.heap.size 81 #[.string key, .string z3] from Blk.new (w.drewN q) 81 _).cell]
    simpa [cellsP] using hj) (by omega)
  have hb3 := Lib.hid (grown_below hbw gr2 (fun k hk => by simp [Value.ownBlock] at hk))
  have hc2 : 1 ≤ c2 := by
    rcases own2.form with ⟨-, h, -⟩ | ⟨g, -, h, -⟩
    · simp at h
    · simpa using h
  have F := Lib.hid (show OwnR w3 w.heap.size A2 1 c2 (ins key (.string z3) []) from by simpa [ins] using own2)
  rw [Nat.zero_add] at hr2
  have hr3 := app_none w3 (A := A2) (n := 1) (c := c2) hc2
  clear own2 gr2 hbw
  go_wp2_with (at_builtin; first | (refine wpList_append_runI _ rfl _ _ 61 61 rfl (.slice none 0 0) (.slice none 0 0) rfl rfl hr1 ?_) | (refine wpList_append_runI _ rfl _ _ 61 61 rfl (.slice none 0 0) (.slice (some ⟨w.heap.size, 0, none⟩) 1 1) rfl rfl hr2 ?_) | (refine wpList_append_runI _ rfl _ _ 61 61 rfl (.slice A2 1 c2) (.slice none 0 0) rfl rfl hr3 ?_))
  go_ret3
  exact ⟨_, _, _, rfl, F, hb3⟩

end Go.Proofs.Ytcidmaeclonilaa
