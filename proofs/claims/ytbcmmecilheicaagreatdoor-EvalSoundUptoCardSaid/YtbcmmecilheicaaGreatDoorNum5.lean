/- num at an errno. -/
import Derived.Test.YtbcmmecilheicaaGreatDoorAs
import Derived.Test.YtbcmmecilheicaaGreatDoorVal2
namespace Go.Proofs.YtbcmmecilheicaaGreatDoor
open Go Go.RowKit
/-- errors.errorType, as it is laid -/
abbrev ErrT (w : World) : Prop := w.cell? ⟨0, 0, none⟩ = some (.iface 213 (.agg #[.pointer (some ⟨2, 45, none⟩)]))
theorem ErrT.lt {w : World} (h : ErrT w) : 0 < w.heap.size := World.block_lt_of_cell? _ _ h
theorem ErrT.below {w w' : World} (h : ErrT w) (hb : Below w.heap.size w w') : ErrT w' := (hb.cell (p := ⟨0, 0, none⟩) h.lt).trans h
set_option maxRecDepth 100000 in
set_option maxHeartbeats 2000000 in
theorem num13 (w : World) (hg : ErrT w) (er : Int) : Calls Tryz.prog 13 #[.iface 111 (.int .i64 er)] w fun e w' => e = .returned (.int .i64 er) ∧ Hid (Below w.heap.size w w') := by
  have hlt := hg.lt
  have hg1 : ErrT (w.alloc (.cells #[.int .i64 0] 111)) := by
    show World.cell? _ _ = _
    rw [World.cell?_alloc_lt _ _ ⟨0, 0, none⟩ hlt]; exact hg
  have hc := as_hit er ⟨w.heap.size, 0, none⟩ (.int .i64 0) (w.alloc (.cells #[.int .i64 0] 111)) hg1 (by simp) (by simp)
  go_enter Tryz.func13, Tryz.ntmps13
  go_wp2_with (go_at_call 43; refine hc.mono ?_; rintro e w' ⟨rfl, rfl⟩)
  go_ret
  exact ⟨rfl, Lib.hid (by go_grown)⟩
end Go.Proofs.YtbcmmecilheicaaGreatDoor
