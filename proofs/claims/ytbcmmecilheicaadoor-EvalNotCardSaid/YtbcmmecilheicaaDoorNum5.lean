/- num at the errno 7. -/
import Derived.Test.YtbcmmecilheicaaDoorAs
import Derived.Test.YtbcmmecilheicaaDoorVal2
namespace Go.Proofs.YtbcmmecilheicaaDoor
open Go Go.RowKit
/-- errors.errorType, as it is laid -/
abbrev ErrT (w : World) : Prop := w.cell? ⟨0, 0, none⟩ = some (.iface 67 (.agg #[.pointer (some ⟨2, 27, none⟩)]))
theorem ErrT.lt {w : World} (h : ErrT w) : 0 < w.heap.size := World.block_lt_of_cell? _ _ h
set_option maxRecDepth 100000 in
set_option maxHeartbeats 2000000 in
theorem num5 (w : World) (hg : ErrT w) : Calls Tryd.prog 5 #[.iface 39 (.int .i64 7)] w fun e w' => e = .returned (.int .i64 7) ∧ Hid (Below w.heap.size w w') := by
  have hlt := hg.lt
  have hg1 : ErrT (w.alloc (.cells #[.int .i64 0] 39)) := by
    show World.cell? _ _ = _
    rw [World.cell?_alloc_lt _ _ ⟨0, 0, none⟩ hlt]; exact hg
  have hc := as_hit 7 ⟨w.heap.size, 0, none⟩ (.int .i64 0) (w.alloc (.cells #[.int .i64 0] 39)) hg1 (by simp) (by simp)
  go_enter Tryd.func5, Tryd.ntmps5
  go_wp2_with (go_at_call 8; refine hc.mono ?_; rintro e w' ⟨rfl, rfl⟩)
  go_ret
  exact ⟨rfl, Lib.hid (by go_grown)⟩
end Go.Proofs.YtbcmmecilheicaaDoor
