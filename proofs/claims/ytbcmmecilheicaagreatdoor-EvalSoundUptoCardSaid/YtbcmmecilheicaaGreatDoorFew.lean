/- few. -/
import Derived.Test.YtbcmmecilheicaaGreatDoorEvE
namespace Go.Proofs.YtbcmmecilheicaaGreatDoor
open Go Go.RowKit

/-- some number comes back -/
def SomeN (w : World) (e : Ending) (w' : World) : Prop := ∃ k : Int, e = .returned (.int .i64 k) ∧ Hid (Below w.heap.size w w')

set_option maxRecDepth 100000 in
set_option maxHeartbeats 4000000 in
theorem few6 {W0 : World} {x : Ex} {A : Option Addr} {n c : Nat} (h : ExIs W0 x A n c) : ∀ W (deep most : Int), Below W0.heap.size W0 W → Calls Tryz.prog 7 #[exAgg x A n c, .int .i64 deep, .int .i64 most] W (SomeN W) := by
  induction h with
  | mk op kind col v args A n c len small tx b off hA As ns cs cells sub ih =>
    intro W deep most hW
    show Calls Tryz.prog 7 #[.agg #[.string op, .int .i64 kind, .int .i64 col, .int .i64 v.kind, .int .i64 v.int, .string v.text, .bool v.bool, .slice A n c], .int .i64 deep, .int .i64 most] W _
    have hn9 : n ≤ 1466015503701 := by unfold TB at small; omega
    have HW := Lib.hid hW
    have HA := Lib.hid hA
    have HC := Lib.hid cells
    have HI := Lib.hid ih
    have HL := Lib.hid len
    clear hW hA cells ih len small tx sub
    by_cases hd : 100 < deep
    · go_enter Tryz.func7, Tryz.ntmps7
      go_wp2
      go_ret
      exact ⟨_, rfl, Lib.hid (below_alloc _ _)⟩
    · go_enter Tryz.func7, Tryz.ntmps7
      go_upto_region 4 with fail
      obtain ⟨w1, hw1⟩ : ∃ y, y = W.alloc (.cells #[.string op, .int .i64 kind, .int .i64 col, .int .i64 v.kind, .int .i64 v.int, .string v.text, .bool v.bool, .slice A n c] 38) := ⟨_, rfl⟩
      have Z1 := Lib.hid (show Blk w1 W.heap.size 38 #[.string op, .int .i64 kind, .int .i64 col, .int .i64 v.kind, .int .i64 v.int, .string v.text, .bool v.bool, .slice A n c] by rw [hw1]; exact Blk.new W 38 _)
      have B1 := Lib.hid (show Below W.heap.size W w1 by rw [hw1]; exact below_alloc _ _)
      rw [← hw1]
      clear hw1
      go_wp2_with fail
      go_loopg [7, 8] n (fun kx s7 s8 wr => ∃ (i : Nat) (k : Int), s7 = .int .i64 k ∧ s8 = .int .i64 i ∧ kx + i = n ∧ Hid (Below w1.heap.size w1 wr))
      case atStart => exact ⟨0, 1, rfl, rfl, rfl, Lib.hid (Below.refl _ _)⟩
      case round =>
        obtain ⟨i, k, rfl, rfl, hk, I⟩ := hrel
        have z7 := (Z1.out.below I.out).cell 7
        by_cases hi : i < n
        · have hiz : (i : Int) < (n : Int) := by omega
          by_cases hm : k < most
          · obtain ⟨e, he⟩ : ∃ e, args[i]? = some e := ⟨_, List.getElem?_eq_getElem (by rw [HL.out]; exact hi)⟩
            obtain ⟨hAe, hbl⟩ := HA.out (by omega)
            subst hAe
            have bwr : Below W0.heap.size W0 wr := bt I.out (bt B1.out HW.out)
            obtain ⟨c0, c1, c2, c3, c4, c5, c6, c7⟩ := (HC.out i e he).below hbl bwr
            have hi0 : (0 : Int) ≤ (i : Int) := by omega
            have hx96 : (i : Int) < 1466015503701 := by omega
            have call := Lib.hid (fun d m => HI.out i e he wr d m bwr)
            have BB := Lib.hid I.out
            clear he bwr I
            go_wp2_with fail
            refine (call.out _ _).mono ?_
            clear call c0 c1 c2 c3 c4 c5 c6 c7
            rintro e2 w2 ⟨k2, rfl, h2⟩
            have B2 := Lib.hid (bt h2.out BB.out)
            clear h2
            go_wp2_with fail
            go_roundg (gk - 1)
            case measure => omega
            case rel => exact ⟨i + 1, _, rfl, by first | rfl | (simp; done), by omega, B2⟩
          · go_wp2_with fail
            go_ret
            exact ⟨_, rfl, Lib.hid (bt I.out B1.out)⟩
        · have hiz : ¬ (i : Int) < (n : Int) := by omega
          go_wp2_with fail
          go_ret
          exact ⟨_, rfl, Lib.hid (bt I.out B1.out)⟩

end Go.Proofs.YtbcmmecilheicaaGreatDoor
