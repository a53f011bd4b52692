/- The walk of barbicanlaw12.TreeShape. -/
import Derived.Test.YtcidmaeclonilaaShapeA
import Derived.Test.YtcidmaeclonilaaSameP
import Derived.Test.YtcidmaeclonilaaTreeNear
import Derived.Deep.RegionHeld3
import Derived.Handy
namespace Go.Proofs.Ytcidmaeclonilaa
open Go Go.RowKit

theorem below_drew2 (w : World) : Below w.heap.size w w.drew := by have hb := Below.refl w.heap.size w; go_grown
theorem blk_lt2 {w : World} {a : Addr} {v : Value} (h : w.cell? a = some v) : a.block < w.heap.size := by
  by_cases hlt : a.block < w.heap.size
  · exact hlt
  · exfalso
    have : w.heap[a.block]? = none := Array.getElem?_eq_none (by omega)
    unfold World.cell? at h
    rw [this] at h
    cases h
theorem row_str2 {w : World} {A : Option Addr} {n c : Nat} {l : List KV} (h : Row w 9 (.slice A n c) (l.map fun p => .string p.1)) : Row w 9 (.slice A n c) ((l.map (·.1)).map Value.string) := by
  rw [List.map_map]; exact h

set_option maxRecDepth 100000 in
set_option maxHeartbeats 8000000 in
theorem treeShape9 (w : World) (A : Option Addr) (n c : Nat) (acts : List (Int × ByteArray × ByteArray)) (hA : ArgA w A n acts) :
    Calls Try.prog 9 #[.slice A n c] w fun e w' => e = .returned (.bool true) ∧ Hid (Below w.heap.size w w') := by
  have hnew := Lib.hid (new_ownS w)
  have hsure := Lib.hid sure25
  have HA := Lib.hid hA
  clear hA
  go_enter Try.func9, Try.ntmps9
  go_wp2_with fail
  refine hnew.out.mono ?_
  rintro e w1 ⟨a, rfl, h1⟩
  clear hnew
  go_wp2_with fail
  go_loopg [4] n (fun kx s4 wr => ∃ (i : Nat) (l : List KV), s4 = .int .i64 i ∧ kx + i = n ∧ i ≤ 300 ∧ Hid (TOwnS w wr a l ∧ l.length ≤ i))
  case atStart => exact ⟨0, [], rfl, rfl, by omega, Lib.hid ⟨h1.out, Nat.le_refl _⟩⟩
  case round =>
    obtain ⟨i, l, rfl, hk, hi3, I⟩ := hrel
    clear h1
    by_cases hi : i < n ∧ i < 300
    · obtain ⟨hi1, hi30⟩ := hi
      have hiz : (i : Int) < (n : Int) := by omega
      have hi3z : (i : Int) < 300 := by omega
      obtain ⟨⟨k, z, v⟩, hact⟩ : ∃ x, acts[i]? = some x := ⟨_, List.getElem?_eq_getElem (by rw [HA.out.len]; exact hi1)⟩
      obtain ⟨ba, off, rfl, hb, e0, e1, e2⟩ := HA.out.at_ i k z v hact
      have d0 : wr.cell? ⟨ba, off + i * 3, none⟩ = some (.int .i64 k) := (I.out.1.world.cell (p := ⟨ba, off + i * 3, none⟩) hb).trans e0
      have d1 : wr.cell? ⟨ba, off + i * 3 + 1, none⟩ = some (.string z) := (I.out.1.world.cell (p := ⟨ba, off + i * 3 + 1, none⟩) hb).trans e1
      have d2 : wr.cell? ⟨ba, off + i * 3 + 2, none⟩ = some (.string v) := (I.out.1.world.cell (p := ⟨ba, off + i * 3 + 2, none⟩) hb).trans e2
      have E1 := Lib.hid e1
      have E2 := Lib.hid e2
      clear e0 e1 e2 hact
      cases hq : (wrap64 ((IntKind.u64.wrap k).tmod 4) == 2) with
      | true =>
        have hc := (drop_ownS I.out.1 z (by have := I.out.2; omega)).mono fun e w' h => (⟨h.1, Lib.hid ⟨h.2.out, by have := del_len_le (k := z) (l := l); have := I.out.2; omega⟩⟩ : e = .returned (.tuple #[(look z l).getD (Value.string ⟨#[]⟩), .bool (look z l).isSome]) ∧ Hid (TOwnS w w' a (del z l) ∧ (del z l).length ≤ i + 1))
        have HC := Lib.hid hc
        clear hc I
        generalize del z l = l4 at *
        generalize (look z l).getD (Value.string ⟨#[]⟩) = rv at *
        generalize (look z l).isSome = rb at *
        go_wp2_with (go_at_call 42; refine HC.out.mono ?_; rintro e w3 ⟨rfl, h3⟩; have hs := Lib.hid (shape_own h3.out.1 (by have := h3.out.2; omega)); have hlen4 := Lib.hid h3.out.2)
        clear HC d0 d1 d2
        refine hs.out.mono ?_
        clear hs
        rintro e w4 ⟨A4, n4, c4, rfl, R4, T4⟩
        have hl4 := Lib.hid (len_ownS T4.out)
        have hsd := Lib.hid (shaped_res R4.out (by have := hlen4.out; omega))
        clear R4
        go_wp2_with fail
        refine hl4.out.mono ?_
        clear hl4
        rintro e w5 ⟨rfl, rfl⟩
        go_wp2_with fail
        refine hsd.out.mono ?_
        clear hsd
        rintro e w5 ⟨rfl, rfl⟩
        go_wp2_with fail
        go_roundg (gk - 1)
        case measure => omega
        case rel => exact ⟨i + 1, l4, rfl, by omega, by omega, Lib.hid ⟨T4.out, hlen4.out⟩⟩
      | false =>
        have hc := (put_ownS (I.out.1.below (below_drew2 wr)) z v (by have := I.out.2; omega)).mono fun e w' h => (⟨h.1, Lib.hid ⟨h.2.out, by have := ins_len_le' (k := z) (v := Value.string v) I.out.1.srt; have := I.out.2; omega⟩⟩ : e = .returned (.tuple #[(look z l).getD (Value.string ⟨#[]⟩), .bool (look z l).isSome]) ∧ Hid (TOwnS w w' a (ins z (Value.string v) l) ∧ (ins z (Value.string v) l).length ≤ i + 1))
        have HC := Lib.hid hc
        clear hc I
        generalize ins z (Value.string v) l = l4 at *
        generalize (look z l).getD (Value.string ⟨#[]⟩) = rv at *
        generalize (look z l).isSome = rb at *
        have HX := Lib.hid hb
        clear hb
        go_wp2_with fail
        go_region_held3 (fun w' : World => w'.cell? ⟨ba, off + i * 3 + 1, none⟩ = some (.string z) ∧ w'.cell? ⟨ba, off + i * 3 + 2, none⟩ = some (.string v)) (first | exact ⟨d1, d2⟩ | exact ⟨by assumption, by assumption⟩)
          ((go_at_call 26; refine HC.out.mono ?_; rintro e w3 ⟨rfl, h3⟩; have d3 : w3.cell? ⟨ba, off + i * 3 + 1, none⟩ = some (.string z) := (h3.out.1.world.cell (p := ⟨ba, off + i * 3 + 1, none⟩) HX.out).trans E1.out; have d4 : w3.cell? ⟨ba, off + i * 3 + 2, none⟩ = some (.string v) := (h3.out.1.world.cell (p := ⟨ba, off + i * 3 + 2, none⟩) HX.out).trans E2.out))
        have hs := Lib.hid (shape_own h3.out.1 (by have := h3.out.2; omega))
        have hlen4 := Lib.hid h3.out.2
        clear HC d0 d1 d2
        go_wp2_with fail
        refine hs.out.mono ?_
        clear hs
        rintro e w4 ⟨A4, n4, c4, rfl, R4, T4⟩
        have hl4 := Lib.hid (len_ownS T4.out)
        have hsd := Lib.hid (shaped_res R4.out (by have := hlen4.out; omega))
        clear R4
        go_wp2_with fail
        refine hl4.out.mono ?_
        clear hl4
        rintro e w5 ⟨rfl, rfl⟩
        go_wp2_with fail
        refine hsd.out.mono ?_
        clear hsd
        rintro e w5 ⟨rfl, rfl⟩
        go_wp2_with fail
        go_roundg (gk - 1)
        case measure => omega
        case rel => exact ⟨i + 1, l4, rfl, by omega, by omega, Lib.hid ⟨T4.out, hlen4.out⟩⟩
    · have hor : ¬ ((i : Int) < (n : Int)) ∨ ((i : Int) < (n : Int) ∧ ¬ ((i : Int) < 300)) := by omega
      have hks := Lib.hid (keys_ownS I.out.1 (by have := I.out.2; omega))
      have hl3 : l.length ≤ 300 := by have := I.out.2; omega
      clear I hi hk
      rcases hor with hiz | ⟨hiz, hi3z⟩
      all_goals
        go_wp2_with fail
        refine hks.out.mono ?_
        clear hks
        rintro e w3 ⟨K, kc, rfl, hrow, h3⟩
        have I1 := Lib.hid (show TOwnS w w3 a l ∧ Row w3 9 (.slice K l.length kc) (l.map fun p => .string p.1) from ⟨h3.out.2, hrow.out⟩)
        clear hrow h3
        go_wp2_with fail
        go_loopg [6] l.length (fun kx s6 wr => ∃ (j : Nat), s6 = .int .i64 ((j : Int) + 1) ∧ kx + j = l.length ∧ Hid (TOwnS w wr a l ∧ Row wr 9 (.slice K l.length kc) (l.map fun p => .string p.1)))
        case atStart => exact ⟨0, rfl, rfl, I1⟩
        case round =>
          obtain ⟨j, rfl, hk, I⟩ := hrel
          clear I1
          by_cases hj : j + 1 < l.length
          · obtain ⟨p, hp⟩ : ∃ p, l[j]? = some p := ⟨_, List.getElem?_eq_getElem (by omega)⟩
            obtain ⟨q, hq⟩ : ∃ q, l[j + 1]? = some q := ⟨_, List.getElem?_eq_getElem hj⟩
            obtain ⟨g, rfl, d0⟩ := (row_str2 I.out.2).str.2 j p.1 (by rw [List.getElem?_map, hp]; rfl)
            obtain ⟨g', hg', d1⟩ := (row_str2 I.out.2).str.2 (j + 1) q.1 (by rw [List.getElem?_map, hq]; rfl)
            cases hg'
            have hjz : (j : Int) + 1 < (l.length : Int) := by omega
            have hjw : IntKind.i64.wrap ((j : Int) + 1 - 1) = (j : Int) := by rw [IntKind.wrap_i64]; omega
            have hjw2 : IntKind.i64.wrap (j : Int) = (j : Int) := by rw [IntKind.wrap_i64]; omega
            have hlt : Op.bytesLess p.1.toList q.1.toList = true := by
              have hs := I.out.1.srt
              obtain ⟨h1, rfl⟩ := List.getElem?_eq_some_iff.1 hp
              obtain ⟨h2, rfl⟩ := List.getElem?_eq_some_iff.1 hq
              exact List.pairwise_iff_getElem.1 hs j (j + 1) h1 h2 (by omega)
            have I2 := Lib.hid (fun m => (⟨I.out.1.below (below_drewN' (Below.refl _ _) m), I.out.2.drewN m⟩ : TOwnS w (wr.drewN m) a l ∧ Row (wr.drewN m) 9 (.slice (some ⟨g, 0, none⟩) l.length kc) (l.map fun p => .string p.1)))
            clear I hp hq
            generalize p.1 = x at *
            generalize q.1 = y at *
            go_wp2_with fail
            go_quiet (fail)
            go_wp2_with fail
            go_roundg (gk - 1)
            case measure => omega
            case rel => exact ⟨j + 1, rfl, by omega, Lib.hid (I2.out _)⟩
          · have hjz : ¬ ((j : Int) + 1 < (l.length : Int)) := by omega
            have hln := Lib.hid (len_ownS I.out.1)
            have hsu := Lib.hid (hsure.out wr)
            have IB := Lib.hid I.out.1.world
            clear I
            go_wp2_with (first | (go_at_call 40; refine hln.out.mono ?_; rintro e w5 ⟨rfl, rfl⟩) | (go_at_call 25; refine hsu.out.mono ?_; rintro e w7 ⟨rfl, h7⟩))
            go_ret
            exact ⟨rfl, Lib.hid (IB.out.trans (h7.out.mono IB.out.size))⟩

end Go.Proofs.Ytcidmaeclonilaa
