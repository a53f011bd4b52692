/- leaf. -/
import Derived.Test.YtcidmaeclonilaaMemA
import Derived.Test.YtcidmaeclonilaaFind
import Derived.Test.YtcidmaeclonilaaSlS
import Derived.Test.YtcidmaeclonilaaSlN
import Derived.Deep.RegionHeld3
import Derived.Deep.DeepFit
namespace Go.Proofs.Ytcidmaeclonilaa
open Go Go.RowKit

set_option maxHeartbeats 1000000 in
theorem leafS (w : World) (b n c : Nat) (kv vv : Value) (A : Option Addr) (hb : Blk w b 102 #[kv, vv, .slice A n c]) :
    Calls Try.prog 64 #[.pointer (some ⟨b, 0, none⟩)] w fun e w' => e = .returned (.bool (decide (n = 0))) ∧ w = w' := by
  have h2 : w.cell? ⟨b, 2, none⟩ = some (.slice A n c) := hb.cell 2
  clear hb
  by_cases h0 : n = 0
  · subst h0
    go_enter Try.func64, Try.ntmps64
    go_wp2
    go_ret
    simp
  · have hz : ((n : Int) == 0) = false := by rw [beq_eq_false_iff_ne]; omega
    have hd : decide (n = 0) = false := by simpa using h0
    go_enter Try.func64, Try.ntmps64
    go_wp2
    go_ret
    simp [hd]

set_option maxHeartbeats 1000000 in
theorem findS (w : World) (b : Nat) (kv vv cv : Value) (ks : List ByteArray) (key : ByteArray) (hb : Blk w b 102 #[kv, vv, cv]) (hr : Row w 9 kv (ks.map Value.string)) (hlen : ks.length ≤ 64) (hs : KSrt ks) :
    Calls Try.prog 63 #[.pointer (some ⟨b, 0, none⟩), .string key] w (FindPost w key ks) := by
  have hS := Lib.hid (searchStrings w kv ks key hr hlen hs)
  have h0 : w.cell? ⟨b, 0, none⟩ = some kv := hb.cell 0
  have hlt := hb.lt
  have hrl := hr.lt
  obtain ⟨A, c, rfl, h1, h2, h⟩ := hr
  rw [List.length_map] at *
  go_enter Try.func63, Try.ntmps63
  go_wp2_with (go_at_call 88; refine hS.out.mono ?_; rintro e w1 ⟨i, rfl, hp, hb1⟩)
  have h10 : w1.cell? ⟨b, 0, none⟩ = some (.slice A ks.length c) := (hb1.cell (p := ⟨b, 0, none⟩) hlt).trans h0
  by_cases hi : i < ks.length
  · rcases h with ⟨rfl, rfl⟩ | ⟨g, cur, rfl, hB, hcs, hxs⟩
    · omega
    · have hg : w1.cell? ⟨g, i, none⟩ = some (.string ks[i]) := (hb1.cell (p := ⟨g, i, none⟩) hB.lt).trans ((hB.cell i).trans (hxs i _ (by rw [List.getElem?_map, List.getElem?_eq_getElem hi]; rfl)))
      have HF := Lib.hid (p := FindPost w key ks (.returned (.tuple #[.int .i64 i, .bool (ks[i].toList == key.toList)])) w1) ⟨i, by rw [beq_toList, List.getElem?_eq_getElem hi]; simp, hp, hb1⟩
      have hz : (i : Int) < (ks.length : Int) := by omega
      clear hxs hB hcs h1 h2 hp hb1 hs hlen hrl hS h0 hb
      generalize ks[i] = s at *
      generalize ks.length = n at *
      go_wp2
      go_quiet (fail)
      go_wp2
      go_ret2
      obtain ⟨j, e1, e2, e3⟩ := HF.out
      exact ⟨j, e1, e2, below_drewN' e3 _⟩
  · have HF := Lib.hid (p := FindPost w key ks (.returned (.tuple #[.int .i64 i, .bool false])) w1) ⟨i, by rw [List.getElem?_eq_none (by omega)]; simp, hp, hb1⟩
    have hz : ¬ ((i : Int) < (ks.length : Int)) := by omega
    have hd : decide (i < ks.length) = false := by simpa using hi
    have hz2 : (ks.length : Int) ≤ (i : Int) := by omega
    clear h h1 h2 hp hb1 hs hlen hrl hS h0 hb hi
    generalize ks.length = n at *
    go_wp2
    go_quiet (fail)
    go_wp2
    go_ret2
    obtain ⟨j, e1, e2, e3⟩ := HF.out
    exact ⟨j, e1, e2, below_drewN' e3 _⟩

end Go.Proofs.Ytcidmaeclonilaa
