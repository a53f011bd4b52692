/- The document's texts of expressions. Printed by mkpe7.py. -/
import Derived.Test.YtbcmmecilheicaaGreatDoorPe6
namespace Go.Proofs.YtbcmmecilheicaaGreatDoor
open Go Go.RowKit

set_option maxRecDepth 100000 in
set_option maxHeartbeats 16000000 in
theorem great105 (w : World) (s : ByteArray) (h0 : 0 < s.size) (h1 : s.size ≤ 1000) : Calls Tryz.prog 105 #[.string s] w (SomeText 1000 w) := by
  have hsi : (s.size : Int) ≤ 1000 := by omega
  go_enter Tryz.func105, Tryz.ntmps105
  go_wp2_with fail
  go_loopg [3, 4] s.size (fun kx s3 s4 wr => ∃ (i : Nat) (Ao : Option Addr) (co : Nat), s3 = .slice Ao i co ∧ s4 = .int .i64 i ∧ kx + i = s.size ∧ Hid (∃ bs : List UInt8, bs.length = i ∧ wr.ownsRow w.heap.size 5 1 (.slice Ao i co) i (cellsB bs)) ∧ Hid (Below w.heap.size w wr))
  case atStart => exact ⟨0, none, 0, rfl, rfl, by omega, Lib.hid ⟨[], rfl, World.ownsRow_nil _ _ _ _⟩, Lib.hid (Below.refl _ _)⟩
  case round =>
    obtain ⟨i, Ao, co, rfl, rfl, hki, HB, HW⟩ := hrel
    have hi9 : (i : Int) ≤ 1000 := by omega
    have hi0 : (0 : Int) ≤ (i : Int) := by omega
    by_cases hi : i < s.size
    · have hiz : (i : Int) < (s.size : Int) := by omega
      obtain ⟨bs, hbl, hown⟩ := HB.out
      have step : ∀ b : UInt8, ∃ An cn w5, (Builtin.append_ #[244, 244] 244 #[.slice Ao i co, .slice (some ⟨wr.heap.size, 0, none⟩) 1 1]).run Tryz.prog (wr.alloc (.cells #[.int .u8 b.toNat] 5)) = .ok (.slice An (i + 1) cn) w5 ∧ (∃ bs : List UInt8, bs.length = i + 1 ∧ w5.ownsRow w.heap.size 5 1 (.slice An (i + 1) cn) (i + 1) (cellsB bs)) ∧ Below w.heap.size w w5 := fun b => by
        obtain ⟨An, cn, w5, hrun, hown5, hg, -⟩ := app_some tBytes 244 (own_below hown (below_alloc wr (.cells #[.int .u8 b.toNat] 5))) (Nat.le_trans HW.out.size (below_alloc wr (.cells #[.int .u8 b.toNat] 5)).size) ⟨wr.heap.size, 0, none⟩ 1 1 (by omega) [.int .u8 b.toNat] rfl (fun j u hj => by
          rw [add_lit0, (Blk.new wr 5 _).cell j]
          simpa using hj) (fun u hu => by
          simp only [List.mem_cons, List.not_mem_nil, or_false] at hu
          subst hu; rfl) (by unfold maxLen; omega) (by omega)
        have own_lt : ∀ k, (Value.slice Ao i co).ownBlock = some k → w.heap.size ≤ k ∧ k < wr.heap.size := hown.lt
        have hw2 := bt (below_alloc wr (.cells #[.int .u8 b.toNat] 5)) HW.out
        refine ⟨An, cn, w5, hrun, ⟨bs ++ [b], by simp [hbl], by rw [show cellsB (bs ++ [b]) = cellsB bs ++ [.int .u8 b.toNat] by simp [cellsB]]; exact hown5⟩, ⟨hg.os.trans hw2.os, hg.tape.trans hw2.tape, hg.output.trans hw2.output, Nat.le_trans hw2.size hg.size, fun k hk => ?_⟩⟩
        rw [hg.block k (Nat.lt_of_lt_of_le hk hw2.size) (fun e => by have := (own_lt k e.symm).1; omega)]
        exact hw2.block k hk
      obtain ⟨c, hc⟩ : ∃ c : Nat, s[i].toNat = c := ⟨_, rfl⟩
      have hc9 : c < 256 := by rw [← hc]; exact s[i].toNat_lt
      have ST := Lib.hid step
      have CC := Lib.hid hc
      clear step hown hbl HB
      rcases (show c < 97 ∨ (97 ≤ c ∧ c ≤ 122) ∨ 122 < c by omega) with h | h | h
      · have a97 : decide ((97 : Int) ≤ (c : Int)) = false := by simp; omega
        have a97n : decide (97 ≤ c) = false := by simp; omega
        have a122 : decide ((c : Int) ≤ 122) = true := by simp; omega
        have a122n : decide (c ≤ 122) = true := by simp; omega
        obtain ⟨An, cn, w5, hrun, HN, HW5⟩ := ST.out s[i]
        rw [CC.out] at hrun
        have R1 := Lib.hid hrun
        have N1 := Lib.hid HN
        have W5 := Lib.hid HW5
        clear hrun HN HW5 h
        go_wp2_with (at_builtin; refine wpList_append_runI _ rfl _ _ 244 244 rfl (.slice Ao i co) (.slice (some ⟨wr.heap.size, 0, none⟩) 1 1) rfl rfl R1.out ?_)
        go_roundg (gk - 1)
        case measure => omega
        case rel => exact ⟨i + 1, An, cn, by first | rfl | (simp; done), by first | rfl | (simp; done), by omega, N1, W5⟩
      · have a97 : decide ((97 : Int) ≤ (c : Int)) = true := by simp; omega
        have a97n : decide (97 ≤ c) = true := by simp; omega
        have a122 : decide ((c : Int) ≤ 122) = true := by simp; omega
        have a122n : decide (c ≤ 122) = true := by simp; omega
        have hsub : (c : Int) - 32 = ((UInt8.ofNat (c - 32)).toNat : Int) := by
          have : (UInt8.ofNat (c - 32)).toNat = c - 32 := by
            have e : (UInt8.ofNat (c - 32)).toNat = (c - 32) % 256 := rfl
            omega
          rw [this]; omega
        have hsub0 : (32 : Int) ≤ (c : Int) := by omega
        have hsub1 : (c : Int) < 256 := by omega
        obtain ⟨d, hd⟩ : ∃ d : UInt8, d = UInt8.ofNat (c - 32) := ⟨_, rfl⟩
        rw [← hd] at hsub
        obtain ⟨An, cn, w5, hrun, HN, HW5⟩ := ST.out d
        have R1 := Lib.hid hrun
        have N1 := Lib.hid HN
        have W5 := Lib.hid HW5
        clear hrun HN HW5 h
        clear hd
        go_wp2_with (at_builtin; refine wpList_append_runI _ rfl _ _ 244 244 rfl (.slice Ao i co) (.slice (some ⟨wr.heap.size, 0, none⟩) 1 1) rfl rfl R1.out ?_)
        go_roundg (gk - 1)
        case measure => omega
        case rel => exact ⟨i + 1, An, cn, by first | rfl | (simp; done), by first | rfl | (simp; done), by omega, N1, W5⟩
      · have a97 : decide ((97 : Int) ≤ (c : Int)) = true := by simp; omega
        have a97n : decide (97 ≤ c) = true := by simp; omega
        have a122 : decide ((c : Int) ≤ 122) = false := by simp; omega
        have a122n : decide (c ≤ 122) = false := by simp; omega
        obtain ⟨An, cn, w5, hrun, HN, HW5⟩ := ST.out s[i]
        rw [CC.out] at hrun
        have R1 := Lib.hid hrun
        have N1 := Lib.hid HN
        have W5 := Lib.hid HW5
        clear hrun HN HW5 h
        go_wp2_with (at_builtin; refine wpList_append_runI _ rfl _ _ 244 244 rfl (.slice Ao i co) (.slice (some ⟨wr.heap.size, 0, none⟩) 1 1) rfl rfl R1.out ?_)
        go_roundg (gk - 1)
        case measure => omega
        case rel => exact ⟨i + 1, An, cn, by first | rfl | (simp; done), by first | rfl | (simp; done), by omega, N1, W5⟩
    · have hiz : ¬ (i : Int) < (s.size : Int) := by omega
      obtain rfl : i = s.size := by omega
      obtain ⟨bs, hbl, hown⟩ := HB.out
      obtain ⟨b0, hb0⟩ : ∃ b, bs[0]? = some b := ⟨_, List.getElem?_eq_getElem (by omega)⟩
      obtain ⟨g, rfl, -⟩ := own_at hown (cellsB_at hb0)
      have hconv := (BR.of_own hbl (by exact HW.out.size) hown).text
      obtain ⟨T, hT⟩ : ∃ T : ByteArray, T = ⟨bs.toArray⟩ := ⟨_, rfl⟩
      rw [← hT] at hconv
      have HTS := Lib.hid (show T.size ≤ 1000 by
        rw [hT]
        show bs.toArray.size ≤ _
        simp; omega)
      clear hT hown HB
      go_wp2_with fail
      go_ret
      exact ⟨T, rfl, HTS, HW⟩

end Go.Proofs.YtbcmmecilheicaaGreatDoor

