/- barbicanref13.hex: the walk. -/
import Derived.Test.YtcidmaeclonilaaText2
import Derived.BigRegion
import Derived.Deep.LoopGhost
namespace Go.Proofs.Ytcidmaeclonilaa
open Go Go.RowKit

theorem hex_cut (n : Nat) (h : n < 16) : (⟨#[48, 49, 50, 51, 52, 53, 54, 55, 56, 57, 97, 98, 99, 100, 101, 102]⟩ : ByteArray).extract n (n + 1) = ⟨#[hexC n]⟩ := by
  have : ∀ m : Fin 16, (⟨#[48, 49, 50, 51, 52, 53, 54, 55, 56, 57, 97, 98, 99, 100, 101, 102]⟩ : ByteArray).extract m.1 (m.1 + 1) = ⟨#[hexC m.1]⟩ := by decide
  exact this ⟨n, h⟩

theorem run_cut1 (W : World) (n : Nat) (h : n < 16) : (Instr.slice 9 (Value.string ⟨#[48, 49, 50, 51, 52, 53, 54, 55, 56, 57, 97, 98, 99, 100, 101, 102]⟩) (some (.int .u8 n)) (some (.int .u8 ((n : Int) + 1))) none).run Try.prog W = .ok (.string ⟨#[hexC n]⟩) W := by
  have h1 : (n : Int) + 1 ≤ 16 := by omega
  have h2 : (0 : Int) ≤ (n : Int) + 1 := by omega
  have h3 : ((n : Int) + 1).toNat = n + 1 := by omega
  have e0 : (⟨#[48, 49, 50, 51, 52, 53, 54, 55, 56, 57, 97, 98, 99, 100, 101, 102]⟩ : ByteArray).size = 16 := rfl
  rw [← hex_cut n h]
  generalize (⟨#[48, 49, 50, 51, 52, 53, 54, 55, 56, 57, 97, 98, 99, 100, 101, 102]⟩ : ByteArray) = D at *
  simp [Instr.slice, Instr.sliceBounds, Instr.sliceBound, asIntOf, go_sem, h1, h2, h3, e0]

set_option maxRecDepth 100000 in
set_option maxHeartbeats 4000000 in
theorem hex57 (w : World) (s : ByteArray) (hs : 2 * s.size ≤ 140737488355000) :
    Calls Try.prog 57 #[.string s] w fun e w' => e = .returned (.string ⟨(hexL s.data.toList).toArray⟩) ∧ Hid (Below w.heap.size w w') := by
  have hlen : s.data.toList.length = s.size := by simp
  have HL := Lib.hid hlen
  have hNb : (s.size : Int) ≤ 70368744177664 := by omega
  have HS := Lib.hid hs
  have HB0 := Lib.hid (Below.refl w.heap.size w)
  have E0 := Lib.hid (show (⟨#[]⟩ : ByteArray) = ⟨(hexL (s.data.toList.take 0)).toArray⟩ from rfl)
  clear hlen hs
  go_enter Try.func57, Try.ntmps57
  go_wp2
  go_loopg [3, 4] s.size (fun kx s3 s4 wr => ∃ (i : Nat) (S : ByteArray), s3 = .string S ∧ s4 = .int .i64 i ∧ kx + i = s.size ∧ (S.size : Int) ≤ 140737488355328 ∧ Hid (S = ⟨(hexL (s.data.toList.take i)).toArray⟩) ∧ Hid (Below w.heap.size w wr))
  case atStart => exact ⟨0, _, rfl, rfl, rfl, by decide, E0, HB0⟩
  case round =>
    obtain ⟨i, S, rfl, rfl, hk, hSz, I, hb⟩ := hrel
    by_cases hi : i < s.size
    · have hiz : (i : Int) < (s.size : Int) := by omega
      have hx : s.data.toList[i]? = some s[i] := by
        rw [List.getElem?_eq_getElem (by rw [HL.out]; exact hi)]; rfl
      obtain ⟨x, hxx⟩ : ∃ x, s[i] = x := ⟨_, rfl⟩
      rw [hxx] at hx
      have HX := Lib.hid hx
      have xl := x.toNat_lt
      obtain ⟨n, hn⟩ : ∃ n, n = x.toNat / 16 := ⟨_, rfl⟩
      obtain ⟨m, hm⟩ : ∃ m, m = x.toNat % 16 := ⟨_, rfl⟩
      have n16 : n < 16 := by omega
      have m16 : m < 16 := by omega
      have e1 : IntKind.u8.wrap ((x.toNat : Int) / 16) = (n : Int) := by rw [IntKind.wrap_u8]; omega
      have e2 : IntKind.u8.wrap ((n : Int) + 1) = (n : Int) + 1 := by rw [IntKind.wrap_u8]; omega
      have r1 := fun W => run_cut1 W n n16
      have r2 := fun W => run_cut1 W m m16
      obtain ⟨T1, hT1⟩ : ∃ T : ByteArray, T = ⟨#[hexC n]⟩ := ⟨_, rfl⟩
      obtain ⟨T2, hT2⟩ : ∃ T : ByteArray, T = ⟨#[hexC m]⟩ := ⟨_, rfl⟩
      rw [← hT1] at r1
      rw [← hT2] at r2
      have hm2 : (m : Int) = (x.toNat : Int) % 16 := by omega
      rw [hm2] at r2
      have z1 : (T1.size : Int) ≤ 1 := by rw [hT1]; exact Int.le_refl 1
      have z2 : (T2.size : Int) ≤ 1 := by rw [hT2]; exact Int.le_refl 1
      have l1 : (n : Int) + 1 ≤ 16 := by omega
      have l2 : (m : Int) + 1 ≤ 16 := by omega
      have p1 : (0 : Int) ≤ (n : Int) + 1 := by omega
      have p2 : (0 : Int) ≤ (m : Int) + 1 := by omega
      have t1 : ((n : Int) + 1).toNat = n + 1 := by omega
      have t2 : ((m : Int) + 1).toNat = m + 1 := by omega
      have N := Lib.hid (And.intro hT1 (And.intro hT2 (And.intro hn hm)))
      have HSz := Lib.hid hSz
      clear E0 HB0 hx hn hm hT1 hT2 hm2
      go_wp2_with fail
      go_quiet (fail)
      clear e1 e2 t1 t2
      go_wp2_with fail
      have E := Lib.hid (show S ++ T1 ++ T2 = ⟨(hexL (s.data.toList.take (i + 1))).toArray⟩ from by
        obtain ⟨j1, j2, j3, j4⟩ := N.out
        rw [hexL_take HX.out, I.out, j1, j2, j3, j4]
        apply ByteArray.ext
        simp)
      have hz3 : ((S ++ T1 ++ T2).size : Int) ≤ 140737488355328 := by
        rw [E.out]
        show ((hexL (s.data.toList.take (i + 1))).toArray.size : Int) ≤ _
        have := HS.out
        rw [List.size_toArray, hexL_len, List.length_take, HL.out]
        omega
      go_roundg (gk - 1)
      case measure => omega
      case rel => exact ⟨i + 1, _, rfl, rfl, by omega, hz3, E, Lib.hid (below_drewN hb.out _)⟩
    · have hiz : ¬ ((i : Int) < (s.size : Int)) := by omega
      have hi2 : s.data.toList.take i = s.data.toList := List.take_of_length_le (by rw [HL.out]; omega)
      rw [hi2] at I
      have J := I.out
      clear E0 HB0 I hi2
      subst J
      go_wp2
      go_ret
      exact ⟨rfl, hb⟩

end Go.Proofs.Ytcidmaeclonilaa
