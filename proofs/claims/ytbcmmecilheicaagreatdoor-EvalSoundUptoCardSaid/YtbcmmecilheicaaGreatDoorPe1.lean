/- The document's expressions: kinds of operations, names, values that may be. -/
import Derived.Test.YtbcmmecilheicaaGreatDoorEvC
namespace Go.Proofs.YtbcmmecilheicaaGreatDoor
open Go Go.RowKit

/-- texts, as they are read, whatever they are -/
def StrsX (W : World) (A : Option Addr) (n : Nat) : Prop := ∀ i, i < n → ∃ b off z, A = some ⟨b, off, none⟩ ∧ b < W.heap.size ∧ W.cell? ⟨b, off + i, none⟩ = some (.string z)
def isStr : Value → Bool
  | .string _ => true
  | _ => false
theorem strs_of {W : World} {g : Nat} {t : TypeId} {cs : Array Value} (z : Blk W g t cs) (h : cs.toList.all isStr = true) {n : Nat} (hn : n ≤ cs.size) : StrsX W (some ⟨g, 0, none⟩) n := fun i hi => by
  have hlt : i < cs.size := by omega
  have hm := List.all_eq_true.1 h cs[i] (by simp)
  obtain ⟨s, hs⟩ : ∃ s, cs[i] = .string s := by
    cases hc : cs[i] <;> rw [hc] at hm <;> first | exact ⟨_, rfl⟩ | cases hm
  exact ⟨g, 0, s, rfl, z.lt, by rw [Nat.zero_add, z.cell i, Array.getElem?_eq_getElem hlt, hs]⟩
theorem StrsX.below {W W' : World} {A : Option Addr} {n : Nat} (h : StrsX W A n) (hW : Below W.heap.size W W') : StrsX W' A n := fun i hi => by
  obtain ⟨b, off, z, e, hb, hc⟩ := h i hi
  exact ⟨b, off, z, e, Nat.lt_of_lt_of_le hb hW.size, (hW.cell (p := ⟨b, off + i, none⟩) hb).trans hc⟩
theorem strs_at {W : World} {g : Nat} {t : TypeId} (l : List ByteArray) (z : Blk W g t (l.map Value.string).toArray) : StrsAt W (some ⟨g, 0, none⟩) l.length l :=
  ⟨rfl, fun j s hj => ⟨g, 0, rfl, z.lt, by rw [Nat.zero_add, z.cell j]; simp [hj]⟩⟩

def opsN : List ByteArray := [⟨#[108, 105, 116]⟩, ⟨#[99, 111, 108]⟩, ⟨#[108, 97, 98, 101, 108]⟩, ⟨#[114, 111, 119, 115]⟩]
def opsO : List ByteArray := [⟨#[110, 101, 103]⟩, ⟨#[110, 111, 116]⟩, ⟨#[105, 115, 110, 117, 108, 108]⟩, ⟨#[110, 111, 116, 110, 117, 108, 108]⟩, ⟨#[99, 111, 117, 110, 116]⟩, ⟨#[115, 117, 109]⟩, ⟨#[109, 105, 110]⟩, ⟨#[109, 97, 120]⟩]
def opsT : List ByteArray := [⟨#[97, 110, 100]⟩, ⟨#[111, 114]⟩, ⟨#[61]⟩, ⟨#[60, 62]⟩, ⟨#[60]⟩, ⟨#[60, 61]⟩, ⟨#[62]⟩, ⟨#[62, 61]⟩, ⟨#[43]⟩, ⟨#[45]⟩, ⟨#[124, 124]⟩, ⟨#[42]⟩, ⟨#[47]⟩, ⟨#[37]⟩]
/-- is a text among others? -/
def Among (op : ByteArray) (l : List ByteArray) : Prop := ∃ z ∈ l, z.toList = op.toList
def KindsPost (op : ByteArray) (w : World) (e : Ending) (w' : World) : Prop := ∃ n : Int, e = .returned (.int .i64 n) ∧ Hid (-1 ≤ n ∧ n ≤ 2 ∧ (n = 0 → Among op opsN) ∧ (n = 1 → Among op opsO) ∧ (n = 2 → Among op opsT)) ∧ Hid (Below w.heap.size w w')

set_option maxRecDepth 100000 in
set_option maxHeartbeats 8000000 in
theorem kinds144 (w : World) (op : ByteArray) : Calls Tryz.prog 144 #[.string op] w (KindsPost op w) := by
  obtain ⟨w1, hw1⟩ : ∃ z, z = ((w.alloc (.cells (opsN.map Value.string).toArray 9)).alloc (.cells (opsO.map Value.string).toArray 9)).alloc (.cells (opsT.map Value.string).toArray 9) := ⟨_, rfl⟩
  have B1 := Lib.hid (show Below w.heap.size w w1 by rw [hw1]; exact bt (below_alloc _ _) (bt (below_alloc _ _) (below_alloc _ _)))
  have ZN := Lib.hid (strs_at opsN (show Blk w1 w.heap.size 9 _ by rw [hw1]; exact ((Blk.new w 9 _).alloc _).alloc _))
  have ZO := Lib.hid (strs_at opsO (show Blk w1 (w.heap.size + 1) 9 _ by rw [hw1]; exact (blk_new' (w := w.alloc _) rfl (by simp)).alloc _))
  have ZT := Lib.hid (strs_at opsT (show Blk w1 (w.heap.size + 1 + 1) 9 _ by rw [hw1]; exact blk_new' (w := (w.alloc _).alloc _) rfl (by simp)))
  have HW := Lib.hid hw1
  clear hw1
  go_enter Tryz.func144, Tryz.ntmps144
  go_upto_region 4 with fail
  rw [show ((w.alloc (.cells #[.string ⟨#[108, 105, 116]⟩, .string ⟨#[99, 111, 108]⟩, .string ⟨#[108, 97, 98, 101, 108]⟩, .string ⟨#[114, 111, 119, 115]⟩] 9)).alloc (.cells #[.string ⟨#[110, 101, 103]⟩, .string ⟨#[110, 111, 116]⟩, .string ⟨#[105, 115, 110, 117, 108, 108]⟩, .string ⟨#[110, 111, 116, 110, 117, 108, 108]⟩, .string ⟨#[99, 111, 117, 110, 116]⟩, .string ⟨#[115, 117, 109]⟩, .string ⟨#[109, 105, 110]⟩, .string ⟨#[109, 97, 120]⟩] 9)).alloc (.cells #[.string ⟨#[97, 110, 100]⟩, .string ⟨#[111, 114]⟩, .string ⟨#[61]⟩, .string ⟨#[60, 62]⟩, .string ⟨#[60]⟩, .string ⟨#[60, 61]⟩, .string ⟨#[62]⟩, .string ⟨#[62, 61]⟩, .string ⟨#[43]⟩, .string ⟨#[45]⟩, .string ⟨#[124, 124]⟩, .string ⟨#[42]⟩, .string ⟨#[47]⟩, .string ⟨#[37]⟩] 9) = w1 from HW.out.symm]
  clear HW
  go_wp2_with fail
  go_loopg [6] 14 (fun kx s6 wr => ∃ i : Nat, s6 = .int .i64 i ∧ kx + i = 14 ∧ wr = w1)
  case atStart => exact ⟨0, rfl, rfl, rfl⟩
  case round =>
    obtain ⟨i, rfl, hk, rfl⟩ := hrel
    have hi9 : (i : Int) < 15 := by omega
    have hi0 : (0 : Int) ≤ (i : Int) := by omega
    by_cases hi : i < 14
    · have hiz : (i : Int) < 14 := by omega
      obtain ⟨z3, hz3⟩ : ∃ z, opsT[i]? = some z := ⟨_, List.getElem?_eq_getElem hi⟩
      obtain ⟨g3, o3, e3, hb3, x3⟩ := ZT.out.at_ i z3 hz3
      injection e3 with e3
      injection e3 with e3 e3'
      subst e3 e3'
      rw [Nat.zero_add] at x3
      obtain ⟨b3, h3⟩ : ∃ b, (z3.toList == op.toList) = b := ⟨_, rfl⟩
      have T3 := Lib.hid (fun (h : b3 = true) => show Among op opsT from ⟨z3, List.mem_of_getElem? hz3, by rw [h] at h3; simpa using h3⟩)
      clear hz3
      rcases (show i < 4 ∨ (4 ≤ i ∧ i < 8) ∨ 8 ≤ i by omega) with c | c | c
      · have c1 : (i : Int) < 4 := by omega
        have c2 : (i : Int) < 8 := by omega
        obtain ⟨z1, hz1⟩ : ∃ z, opsN[i]? = some z := ⟨_, List.getElem?_eq_getElem c⟩
        obtain ⟨g1, o1, e1, hb1, x1⟩ := ZN.out.at_ i z1 hz1
        injection e1 with e1
        injection e1 with e1 e1'
        subst e1 e1'
        rw [Nat.zero_add] at x1
        obtain ⟨z2, hz2⟩ : ∃ z, opsO[i]? = some z := ⟨_, List.getElem?_eq_getElem (show i < 8 by omega)⟩
        obtain ⟨g2, o2, e2, hb2, x2⟩ := ZO.out.at_ i z2 hz2
        injection e2 with e2
        injection e2 with e2 e2'
        subst e2 e2'
        rw [Nat.zero_add] at x2
        obtain ⟨b1, h1⟩ : ∃ b, (z1.toList == op.toList) = b := ⟨_, rfl⟩
        obtain ⟨b2, h2⟩ : ∃ b, (z2.toList == op.toList) = b := ⟨_, rfl⟩
        have T1 := Lib.hid (fun (h : b1 = true) => show Among op opsN from ⟨z1, List.mem_of_getElem? hz1, by rw [h] at h1; simpa using h1⟩)
        have T2 := Lib.hid (fun (h : b2 = true) => show Among op opsO from ⟨z2, List.mem_of_getElem? hz2, by rw [h] at h2; simpa using h2⟩)
        clear hz1 hz2
        cases b1 with
        | true =>
          go_wp2_with fail
          go_ret
          exact ⟨0, rfl, Lib.hid ⟨by omega, by omega, fun _ => T1.out (by first | rfl | trivial), fun h => by omega, fun h => by omega⟩, B1⟩
        | false =>
          cases b2 with
          | true =>
            go_wp2_with fail
            go_ret
            exact ⟨1, rfl, Lib.hid ⟨by omega, by omega, fun h => by omega, fun _ => T2.out (by first | rfl | trivial), fun h => by omega⟩, B1⟩
          | false =>
            cases b3 with
            | true =>
              go_wp2_with fail
              go_ret
              exact ⟨2, rfl, Lib.hid ⟨by omega, by omega, fun h => by omega, fun h => by omega, fun _ => T3.out (by first | rfl | trivial)⟩, B1⟩
            | false =>
              go_wp2_with fail
              go_roundg (gk - 1)
              case measure => omega
              case rel => exact ⟨i + 1, by first | rfl | (simp; done), by omega, rfl⟩
      · have c1 : ¬ (i : Int) < 4 := by omega
        have c2 : (i : Int) < 8 := by omega
        obtain ⟨z2, hz2⟩ : ∃ z, opsO[i]? = some z := ⟨_, List.getElem?_eq_getElem (show i < 8 by omega)⟩
        obtain ⟨g2, o2, e2, hb2, x2⟩ := ZO.out.at_ i z2 hz2
        injection e2 with e2
        injection e2 with e2 e2'
        subst e2 e2'
        rw [Nat.zero_add] at x2
        obtain ⟨b2, h2⟩ : ∃ b, (z2.toList == op.toList) = b := ⟨_, rfl⟩
        have T2 := Lib.hid (fun (h : b2 = true) => show Among op opsO from ⟨z2, List.mem_of_getElem? hz2, by rw [h] at h2; simpa using h2⟩)
        clear hz2
        cases b2 with
        | true =>
          go_wp2_with fail
          go_ret
          exact ⟨1, rfl, Lib.hid ⟨by omega, by omega, fun h => by omega, fun _ => T2.out (by first | rfl | trivial), fun h => by omega⟩, B1⟩
        | false =>
          cases b3 with
          | true =>
            go_wp2_with fail
            go_ret
            exact ⟨2, rfl, Lib.hid ⟨by omega, by omega, fun h => by omega, fun h => by omega, fun _ => T3.out (by first | rfl | trivial)⟩, B1⟩
          | false =>
            go_wp2_with fail
            go_roundg (gk - 1)
            case measure => omega
            case rel => exact ⟨i + 1, by first | rfl | (simp; done), by omega, rfl⟩
      · have c1 : ¬ (i : Int) < 4 := by omega
        have c2 : ¬ (i : Int) < 8 := by omega
        cases b3 with
        | true =>
          go_wp2_with fail
          go_ret
          exact ⟨2, rfl, Lib.hid ⟨by omega, by omega, fun h => by omega, fun h => by omega, fun _ => T3.out (by first | rfl | trivial)⟩, B1⟩
        | false =>
          go_wp2_with fail
          go_roundg (gk - 1)
          case measure => omega
          case rel => exact ⟨i + 1, by first | rfl | (simp; done), by omega, rfl⟩
    · have hiz : ¬ (i : Int) < 14 := by omega
      go_wp2_with fail
      go_ret
      exact ⟨-1, rfl, Lib.hid ⟨by omega, by omega, fun h => by omega, fun h => by omega, fun h => by omega⟩, B1⟩

/-- the reserved words -/
def WordsPost (w : World) (e : Ending) (w' : World) : Prop := ∃ (A : Option Addr) (c : Nat), e = .returned (.slice A 39 c) ∧ Hid (StrsX w' A 39) ∧ Hid (Below w.heap.size w w')
set_option maxRecDepth 100000 in
set_option maxHeartbeats 8000000 in
theorem words180 (w : World) : Calls Tryz.prog 180 #[] w (WordsPost w) := by
  go_enter Tryz.func180, Tryz.ntmps180
  go_wp2_with fail
  go_ret
  exact ⟨_, _, rfl, Lib.hid (strs_of (Blk.new _ _ _) (by kernel_rfl) (by simp)), Lib.hid (below_alloc _ _)⟩

/-- a truth comes back -/
def SomeBool (w : World) (e : Ending) (w' : World) : Prop := ∃ b : Bool, e = .returned (.bool b) ∧ Hid (Below w.heap.size w w')
set_option maxRecDepth 100000 in
set_option maxHeartbeats 8000000 in
theorem reserved169 (w : World) (s : ByteArray) : Calls Tryz.prog 169 #[.string s] w (SomeBool w) := by
  go_enter Tryz.func169, Tryz.ntmps169
  go_wp2_with fail
  refine (words180 _).mono ?_
  rintro e w1 ⟨A, c, rfl, hs, hb⟩
  go_wp2_with fail
  go_loopg [4] 39 (fun kx s4 wr => ∃ i : Nat, s4 = .int .i64 i ∧ kx + i = 39 ∧ wr = w1)
  case atStart => exact ⟨0, rfl, rfl, rfl⟩
  case round =>
    obtain ⟨i, rfl, hk, rfl⟩ := hrel
    have hi9 : (i : Int) < 40 := by omega
    have hi0 : (0 : Int) ≤ (i : Int) := by omega
    by_cases hi : i < 39
    · have hiz : (i : Int) < 39 := by omega
      obtain ⟨b, off, z, rfl, hbb, x0⟩ := hs.out i hi
      obtain ⟨q, hq⟩ : ∃ q, (z.toList == s.toList) = q := ⟨_, rfl⟩
      cases q with
      | true =>
        go_wp2_with fail
        go_ret
        exact ⟨true, rfl, hb⟩
      | false =>
        go_wp2_with fail
        go_roundg (gk - 1)
        case measure => omega
        case rel => exact ⟨i + 1, by first | rfl | (simp; done), by omega, rfl⟩
    · have hiz : ¬ (i : Int) < 39 := by omega
      go_wp2_with fail
      go_ret
      exact ⟨false, rfl, hb⟩

end Go.Proofs.YtbcmmecilheicaaGreatDoor
