/- The document's expressions: kinds of operations, names, values that may be. The document's names, values that may be. Printed by mkpe2.py. The document's expressions in memory; which may be. Printed by mkpe3.py. How deep the document's expressions are. The document's texts of numbers, of values. -/
import Derived.Test.YtbcmmecilheicaaGreatDoorEvCE

/- The document's expressions: kinds of operations, names, values that may be. -/
namespace Go.Proofs.YtbcmmecilheicaaGreatDoor
open Go Go.RowKit

/-- texts, as they are read, whatever they are -/
def StrsX (W : World) (A : Option Addr) (n : Nat) : Prop := ∀ i, i < n → ∃ b off z, A = some ⟨b, off, none⟩ ∧ b < W.heap.size ∧ W.cell? ⟨b, off + i, none⟩ = some (.string z)
def isStr : Value → Bool
 | .string _ => true
 | _ => false
theorem strs_of {W : World} {g : Nat} {t : TypeId} {cs : Array Value} (z : Blk W g t cs) (h : cs.toList.all isStr = true) {n : Nat} (hn : n ≤ cs.size) : StrsX W (some ⟨g, 0, none⟩) n := fun i hi => by
 have hlt : i < cs.size := by omega
 have hm := List.all_eq_true.1 h cs[i] (by simp)
 obtain ⟨s, hs⟩ : ∃ s, cs[i] = .string s := by
  cases hc : cs[i] <;> rw [hc] at hm <;> first | exact ⟨_, rfl⟩ | cases hm
 exact ⟨g, 0, s, rfl, z.lt, by rw [Nat.zero_add, z.cell i, Array.getElem?_eq_getElem hlt, hs]⟩
theorem strs_at {W : World} {g : Nat} {t : TypeId} (l : List ByteArray) (z : Blk W g t (l.map Value.string).toArray) : StrsAt W (some ⟨g, 0, none⟩) l.length l :=
 ⟨rfl, fun j s hj => ⟨g, 0, rfl, z.lt, by rw [Nat.zero_add, z.cell j]; simp [hj]⟩⟩

def opsN : List ByteArray := [⟨#[108, 105, 116]⟩, ⟨#[99, 111, 108]⟩, ⟨#[108, 97, 98, 101, 108]⟩, ⟨#[114, 111, 119, 115]⟩]
def opsO : List ByteArray := [⟨#[110, 101, 103]⟩, ⟨#[110, 111, 116]⟩, ⟨#[105, 115, 110, 117, 108, 108]⟩, ⟨#[110, 111, 116, 110, 117, 108, 108]⟩, ⟨#[99, 111, 117, 110, 116]⟩, ⟨#[115, 117, 109]⟩, ⟨#[109, 105, 110]⟩, ⟨#[109, 97, 120]⟩]
def opsT : List ByteArray := [⟨#[97, 110, 100]⟩, ⟨#[111, 114]⟩, ⟨#[61]⟩, ⟨#[60, 62]⟩, ⟨#[60]⟩, ⟨#[60, 61]⟩, ⟨#[62]⟩, ⟨#[62, 61]⟩, ⟨#[43]⟩, ⟨#[45]⟩, ⟨#[124, 124]⟩, ⟨#[42]⟩, ⟨#[47]⟩, ⟨#[37]⟩]
/-- is a text among others? -/
def Among (op : ByteArray) (l : List ByteArray) : Prop := ∃ z ∈ l, z.toList = op.toList
def KindsPost (op : ByteArray) (w : World) (e : Ending) (w' : World) : Prop := ∃ n : Int, e = .returned (.int .i64 n) ∧ Hid (-1 ≤ n ∧ n ≤ 2 ∧ (n = 0 → Among op opsN) ∧ (n = 1 → Among op opsO) ∧ (n = 2 → Among op opsT)) ∧ Hid (Below w.heap.size w w')

set_option maxRecDepth 100000 in
set_option maxHeartbeats 8000000 in
theorem kinds144 (w : World) (op : ByteArray) : Calls Tryz.prog 144 #[.string op] w (KindsPost op w) := by
 obtain ⟨w1, hw1⟩ : ∃ z, z = ((w.alloc (.cells (opsN.map Value.string).toArray 9)).alloc (.cells (opsO.map Value.string).toArray 9)).alloc (.cells (opsT.map Value.string).toArray 9) := ⟨_, rfl⟩
 have B1 := Lib.hid (show Below w.heap.size w w1 by rw [hw1]; exact bt (below_alloc _ _) (bt (below_alloc _ _) (below_alloc _ _)))
 have ZN := Lib.hid (strs_at opsN (show Blk w1 w.heap.size 9 _ by rw [hw1]; exact ((Blk.new w 9 _).alloc _).alloc _))
 have ZO := Lib.hid (strs_at opsO (show Blk w1 (w.heap.size + 1) 9 _ by rw [hw1]; exact (blk_new' (w := w.alloc _) rfl (by simp)).alloc _))
 have ZT := Lib.hid (strs_at opsT (show Blk w1 (w.heap.size + 1 + 1) 9 _ by rw [hw1]; exact blk_new' (w := (w.alloc _).alloc _) rfl (by simp)))
 have HW := Lib.hid hw1
 clear hw1
 go_enter Tryz.func144, Tryz.ntmps144
 go_upto_region 4 with fail
 rw [show ((w.alloc (.cells #[.string ⟨#[108, 105, 116]⟩, .string ⟨#[99, 111, 108]⟩, .string ⟨#[108, 97, 98, 101, 108]⟩, .string ⟨#[114, 111, 119, 115]⟩] 9)).alloc (.cells #[.string ⟨#[110, 101, 103]⟩, .string ⟨#[110, 111, 116]⟩, .string ⟨#[105, 115, 110, 117, 108, 108]⟩, .string ⟨#[110, 111, 116, 110, 117, 108, 108]⟩, .string ⟨#[99, 111, 117, 110, 116]⟩, .string ⟨#[115, 117, 109]⟩, .string ⟨#[109, 105, 110]⟩, .string ⟨#[109, 97, 120]⟩] 9)).alloc (.cells #[.string ⟨#[97, 110, 100]⟩, .string ⟨#[111, 114]⟩, .string ⟨#[61]⟩, .string ⟨#[60, 62]⟩, .string ⟨#[60]⟩, .string ⟨#[60, 61]⟩, .string ⟨#[62]⟩, .string ⟨#[62, 61]⟩, .string ⟨#[43]⟩, .string ⟨#[45]⟩, .string ⟨#[124, 124]⟩, .string ⟨#[42]⟩, .string ⟨#[47]⟩, .string ⟨#[37]⟩] 9) = w1 from HW.out.symm]
 clear HW
 go_wp2_with fail
 go_loopg [6] 14 (fun kx s6 wr => ∃ i : Nat, s6 = .int .i64 i ∧ kx + i = 14 ∧ wr = w1)
 case atStart => exact ⟨0, rfl, rfl, rfl⟩
 case round =>
  obtain ⟨i, rfl, hk, rfl⟩ := hrel
  have hi9 : (i : Int) < 15 := by omega
  have hi0 : (0 : Int) ≤ (i : Int) := by omega
  by_cases hi : i < 14
  ·have hiz : (i : Int) < 14 := by omega
   obtain ⟨z3, hz3⟩ : ∃ z, opsT[i]? = some z := ⟨_, List.getElem?_eq_getElem hi⟩
   obtain ⟨g3, o3, e3, hb3, x3⟩ := ZT.out.at_ i z3 hz3
   injection e3 with e3
   injection e3 with e3 e3'
   subst e3 e3'
   rw [Nat.zero_add] at x3
   obtain ⟨b3, h3⟩ : ∃ b, (z3.toList == op.toList) = b := ⟨_, rfl⟩
   have T3 := Lib.hid (fun (h : b3 = true) => show Among op opsT from ⟨z3, List.mem_of_getElem? hz3, by rw [h] at h3; simpa using h3⟩)
   clear hz3
   rcases (show i < 4 ∨ (4 ≤ i ∧ i < 8) ∨ 8 ≤ i by omega) with c | c | c
   ·have c1 : (i : Int) < 4 := by omega
    have c2 : (i : Int) < 8 := by omega
    obtain ⟨z1, hz1⟩ : ∃ z, opsN[i]? = some z := ⟨_, List.getElem?_eq_getElem c⟩
    obtain ⟨g1, o1, e1, hb1, x1⟩ := ZN.out.at_ i z1 hz1
    injection e1 with e1
    injection e1 with e1 e1'
    subst e1 e1'
    rw [Nat.zero_add] at x1
    obtain ⟨z2, hz2⟩ : ∃ z, opsO[i]? = some z := ⟨_, List.getElem?_eq_getElem (show i < 8 by omega)⟩
    obtain ⟨g2, o2, e2, hb2, x2⟩ := ZO.out.at_ i z2 hz2
    injection e2 with e2
    injection e2 with e2 e2'
    subst e2 e2'
    rw [Nat.zero_add] at x2
    obtain ⟨b1, h1⟩ : ∃ b, (z1.toList == op.toList) = b := ⟨_, rfl⟩
    obtain ⟨b2, h2⟩ : ∃ b, (z2.toList == op.toList) = b := ⟨_, rfl⟩
    have T1 := Lib.hid (fun (h : b1 = true) => show Among op opsN from ⟨z1, List.mem_of_getElem? hz1, by rw [h] at h1; simpa using h1⟩)
    have T2 := Lib.hid (fun (h : b2 = true) => show Among op opsO from ⟨z2, List.mem_of_getElem? hz2, by rw [h] at h2; simpa using h2⟩)
    clear hz1 hz2
    cases b1 with
    | true =>
     go_wp2_with fail
     go_ret
     exact ⟨0, rfl, Lib.hid ⟨by omega, by omega, fun _ => T1.out (by first | rfl | trivial), fun h => by omega, fun h => by omega⟩, B1⟩
    | false =>
     cases b2 with
     | true =>
      go_wp2_with fail
      go_ret
      exact ⟨1, rfl, Lib.hid ⟨by omega, by omega, fun h => by omega, fun _ => T2.out (by first | rfl | trivial), fun h => by omega⟩, B1⟩
     | false =>
      cases b3 with
      | true =>
       go_wp2_with fail
       go_ret
       exact ⟨2, rfl, Lib.hid ⟨by omega, by omega, fun h => by omega, fun h => by omega, fun _ => T3.out (by first | rfl | trivial)⟩, B1⟩
      | false =>
       go_wp2_with fail
       go_roundg (gk - 1)
       case measure => omega
       case rel => exact ⟨i + 1, by first | rfl | (simp; done), by omega, rfl⟩
   ·have c1 : ¬ (i : Int) < 4 := by omega
    have c2 : (i : Int) < 8 := by omega
    obtain ⟨z2, hz2⟩ : ∃ z, opsO[i]? = some z := ⟨_, List.getElem?_eq_getElem (show i < 8 by omega)⟩
    obtain ⟨g2, o2, e2, hb2, x2⟩ := ZO.out.at_ i z2 hz2
    injection e2 with e2
    injection e2 with e2 e2'
    subst e2 e2'
    rw [Nat.zero_add] at x2
    obtain ⟨b2, h2⟩ : ∃ b, (z2.toList == op.toList) = b := ⟨_, rfl⟩
    have T2 := Lib.hid (fun (h : b2 = true) => show Among op opsO from ⟨z2, List.mem_of_getElem? hz2, by rw [h] at h2; simpa using h2⟩)
    clear hz2
    cases b2 with
    | true =>
     go_wp2_with fail
     go_ret
     exact ⟨1, rfl, Lib.hid ⟨by omega, by omega, fun h => by omega, fun _ => T2.out (by first | rfl | trivial), fun h => by omega⟩, B1⟩
    | false =>
     cases b3 with
     | true =>
      go_wp2_with fail
      go_ret
      exact ⟨2, rfl, Lib.hid ⟨by omega, by omega, fun h => by omega, fun h => by omega, fun _ => T3.out (by first | rfl | trivial)⟩, B1⟩
     | false =>
      go_wp2_with fail
      go_roundg (gk - 1)
      case measure => omega
      case rel => exact ⟨i + 1, by first | rfl | (simp; done), by omega, rfl⟩
   ·have c1 : ¬ (i : Int) < 4 := by omega
    have c2 : ¬ (i : Int) < 8 := by omega
    cases b3 with
    | true =>
     go_wp2_with fail
     go_ret
     exact ⟨2, rfl, Lib.hid ⟨by omega, by omega, fun h => by omega, fun h => by omega, fun _ => T3.out (by first | rfl | trivial)⟩, B1⟩
    | false =>
     go_wp2_with fail
     go_roundg (gk - 1)
     case measure => omega
     case rel => exact ⟨i + 1, by first | rfl | (simp; done), by omega, rfl⟩
  ·have hiz : ¬ (i : Int) < 14 := by omega
   go_wp2_with fail
   go_ret
   exact ⟨-1, rfl, Lib.hid ⟨by omega, by omega, fun h => by omega, fun h => by omega, fun h => by omega⟩, B1⟩

/-- the reserved words -/
def WordsPost (w : World) (e : Ending) (w' : World) : Prop := ∃ (A : Option Addr) (c : Nat), e = .returned (.slice A 39 c) ∧ Hid (StrsX w' A 39) ∧ Hid (Below w.heap.size w w')
set_option maxRecDepth 100000 in
set_option maxHeartbeats 8000000 in
theorem words180 (w : World) : Calls Tryz.prog 180 #[] w (WordsPost w) := by
 go_enter Tryz.func180, Tryz.ntmps180
 go_wp2_with fail
 go_ret
 exact ⟨_, _, rfl, Lib.hid (strs_of (Blk.new _ _ _) (by kernel_rfl) (by simp)), Lib.hid (below_alloc _ _)⟩

/-- a truth comes back -/
def SomeBool (w : World) (e : Ending) (w' : World) : Prop := ∃ b : Bool, e = .returned (.bool b) ∧ Hid (Below w.heap.size w w')
set_option maxRecDepth 100000 in
set_option maxHeartbeats 8000000 in
theorem reserved169 (w : World) (s : ByteArray) : Calls Tryz.prog 169 #[.string s] w (SomeBool w) := by
 go_enter Tryz.func169, Tryz.ntmps169
 go_wp2_with fail
 refine (words180 _).mono ?_
 rintro e w1 ⟨A, c, rfl, hs, hb⟩
 go_wp2_with fail
 go_loopg [4] 39 (fun kx s4 wr => ∃ i : Nat, s4 = .int .i64 i ∧ kx + i = 39 ∧ wr = w1)
 case atStart => exact ⟨0, rfl, rfl, rfl⟩
 case round =>
  obtain ⟨i, rfl, hk, rfl⟩ := hrel
  have hi9 : (i : Int) < 40 := by omega
  have hi0 : (0 : Int) ≤ (i : Int) := by omega
  by_cases hi : i < 39
  ·have hiz : (i : Int) < 39 := by omega
   obtain ⟨b, off, z, rfl, hbb, x0⟩ := hs.out i hi
   obtain ⟨q, hq⟩ : ∃ q, (z.toList == s.toList) = q := ⟨_, rfl⟩
   cases q with
   | true =>
    go_wp2_with fail
    go_ret
    exact ⟨true, rfl, hb⟩
   | false =>
    go_wp2_with fail
    go_roundg (gk - 1)
    case measure => omega
    case rel => exact ⟨i + 1, by first | rfl | (simp; done), by omega, rfl⟩
  ·have hiz : ¬ (i : Int) < 39 := by omega
   go_wp2_with fail
   go_ret
   exact ⟨false, rfl, hb⟩

end Go.Proofs.YtbcmmecilheicaaGreatDoor

/- The document's names, values that may be. Printed by mkpe2.py. -/
namespace Go.Proofs.YtbcmmecilheicaaGreatDoor
open Go Go.RowKit

def NamePost (s : ByteArray) (w : World) (e : Ending) (w' : World) : Prop := ∃ b : Bool, e = .returned (.bool b) ∧ Hid (b = true → s.size ≤ 32) ∧ Hid (Below w.heap.size w w')
set_option maxRecDepth 100000 in
set_option maxHeartbeats 16000000 in
/-- a name: if it is one, it is short -/
theorem name145 (w : World) (s : ByteArray) (hs : s.size ≤ TB) : Calls Tryz.prog 145 #[.string s] w (NamePost s w) := by
 have hs9 : (s.size : Int) ≤ 140737488355328 := by unfold TB at hs; omega
 go_enter Tryz.func145, Tryz.ntmps145
 go_wp2_with fail
 go_loopg [3] s.size (fun kx s3 wr => ∃ i : Nat, s3 = .int .i64 i ∧ kx + i = s.size ∧ wr = w)
 case atStart => exact ⟨0, rfl, rfl, rfl⟩
 case round =>
  obtain ⟨i, rfl, hk, rfl⟩ := hrel
  have hi9 : (i : Int) ≤ 140737488355328 := by omega
  have hi0 : (0 : Int) ≤ (i : Int) := by omega
  by_cases hi : i < s.size
  ·have hiz : (i : Int) < (s.size : Int) := by omega
   obtain ⟨c, hc⟩ : ∃ c : Nat, s[i].toNat = c := ⟨_, rfl⟩
   have hc0 : (0 : Int) ≤ (c : Int) := by omega
   rcases (show c < 48 ∨ (48 ≤ c ∧ c ≤ 57) ∨ (58 ≤ c ∧ c ≤ 94) ∨ c = 95 ∨ c = 96 ∨ (97 ≤ c ∧ c ≤ 122) ∨ 122 < c by omega) with h | h | h | h | h | h | h
   ·have a97 : decide ((97 : Int) ≤ (c : Int)) = false := by simp; omega
    have a97n : decide (97 ≤ c) = false := by simp; omega
    have a122 : decide ((c : Int) ≤ 122) = true := by simp; omega
    have a122n : decide (c ≤ 122) = true := by simp; omega
    have a48 : decide ((48 : Int) ≤ (c : Int)) = false := by simp; omega
    have a48n : decide (48 ≤ c) = false := by simp; omega
    have a57 : decide ((c : Int) ≤ 57) = true := by simp; omega
    have a57n : decide (c ≤ 57) = true := by simp; omega
    have a95 : ((c : Int) == 95) = false := by simp; omega
    clear h
    go_wp2_with fail
    go_ret
    exact ⟨false, rfl, Lib.hid (fun h => by cases h), Lib.hid (Below.refl _ _)⟩
   ·have a97 : decide ((97 : Int) ≤ (c : Int)) = false := by simp; omega
    have a97n : decide (97 ≤ c) = false := by simp; omega
    have a122 : decide ((c : Int) ≤ 122) = true := by simp; omega
    have a122n : decide (c ≤ 122) = true := by simp; omega
    have a48 : decide ((48 : Int) ≤ (c : Int)) = true := by simp; omega
    have a48n : decide (48 ≤ c) = true := by simp; omega
    have a57 : decide ((c : Int) ≤ 57) = true := by simp; omega
    have a57n : decide (c ≤ 57) = true := by simp; omega
    have a95 : ((c : Int) == 95) = false := by simp; omega
    clear h
    rcases Nat.eq_zero_or_pos i with h0 | h0
    ·subst h0
     go_wp2_with fail
     go_ret
     exact ⟨false, rfl, Lib.hid (fun h => by cases h), Lib.hid (Below.refl _ _)⟩
    ·have h0i : (0 : Int) < (i : Int) := by omega
     go_wp2_with fail
     go_roundg (gk - 1)
     case measure => omega
     case rel => exact ⟨i + 1, by first | rfl | (simp; done), by omega, rfl⟩
   ·have a97 : decide ((97 : Int) ≤ (c : Int)) = false := by simp; omega
    have a97n : decide (97 ≤ c) = false := by simp; omega
    have a122 : decide ((c : Int) ≤ 122) = true := by simp; omega
    have a122n : decide (c ≤ 122) = true := by simp; omega
    have a48 : decide ((48 : Int) ≤ (c : Int)) = true := by simp; omega
    have a48n : decide (48 ≤ c) = true := by simp; omega
    have a57 : decide ((c : Int) ≤ 57) = false := by simp; omega
    have a57n : decide (c ≤ 57) = false := by simp; omega
    have a95 : ((c : Int) == 95) = false := by simp; omega
    clear h
    go_wp2_with fail
    go_ret
    exact ⟨false, rfl, Lib.hid (fun h => by cases h), Lib.hid (Below.refl _ _)⟩
   ·have a97 : decide ((97 : Int) ≤ (c : Int)) = false := by simp; omega
    have a97n : decide (97 ≤ c) = false := by simp; omega
    have a122 : decide ((c : Int) ≤ 122) = true := by simp; omega
    have a122n : decide (c ≤ 122) = true := by simp; omega
    have a48 : decide ((48 : Int) ≤ (c : Int)) = true := by simp; omega
    have a48n : decide (48 ≤ c) = true := by simp; omega
    have a57 : decide ((c : Int) ≤ 57) = false := by simp; omega
    have a57n : decide (c ≤ 57) = false := by simp; omega
    have a95 : ((c : Int) == 95) = true := by simp; omega
    clear h
    rcases Nat.eq_zero_or_pos i with h0 | h0
    ·subst h0
     go_wp2_with fail
     go_ret
     exact ⟨false, rfl, Lib.hid (fun h => by cases h), Lib.hid (Below.refl _ _)⟩
    ·have h0i : (0 : Int) < (i : Int) := by omega
     go_wp2_with fail
     go_roundg (gk - 1)
     case measure => omega
     case rel => exact ⟨i + 1, by first | rfl | (simp; done), by omega, rfl⟩
   ·have a97 : decide ((97 : Int) ≤ (c : Int)) = false := by simp; omega
    have a97n : decide (97 ≤ c) = false := by simp; omega
    have a122 : decide ((c : Int) ≤ 122) = true := by simp; omega
    have a122n : decide (c ≤ 122) = true := by simp; omega
    have a48 : decide ((48 : Int) ≤ (c : Int)) = true := by simp; omega
    have a48n : decide (48 ≤ c) = true := by simp; omega
    have a57 : decide ((c : Int) ≤ 57) = false := by simp; omega
    have a57n : decide (c ≤ 57) = false := by simp; omega
    have a95 : ((c : Int) == 95) = false := by simp; omega
    clear h
    go_wp2_with fail
    go_ret
    exact ⟨false, rfl, Lib.hid (fun h => by cases h), Lib.hid (Below.refl _ _)⟩
   ·have a97 : decide ((97 : Int) ≤ (c : Int)) = true := by simp; omega
    have a97n : decide (97 ≤ c) = true := by simp; omega
    have a122 : decide ((c : Int) ≤ 122) = true := by simp; omega
    have a122n : decide (c ≤ 122) = true := by simp; omega
    have a48 : decide ((48 : Int) ≤ (c : Int)) = true := by simp; omega
    have a48n : decide (48 ≤ c) = true := by simp; omega
    have a57 : decide ((c : Int) ≤ 57) = false := by simp; omega
    have a57n : decide (c ≤ 57) = false := by simp; omega
    have a95 : ((c : Int) == 95) = false := by simp; omega
    clear h
    go_wp2_with fail
    go_roundg (gk - 1)
    case measure => omega
    case rel => exact ⟨i + 1, by first | rfl | (simp; done), by omega, rfl⟩
   ·have a97 : decide ((97 : Int) ≤ (c : Int)) = true := by simp; omega
    have a97n : decide (97 ≤ c) = true := by simp; omega
    have a122 : decide ((c : Int) ≤ 122) = false := by simp; omega
    have a122n : decide (c ≤ 122) = false := by simp; omega
    have a48 : decide ((48 : Int) ≤ (c : Int)) = true := by simp; omega
    have a48n : decide (48 ≤ c) = true := by simp; omega
    have a57 : decide ((c : Int) ≤ 57) = false := by simp; omega
    have a57n : decide (c ≤ 57) = false := by simp; omega
    have a95 : ((c : Int) == 95) = false := by simp; omega
    clear h
    go_wp2_with fail
    go_ret
    exact ⟨false, rfl, Lib.hid (fun h => by cases h), Lib.hid (Below.refl _ _)⟩
  ·have hiz : ¬ (i : Int) < (s.size : Int) := by omega
   rcases (show s.size = 0 ∨ (0 < s.size ∧ s.size ≤ 32) ∨ 32 < s.size by omega) with h | h | h
   ·have k1 : ¬ (0 : Int) < (s.size : Int) := by omega
    have k3 : ¬ 0 < s.size := by omega
    clear h
    go_wp2_with fail
    go_ret
    exact ⟨false, rfl, Lib.hid (fun h => by cases h), Lib.hid (Below.refl _ _)⟩
   ·have k1 : (0 : Int) < (s.size : Int) := by omega
    have k2 : (s.size : Int) ≤ 32 := by omega
    have k3 : 0 < s.size := by omega
    clear h
    go_wp2_with fail
    refine (reserved169 _ _).mono ?_
    rintro e w1 ⟨b, rfl, hb⟩
    cases b with
    | true =>
     go_wp2_with fail
     go_ret
     exact ⟨false, rfl, Lib.hid (fun h => by cases h), hb⟩
    | false =>
     go_wp2_with fail
     go_ret
     exact ⟨true, rfl, Lib.hid (fun _ => by omega), hb⟩
   ·have k1 : (0 : Int) < (s.size : Int) := by omega
    have k2 : ¬ (s.size : Int) ≤ 32 := by omega
    have k3 : 0 < s.size := by omega
    have k4 : decide ((s.size : Int) ≤ 32) = false := decide_eq_false k2
    clear h
    go_wp2_with fail
    go_ret
    exact ⟨false, rfl, Lib.hid (fun h => by cases h), Lib.hid (Below.refl _ _)⟩

/-- a value that may be -/
def validV (v : Val) : Prop := 0 ≤ v.kind ∧ v.kind ≤ 3 ∧ (v.kind ≠ 1 → v.int = 0) ∧ (v.kind ≠ 2 → v.text.toList = []) ∧ (v.kind ≠ 3 → v.bool = false) ∧ v.text.size ≤ 4096 ∧ ∀ i (h : i < v.text.size), 32 ≤ v.text[i].toNat ∧ v.text[i].toNat ≤ 126
/-- 0 of a value that may be, else an error's number -/
def ValidPost (v : Val) (w : World) (e : Ending) (w' : World) : Prop := ∃ n : Int, e = .returned (.int .i64 n) ∧ Hid (0 ≤ n ∧ n ≤ 3 ∧ (n = 0 → validV v)) ∧ Hid (Below w.heap.size w w')
set_option maxRecDepth 100000 in
set_option maxHeartbeats 16000000 in
theorem valid36 (w : World) (k n : Int) (s : ByteArray) (b : Bool) (hs : s.size ≤ TB) : Calls Tryz.prog 36 #[.agg #[.int .i64 k, .int .i64 n, .string s, .bool b]] w (ValidPost ⟨k, n, s, b⟩ w) := by
 have hs9 : (s.size : Int) ≤ 140737488355328 := by unfold TB at hs; omega
 obtain ⟨w1, hw1⟩ : ∃ z, z = w.alloc (.cells #[.int .i64 k, .int .i64 n, .string s, .bool b] 26) := ⟨_, rfl⟩
 have B1 := Lib.hid (show Below w.heap.size w w1 by rw [hw1]; exact below_alloc _ _)
 have Z1 := Lib.hid (show Blk w1 w.heap.size 26 #[.int .i64 k, .int .i64 n, .string s, .bool b] by rw [hw1]; exact Blk.new w 26 _)
 have z0 := Z1.out.cell 0
 have z1 := Z1.out.cell 1
 have z2 := Z1.out.cell 2
 have z3 := Z1.out.cell 3
 have hl := Z1.out.lt
 go_enter Tryz.func36, Tryz.ntmps36
 go_upto_region 1 with fail
 rw [← hw1]
 clear hw1
 rcases (show k < 0 ∨ 3 < k ∨ k = 0 ∨ k = 1 ∨ k = 2 ∨ k = 3 by omega) with hk | hk | rfl | rfl | rfl | rfl
 ·go_wp2_with fail
  go_ret
  exact ⟨3, rfl, Lib.hid ⟨by omega, by omega, fun h => by omega⟩, B1⟩
 ·have hk2 : ¬ k < 0 := by omega
  go_wp2_with fail
  go_ret
  exact ⟨3, rfl, Lib.hid ⟨by omega, by omega, fun h => by omega⟩, B1⟩
 ·skip
  by_cases hn : n = 0
  ·have HI0 := Lib.hid hn
   have hn2 : (n != 0) = false := by simpa using hn
   have hn3 : (n == 0) = true := by simpa using hn
   clear hn
   by_cases ht : s.toList = []
   ·have HT0 := Lib.hid ht
    have ht2 : s.toList.isEmpty = true := by rw [ht]; rfl
    cases b with
    | false =>
     have HB0 := Lib.hid (show (false : Bool) = false from rfl)
     rcases (show 4096 < s.size ∨ s.size ≤ 4096 by omega) with hb4 | hb4
     ·have hb5 : (4096 : Int) < (s.size : Int) := by omega
      go_wp2_with fail
      go_ret
      exact ⟨2, rfl, Lib.hid ⟨by omega, by omega, fun h => by omega⟩, B1⟩
     ·have hb5 : ¬ (4096 : Int) < (s.size : Int) := by omega
      go_wp2_with fail
      go_loopg [3] s.size (fun kx s3 wr => ∃ i : Nat, s3 = .int .i64 i ∧ kx + i = s.size ∧ wr = w1 ∧ Hid (∀ j (h : j < s.size), j < i → 32 ≤ s[j].toNat ∧ s[j].toNat ≤ 126))
      case atStart => exact ⟨0, rfl, rfl, rfl, Lib.hid (fun j h hj => absurd hj (Nat.not_lt_zero _))⟩
      case round =>
       obtain ⟨i, rfl, hki, rfl, HJ⟩ := hrel
       have hi9 : (i : Int) ≤ 140737488355328 := by omega
       have hi0 : (0 : Int) ≤ (i : Int) := by omega
       by_cases hi : i < s.size
       ·have hiz : (i : Int) < (s.size : Int) := by omega
        obtain ⟨c, hc⟩ : ∃ c : Nat, s[i].toNat = c := ⟨_, rfl⟩
        have HC := Lib.hid hc
        rcases (show c < 32 ∨ (32 ≤ c ∧ c ≤ 126) ∨ 126 < c by omega) with h | h | h
        ·have f1 : decide ((c : Int) < 32) = true := by simp; omega
         have f1n : decide (c < 32) = true := by simp; omega
         clear h
         go_wp2_with fail
         go_ret
         exact ⟨3, rfl, Lib.hid ⟨by omega, by omega, fun h => by omega⟩, B1⟩
        ·have f1 : decide ((c : Int) < 32) = false := by simp; omega
         have f1n : decide (c < 32) = false := by simp; omega
         have f2 : decide ((126 : Int) < (c : Int)) = false := by simp; omega
         have f2n : decide (126 < c) = false := by simp; omega
         have NX := Lib.hid (show ∀ j (h : j < s.size), j < i + 1 → 32 ≤ s[j].toNat ∧ s[j].toNat ≤ 126 from fun j hj hji => by
          rcases Nat.lt_or_ge j i with q | q
          ·exact HJ.out j hj q
          ·obtain rfl : j = i := by omega
           rw [HC.out]; exact h)
         clear h
         go_wp2_with fail
         go_roundg (gk - 1)
         case measure => omega
         case rel => exact ⟨i + 1, by first | rfl | (simp; done), by omega, rfl, NX⟩
        ·have f1 : decide ((c : Int) < 32) = false := by simp; omega
         have f1n : decide (c < 32) = false := by simp; omega
         have f2 : decide ((126 : Int) < (c : Int)) = true := by simp; omega
         have f2n : decide (126 < c) = true := by simp; omega
         clear h
         go_wp2_with fail
         go_ret
         exact ⟨3, rfl, Lib.hid ⟨by omega, by omega, fun h => by omega⟩, B1⟩
       ·have hiz : ¬ (i : Int) < (s.size : Int) := by omega
        have hie : i = s.size := by omega
        have FIN := Lib.hid (show validV ⟨0, n, s, false⟩ from ⟨by show (0 : Int) ≤ 0; omega, by show (0 : Int) ≤ 3; omega, fun _ => HI0.out, fun _ => HT0.out, fun _ => rfl, hb4, fun j hj => HJ.out j hj (by rw [hie]; exact hj)⟩)
        clear hie
        go_wp2_with fail
        go_ret
        exact ⟨0, rfl, Lib.hid ⟨by omega, by omega, fun _ => FIN.out⟩, B1⟩
    | true =>
     go_wp2_with fail
     go_ret
     exact ⟨3, rfl, Lib.hid ⟨by omega, by omega, fun h => by omega⟩, B1⟩
   ·have ht2 : s.toList.isEmpty = false := by simpa using ht
    go_wp2_with fail
    go_ret
    exact ⟨3, rfl, Lib.hid ⟨by omega, by omega, fun h => by omega⟩, B1⟩
  ·have hn2 : (n != 0) = true := by simpa using hn
   have hn3 : (n == 0) = false := by simpa using hn
   go_wp2_with fail
   go_ret
   exact ⟨3, rfl, Lib.hid ⟨by omega, by omega, fun h => by omega⟩, B1⟩
 ·skip
  by_cases ht : s.toList = []
  ·have HT0 := Lib.hid ht
   have ht2 : s.toList.isEmpty = true := by rw [ht]; rfl
   cases b with
   | false =>
    have HB0 := Lib.hid (show (false : Bool) = false from rfl)
    rcases (show 4096 < s.size ∨ s.size ≤ 4096 by omega) with hb4 | hb4
    ·have hb5 : (4096 : Int) < (s.size : Int) := by omega
     go_wp2_with fail
     go_ret
     exact ⟨2, rfl, Lib.hid ⟨by omega, by omega, fun h => by omega⟩, B1⟩
    ·have hb5 : ¬ (4096 : Int) < (s.size : Int) := by omega
     go_wp2_with fail
     go_loopg [3] s.size (fun kx s3 wr => ∃ i : Nat, s3 = .int .i64 i ∧ kx + i = s.size ∧ wr = w1 ∧ Hid (∀ j (h : j < s.size), j < i → 32 ≤ s[j].toNat ∧ s[j].toNat ≤ 126))
     case atStart => exact ⟨0, rfl, rfl, rfl, Lib.hid (fun j h hj => absurd hj (Nat.not_lt_zero _))⟩
     case round =>
      obtain ⟨i, rfl, hki, rfl, HJ⟩ := hrel
      have hi9 : (i : Int) ≤ 140737488355328 := by omega
      have hi0 : (0 : Int) ≤ (i : Int) := by omega
      by_cases hi : i < s.size
      ·have hiz : (i : Int) < (s.size : Int) := by omega
       obtain ⟨c, hc⟩ : ∃ c : Nat, s[i].toNat = c := ⟨_, rfl⟩
       have HC := Lib.hid hc
       rcases (show c < 32 ∨ (32 ≤ c ∧ c ≤ 126) ∨ 126 < c by omega) with h | h | h
       ·have f1 : decide ((c : Int) < 32) = true := by simp; omega
        have f1n : decide (c < 32) = true := by simp; omega
        clear h
        go_wp2_with fail
        go_ret
        exact ⟨3, rfl, Lib.hid ⟨by omega, by omega, fun h => by omega⟩, B1⟩
       ·have f1 : decide ((c : Int) < 32) = false := by simp; omega
        have f1n : decide (c < 32) = false := by simp; omega
        have f2 : decide ((126 : Int) < (c : Int)) = false := by simp; omega
        have f2n : decide (126 < c) = false := by simp; omega
        have NX := Lib.hid (show ∀ j (h : j < s.size), j < i + 1 → 32 ≤ s[j].toNat ∧ s[j].toNat ≤ 126 from fun j hj hji => by
         rcases Nat.lt_or_ge j i with q | q
         ·exact HJ.out j hj q
         ·obtain rfl : j = i := by omega
          rw [HC.out]; exact h)
        clear h
        go_wp2_with fail
        go_roundg (gk - 1)
        case measure => omega
        case rel => exact ⟨i + 1, by first | rfl | (simp; done), by omega, rfl, NX⟩
       ·have f1 : decide ((c : Int) < 32) = false := by simp; omega
        have f1n : decide (c < 32) = false := by simp; omega
        have f2 : decide ((126 : Int) < (c : Int)) = true := by simp; omega
        have f2n : decide (126 < c) = true := by simp; omega
        clear h
        go_wp2_with fail
        go_ret
        exact ⟨3, rfl, Lib.hid ⟨by omega, by omega, fun h => by omega⟩, B1⟩
      ·have hiz : ¬ (i : Int) < (s.size : Int) := by omega
       have hie : i = s.size := by omega
       have FIN := Lib.hid (show validV ⟨1, n, s, false⟩ from ⟨by show (0 : Int) ≤ 1; omega, by show (1 : Int) ≤ 3; omega, fun h => absurd rfl h, fun _ => HT0.out, fun _ => rfl, hb4, fun j hj => HJ.out j hj (by rw [hie]; exact hj)⟩)
       clear hie
       go_wp2_with fail
       go_ret
       exact ⟨0, rfl, Lib.hid ⟨by omega, by omega, fun _ => FIN.out⟩, B1⟩
   | true =>
    go_wp2_with fail
    go_ret
    exact ⟨3, rfl, Lib.hid ⟨by omega, by omega, fun h => by omega⟩, B1⟩
  ·have ht2 : s.toList.isEmpty = false := by simpa using ht
   go_wp2_with fail
   go_ret
   exact ⟨3, rfl, Lib.hid ⟨by omega, by omega, fun h => by omega⟩, B1⟩
 ·skip
  by_cases hn : n = 0
  ·have HI0 := Lib.hid hn
   have hn2 : (n != 0) = false := by simpa using hn
   have hn3 : (n == 0) = true := by simpa using hn
   clear hn
   cases b with
   | false =>
    have HB0 := Lib.hid (show (false : Bool) = false from rfl)
    rcases (show 4096 < s.size ∨ s.size ≤ 4096 by omega) with hb4 | hb4
    ·have hb5 : (4096 : Int) < (s.size : Int) := by omega
     go_wp2_with fail
     go_ret
     exact ⟨2, rfl, Lib.hid ⟨by omega, by omega, fun h => by omega⟩, B1⟩
    ·have hb5 : ¬ (4096 : Int) < (s.size : Int) := by omega
     go_wp2_with fail
     go_loopg [3] s.size (fun kx s3 wr => ∃ i : Nat, s3 = .int .i64 i ∧ kx + i = s.size ∧ wr = w1 ∧ Hid (∀ j (h : j < s.size), j < i → 32 ≤ s[j].toNat ∧ s[j].toNat ≤ 126))
     case atStart => exact ⟨0, rfl, rfl, rfl, Lib.hid (fun j h hj => absurd hj (Nat.not_lt_zero _))⟩
     case round =>
      obtain ⟨i, rfl, hki, rfl, HJ⟩ := hrel
      have hi9 : (i : Int) ≤ 140737488355328 := by omega
      have hi0 : (0 : Int) ≤ (i : Int) := by omega
      by_cases hi : i < s.size
      ·have hiz : (i : Int) < (s.size : Int) := by omega
       obtain ⟨c, hc⟩ : ∃ c : Nat, s[i].toNat = c := ⟨_, rfl⟩
       have HC := Lib.hid hc
       rcases (show c < 32 ∨ (32 ≤ c ∧ c ≤ 126) ∨ 126 < c by omega) with h | h | h
       ·have f1 : decide ((c : Int) < 32) = true := by simp; omega
        have f1n : decide (c < 32) = true := by simp; omega
        clear h
        go_wp2_with fail
        go_ret
        exact ⟨3, rfl, Lib.hid ⟨by omega, by omega, fun h => by omega⟩, B1⟩
       ·have f1 : decide ((c : Int) < 32) = false := by simp; omega
        have f1n : decide (c < 32) = false := by simp; omega
        have f2 : decide ((126 : Int) < (c : Int)) = false := by simp; omega
        have f2n : decide (126 < c) = false := by simp; omega
        have NX := Lib.hid (show ∀ j (h : j < s.size), j < i + 1 → 32 ≤ s[j].toNat ∧ s[j].toNat ≤ 126 from fun j hj hji => by
         rcases Nat.lt_or_ge j i with q | q
         ·exact HJ.out j hj q
         ·obtain rfl : j = i := by omega
          rw [HC.out]; exact h)
        clear h
        go_wp2_with fail
        go_roundg (gk - 1)
        case measure => omega
        case rel => exact ⟨i + 1, by first | rfl | (simp; done), by omega, rfl, NX⟩
       ·have f1 : decide ((c : Int) < 32) = false := by simp; omega
        have f1n : decide (c < 32) = false := by simp; omega
        have f2 : decide ((126 : Int) < (c : Int)) = true := by simp; omega
        have f2n : decide (126 < c) = true := by simp; omega
        clear h
        go_wp2_with fail
        go_ret
        exact ⟨3, rfl, Lib.hid ⟨by omega, by omega, fun h => by omega⟩, B1⟩
      ·have hiz : ¬ (i : Int) < (s.size : Int) := by omega
       have hie : i = s.size := by omega
       have FIN := Lib.hid (show validV ⟨2, n, s, false⟩ from ⟨by show (0 : Int) ≤ 2; omega, by show (2 : Int) ≤ 3; omega, fun _ => HI0.out, fun h => absurd rfl h, fun _ => rfl, hb4, fun j hj => HJ.out j hj (by rw [hie]; exact hj)⟩)
       clear hie
       go_wp2_with fail
       go_ret
       exact ⟨0, rfl, Lib.hid ⟨by omega, by omega, fun _ => FIN.out⟩, B1⟩
   | true =>
    go_wp2_with fail
    go_ret
    exact ⟨3, rfl, Lib.hid ⟨by omega, by omega, fun h => by omega⟩, B1⟩
  ·have hn2 : (n != 0) = true := by simpa using hn
   have hn3 : (n == 0) = false := by simpa using hn
   go_wp2_with fail
   go_ret
   exact ⟨3, rfl, Lib.hid ⟨by omega, by omega, fun h => by omega⟩, B1⟩
 ·skip
  by_cases hn : n = 0
  ·have HI0 := Lib.hid hn
   have hn2 : (n != 0) = false := by simpa using hn
   have hn3 : (n == 0) = true := by simpa using hn
   clear hn
   by_cases ht : s.toList = []
   ·have HT0 := Lib.hid ht
    have ht2 : s.toList.isEmpty = true := by rw [ht]; rfl
    rcases (show 4096 < s.size ∨ s.size ≤ 4096 by omega) with hb4 | hb4
    ·have hb5 : (4096 : Int) < (s.size : Int) := by omega
     go_wp2_with fail
     go_ret
     exact ⟨2, rfl, Lib.hid ⟨by omega, by omega, fun h => by omega⟩, B1⟩
    ·have hb5 : ¬ (4096 : Int) < (s.size : Int) := by omega
     go_wp2_with fail
     go_loopg [3] s.size (fun kx s3 wr => ∃ i : Nat, s3 = .int .i64 i ∧ kx + i = s.size ∧ wr = w1 ∧ Hid (∀ j (h : j < s.size), j < i → 32 ≤ s[j].toNat ∧ s[j].toNat ≤ 126))
     case atStart => exact ⟨0, rfl, rfl, rfl, Lib.hid (fun j h hj => absurd hj (Nat.not_lt_zero _))⟩
     case round =>
      obtain ⟨i, rfl, hki, rfl, HJ⟩ := hrel
      have hi9 : (i : Int) ≤ 140737488355328 := by omega
      have hi0 : (0 : Int) ≤ (i : Int) := by omega
      by_cases hi : i < s.size
      ·have hiz : (i : Int) < (s.size : Int) := by omega
       obtain ⟨c, hc⟩ : ∃ c : Nat, s[i].toNat = c := ⟨_, rfl⟩
       have HC := Lib.hid hc
       rcases (show c < 32 ∨ (32 ≤ c ∧ c ≤ 126) ∨ 126 < c by omega) with h | h | h
       ·have f1 : decide ((c : Int) < 32) = true := by simp; omega
        have f1n : decide (c < 32) = true := by simp; omega
        clear h
        go_wp2_with fail
        go_ret
        exact ⟨3, rfl, Lib.hid ⟨by omega, by omega, fun h => by omega⟩, B1⟩
       ·have f1 : decide ((c : Int) < 32) = false := by simp; omega
        have f1n : decide (c < 32) = false := by simp; omega
        have f2 : decide ((126 : Int) < (c : Int)) = false := by simp; omega
        have f2n : decide (126 < c) = false := by simp; omega
        have NX := Lib.hid (show ∀ j (h : j < s.size), j < i + 1 → 32 ≤ s[j].toNat ∧ s[j].toNat ≤ 126 from fun j hj hji => by
         rcases Nat.lt_or_ge j i with q | q
         ·exact HJ.out j hj q
         ·obtain rfl : j = i := by omega
          rw [HC.out]; exact h)
        clear h
        go_wp2_with fail
        go_roundg (gk - 1)
        case measure => omega
        case rel => exact ⟨i + 1, by first | rfl | (simp; done), by omega, rfl, NX⟩
       ·have f1 : decide ((c : Int) < 32) = false := by simp; omega
        have f1n : decide (c < 32) = false := by simp; omega
        have f2 : decide ((126 : Int) < (c : Int)) = true := by simp; omega
        have f2n : decide (126 < c) = true := by simp; omega
        clear h
        go_wp2_with fail
        go_ret
        exact ⟨3, rfl, Lib.hid ⟨by omega, by omega, fun h => by omega⟩, B1⟩
      ·have hiz : ¬ (i : Int) < (s.size : Int) := by omega
       have hie : i = s.size := by omega
       have FIN := Lib.hid (show validV ⟨3, n, s, b⟩ from ⟨by show (0 : Int) ≤ 3; omega, by show (3 : Int) ≤ 3; omega, fun _ => HI0.out, fun _ => HT0.out, fun h => absurd rfl h, hb4, fun j hj => HJ.out j hj (by rw [hie]; exact hj)⟩)
       clear hie
       go_wp2_with fail
       go_ret
       exact ⟨0, rfl, Lib.hid ⟨by omega, by omega, fun _ => FIN.out⟩, B1⟩
   ·have ht2 : s.toList.isEmpty = false := by simpa using ht
    go_wp2_with fail
    go_ret
    exact ⟨3, rfl, Lib.hid ⟨by omega, by omega, fun h => by omega⟩, B1⟩
  ·have hn2 : (n != 0) = true := by simpa using hn
   have hn3 : (n == 0) = false := by simpa using hn
   go_wp2_with fail
   go_ret
   exact ⟨3, rfl, Lib.hid ⟨by omega, by omega, fun h => by omega⟩, B1⟩
end Go.Proofs.YtbcmmecilheicaaGreatDoor


/- The document's expressions in memory; which may be. Printed by mkpe3.py. -/
namespace Go.Proofs.YtbcmmecilheicaaGreatDoor
open Go Go.RowKit

theorem size_toList (s : ByteArray) : s.size = s.toList.length := by
 obtain ⟨a⟩ := s
 rw [ByteArray.toList_mk]
 simp [ByteArray.size]
/-- an expression as it was parsed -/
inductive PEx where
 | mk (op : ByteArray) (v : Val) (name : ByteArray) (args : List PEx)
def PEx.op : PEx → ByteArray | .mk o _ _ _ => o
def PEx.val : PEx → Val | .mk _ v _ _ => v
def PEx.name : PEx → ByteArray | .mk _ _ n _ => n
/-- its seven cells -/
structure PExC (W : World) (b o : Nat) (x : PEx) (A : Option Addr) (n c : Nat) : Prop where
 c0 : W.cell? ⟨b, o, none⟩ = some (.string x.op)
 c1 : W.cell? ⟨b, o + 1, none⟩ = some (.int .i64 x.val.kind)
 c2 : W.cell? ⟨b, o + 2, none⟩ = some (.int .i64 x.val.int)
 c3 : W.cell? ⟨b, o + 3, none⟩ = some (.string x.val.text)
 c4 : W.cell? ⟨b, o + 4, none⟩ = some (.bool x.val.bool)
 c5 : W.cell? ⟨b, o + 5, none⟩ = some (.string x.name)
 c6 : W.cell? ⟨b, o + 6, none⟩ = some (.slice A n c)
theorem PExC.below {W W' : World} {b o : Nat} {x : PEx} {A : Option Addr} {n c : Nat} (h : PExC W b o x A n c) (hb : b < W.heap.size) (hW : Below W.heap.size W W') : PExC W' b o x A n c :=
 ⟨(hW.cell (p := ⟨b, o, none⟩) hb).trans h.c0, (hW.cell (p := ⟨b, o + 1, none⟩) hb).trans h.c1, (hW.cell (p := ⟨b, o + 2, none⟩) hb).trans h.c2, (hW.cell (p := ⟨b, o + 3, none⟩) hb).trans h.c3, (hW.cell (p := ⟨b, o + 4, none⟩) hb).trans h.c4, (hW.cell (p := ⟨b, o + 5, none⟩) hb).trans h.c5, (hW.cell (p := ⟨b, o + 6, none⟩) hb).trans h.c6⟩
/-- it, in memory: what its Args' slice leads to -/
inductive PExIs (W : World) : PEx → Option Addr → Nat → Nat → Prop
 | mk (op : ByteArray) (v : Val) (name : ByteArray) (args : List PEx) (A : Option Addr) (n c : Nat) (len : args.length = n) (small : n ≤ 1466015503701) (t0 : op.size ≤ TB) (t1 : v.text.size ≤ TB) (t2 : name.size ≤ TB) (b off : Nat) (hA : 0 < n → A = some ⟨b, off, none⟩ ∧ b < W.heap.size)
   (As : Nat → Option Addr) (ns cs : Nat → Nat) (cells : ∀ (j : Nat) (e : PEx), args[j]? = some e → PExC W b (off + j * 7) e (As j) (ns j) (cs j)) (sub : ∀ (j : Nat) (e : PEx), args[j]? = some e → PExIs W e (As j) (ns j) (cs j)) : PExIs W (.mk op v name args) A n c
theorem PExIs.bel {W W' : World} (hW : Below W.heap.size W W') {x : PEx} {A : Option Addr} {n c : Nat} (h : PExIs W x A n c) : PExIs W' x A n c := by
 induction h with
 | mk op v name args A n c len small t0 t1 t2 b off hA As ns cs cells sub ih =>
  have hpos : ∀ (j : Nat) (e : PEx), args[j]? = some e → b < W.heap.size := fun j e hj => (hA (by have := (List.getElem?_eq_some_iff.1 hj).1; omega)).2
  exact .mk op v name args A n c len small t0 t1 t2 b off (fun h0 => ⟨(hA h0).1, Nat.lt_of_lt_of_le (hA h0).2 hW.size⟩) As ns cs (fun j e hj => (cells j e hj).below (hpos j e hj) hW) ih
/-- an expression that may be -/
inductive MayOk : PEx → Prop
 | mk (op : ByteArray) (v : Val) (name : ByteArray) (args : List PEx) (ar : (args.length = 0 ∧ Among op opsN) ∨ (args.length = 1 ∧ Among op opsO) ∨ (args.length = 2 ∧ Among op opsT)) (hv : validV v) (hk : op.toList ≠ [108, 105, 116] → v.kind = 0) (nm : name.size ≤ 32) (sub : ∀ (j : Nat) (e : PEx), args[j]? = some e → MayOk e) : MayOk (.mk op v name args)
def MayPost (x : PEx) (w : World) (e : Ending) (w' : World) : Prop := ∃ b : Bool, e = .returned (.bool b) ∧ Hid (b = true → MayOk x) ∧ Hid (Below w.heap.size w w')

set_option maxRecDepth 100000 in
set_option maxHeartbeats 16000000 in
theorem may102_mk (w : World) (op : ByteArray) (v : Val) (name : ByteArray) (args : List PEx) (A : Option Addr) (n c : Nat) (len : args.length = n) (small : n ≤ 1466015503701) (t1 : v.text.size ≤ TB) (t2 : name.size ≤ TB) (b off : Nat) (hA : 0 < n → A = some ⟨b, off, none⟩ ∧ b < w.heap.size)
  (As : Nat → Option Addr) (ns cs : Nat → Nat) (cells : ∀ (j : Nat) (e : PEx), args[j]? = some e → PExC w b (off + j * 7) e (As j) (ns j) (cs j))
  (ih : ∀ (j : Nat) (e : PEx), args[j]? = some e → ∀ W, Below w.heap.size w W → Calls Tryz.prog 102 #[.agg #[.string e.op, .int .i64 e.val.kind, .int .i64 e.val.int, .string e.val.text, .bool e.val.bool, .string e.name, .slice (As j) (ns j) (cs j)]] W (MayPost e W)) :
  Calls Tryz.prog 102 #[.agg #[.string op, .int .i64 v.kind, .int .i64 v.int, .string v.text, .bool v.bool, .string name, .slice A n c]] w (MayPost (.mk op v name args) w) := by
 obtain ⟨vk, vi, vt, vb⟩ := v
 obtain ⟨w1, hw1⟩ : ∃ z, z = w.alloc (.cells #[.string op, .int .i64 vk, .int .i64 vi, .string vt, .bool vb, .string name, .slice A n c] 29) := ⟨_, rfl⟩
 have B1 := Lib.hid (show Below w.heap.size w w1 by rw [hw1]; exact below_alloc _ _)
 have Z1 := Lib.hid (show Blk w1 w.heap.size 29 #[.string op, .int .i64 vk, .int .i64 vi, .string vt, .bool vb, .string name, .slice A n c] by rw [hw1]; exact Blk.new w 29 _)
 have HA := Lib.hid hA
 have HCL := Lib.hid cells
 have HIH := Lib.hid ih
 unfold MayPost at HIH
 have HLEN := Lib.hid len
 have T2 := Lib.hid t2
 have T1 := Lib.hid t1
 clear hA cells ih len t1 t2
 have hn9 : (n : Int) ≤ 1466015503701 := by omega
 have z0 := Z1.out.cell 0
 have hl1 := Z1.out.lt
 go_enter Tryz.func102, Tryz.ntmps102
 go_wp2_with fail
 rw [← hw1]
 clear hw1
 refine (kinds144 _ _).mono ?_
 rintro e w2 ⟨m, rfl, hm, hb2⟩
 clear z0
 have B2 := Lib.hid (bt hb2.out B1.out)
 have Z2 := Lib.hid (Z1.out.below hb2.out)
 have hl2 := Z2.out.lt
 have z0 := Z2.out.cell 0
 have z1 := Z2.out.cell 1
 have z2 := Z2.out.cell 2
 have z3 := Z2.out.cell 3
 have z4 := Z2.out.cell 4
 have z5 := Z2.out.cell 5
 have z6 := Z2.out.cell 6
 obtain ⟨hm1, hm2, hm3⟩ := hm.out
 have HM := Lib.hid hm3
 clear hm hm3 hb2 hl1
 rcases (show m < 0 ∨ 0 ≤ m by omega) with hneg | hpos
 ·go_wp2_with fail
  go_ret
  exact ⟨false, rfl, Lib.hid (fun h => by cases h), B2⟩
 have hpos2 : ¬ m < 0 := by omega
 by_cases hlen : (n : Int) = m
 ·have hle1 : ((n : Int) != m) = false := by simpa using hlen
  have hle2 : ((n : Int) == m) = true := by simpa using hlen
  have HAR := Lib.hid (show (args.length = 0 ∧ Among op opsN) ∨ (args.length = 1 ∧ Among op opsO) ∨ (args.length = 2 ∧ Among op opsT) by
   have h := HM.out
   have hL := HLEN.out
   rcases (show m = 0 ∨ m = 1 ∨ m = 2 by omega) with q | q | q
   ·exact .inl ⟨by omega, h.1 q⟩
   ·exact .inr (.inl ⟨by omega, h.2.1 q⟩)
   ·exact .inr (.inr ⟨by omega, h.2.2 q⟩))
  obtain rfl : (n : Int) = m := hlen
  by_cases hcol : op.toList = [99, 111, 108]
  ·have HC := Lib.hid hcol
   have k1 : (op.toList == [99, 111, 108]) = true := by simpa using hcol
   have k2 : (op.toList == [108, 105, 116]) = false := by rw [hcol]; rfl
   have NL := Lib.hid (show op.toList ≠ [108, 105, 116] by rw [hcol]; decide)
   clear hcol hpos
   go_wp2_with fail
   refine (name145 _ name T2.out).mono ?_
   rintro e w3 ⟨qn, rfl, hqn, hb3⟩
   have B3 := Lib.hid (bt hb3.out B2.out)
   have Z3 := Lib.hid (Z2.out.below hb3.out)
   clear hb3 z0 z1 z2 z3 z4 z5 z6 hl2
   have hl3 := Z3.out.lt
   have z0 := Z3.out.cell 0
   have z1 := Z3.out.cell 1
   have z2 := Z3.out.cell 2
   have z3 := Z3.out.cell 3
   have z4 := Z3.out.cell 4
   cases qn with
   | false =>
    go_wp2_with fail
    go_ret
    exact ⟨false, rfl, Lib.hid (fun h => by cases h), B3⟩
   | true =>
    have NM := Lib.hid (hqn.out (by first | rfl | trivial))
    clear hqn
    by_cases hk0 : vk = 0
    ·have q1 : (vk != 0) = false := by simpa using hk0
     have q2 : (vk == 0) = true := by simpa using hk0
     have HKK := Lib.hid (show op.toList ≠ [108, 105, 116] → vk = 0 from fun _ => hk0)
     clear hk0
     go_wp2_with fail
     refine (valid36 _ vk vi vt vb T1.out).mono ?_
     rintro e wv ⟨nv, rfl, hv, hbv⟩
     have BV := Lib.hid (bt hbv.out B3.out)
     have ZV := Lib.hid (Z3.out.below hbv.out)
     have y0 := ZV.out.cell 0
     have y1 := ZV.out.cell 1
     have y2 := ZV.out.cell 2
     have y3 := ZV.out.cell 3
     have y4 := ZV.out.cell 4
     have hlv := ZV.out.lt
     clear z0 z1 z2 z3 z4 hbv
     by_cases hv0 : nv = 0
     ·subst hv0
      have VV := Lib.hid (hv.out.2.2 rfl)
      clear hv
      go_wp2_with fail
      clear y0 y1 y2 y3 y4
      go_loopg [4] n (fun kx s4 wr => ∃ i : Nat, s4 = .int .i64 i ∧ kx + i = n ∧ Hid (Below w.heap.size w wr ∧ Blk wr w.heap.size 29 #[.string op, .int .i64 vk, .int .i64 vi, .string vt, .bool vb, .string name, .slice A n c]) ∧ Hid (∀ (j : Nat) (e : PEx), j < i → args[j]? = some e → MayOk e))
      case atStart => exact ⟨0, rfl, by omega, Lib.hid ⟨BV.out, ZV.out⟩, Lib.hid (fun j e h => absurd h (Nat.not_lt_zero _))⟩
      case round =>
       obtain ⟨i, rfl, hki, HB, HO⟩ := hrel
       have hi9 : (i : Int) ≤ 1466015503701 := by omega
       have hi0 : (0 : Int) ≤ (i : Int) := by omega
       by_cases hi : i < n
       ·have hiz : (i : Int) < (n : Int) := by omega
        obtain ⟨a, ha⟩ : ∃ a, args[i]? = some a := ⟨_, List.getElem?_eq_getElem (by rw [HLEN.out]; exact hi)⟩
        obtain ⟨rfl, hb⟩ := HA.out (by omega)
        obtain ⟨x0, x1, x2, x3, x4, x5, x6⟩ := (HCL.out i a ha).below hb HB.out.1
        have hbr := Nat.lt_of_lt_of_le hb HB.out.1.size
        have zr := HB.out.2.cell 6
        have hlr := HB.out.2.lt
        have CI := Lib.hid (HIH.out i a ha wr HB.out.1)
        have HAI := Lib.hid ha
        clear ha
        go_wp2_with fail
        refine CI.out.mono ?_
        rintro e w5 ⟨q, rfl, hq, hb5⟩
        have B5 := Lib.hid (bt hb5.out HB.out.1)
        have Z5 := Lib.hid (HB.out.2.below hb5.out)
        clear x0 x1 x2 x3 x4 x5 x6 zr hlr CI hb5
        cases q with
        | false =>
         go_wp2_with fail
         go_ret
         exact ⟨false, rfl, Lib.hid (fun h => by cases h), B5⟩
        | true =>
         have NX := Lib.hid (show ∀ (j : Nat) (e : PEx), j < i + 1 → args[j]? = some e → MayOk e from fun j e hj he => by
          rcases Nat.lt_or_ge j i with h | h
          ·exact HO.out j e h he
          ·obtain rfl : j = i := by omega
           obtain rfl := Option.some.inj (he.symm.trans HAI.out)
           exact hq.out (by first | rfl | trivial))
         clear hq
         go_wp2_with fail
         go_roundg (gk - 1)
         case measure => omega
         case rel => exact ⟨i + 1, by first | rfl | (simp; done), by omega, Lib.hid ⟨B5.out, Z5.out⟩, NX⟩
       ·have hiz : ¬ (i : Int) < (n : Int) := by omega
        have FIN := Lib.hid (show MayOk (.mk op ⟨vk, vi, vt, vb⟩ name args) from .mk _ _ _ _ HAR.out VV.out HKK.out NM.out (fun j e he => HO.out j e (by have := (List.getElem?_eq_some_iff.1 he).1; rw [HLEN.out] at this; omega) he))
        have BB := Lib.hid HB.out.1
        clear HB HO
        go_wp2_with fail
        go_ret
        exact ⟨true, rfl, Lib.hid (fun _ => FIN.out), BB⟩
     ·have r1 : (nv != 0) = true := by simpa using hv0
      have r2 : (nv == 0) = false := by simpa using hv0
      go_wp2_with fail
      go_ret
      exact ⟨false, rfl, Lib.hid (fun h => by cases h), BV⟩
    ·have q1 : (vk != 0) = true := by simpa using hk0
     have q2 : (vk == 0) = false := by simpa using hk0
     go_wp2_with fail
     go_ret
     exact ⟨false, rfl, Lib.hid (fun h => by cases h), B3⟩
  ·have k1 : (op.toList == [99, 111, 108]) = false := by simpa using hcol
   clear hcol
   by_cases hname : name.toList = []
   ·have hn1 : name.toList.isEmpty = true := by rw [hname]; rfl
    have NM := Lib.hid (show name.size ≤ 32 by rw [size_toList, hname]; decide)
    by_cases hlit : op.toList = [108, 105, 116]
    ·have k2 : (op.toList == [108, 105, 116]) = true := by simpa using hlit
     have NL := Lib.hid hlit
     clear hlit
     have HKK := Lib.hid (show op.toList ≠ [108, 105, 116] → vk = 0 from fun h => absurd NL.out h)
     go_wp2_with fail
     refine (valid36 _ vk vi vt vb T1.out).mono ?_
     rintro e wv ⟨nv, rfl, hv, hbv⟩
     have BV := Lib.hid (bt hbv.out B2.out)
     have ZV := Lib.hid (Z2.out.below hbv.out)
     have y0 := ZV.out.cell 0
     have y1 := ZV.out.cell 1
     have y2 := ZV.out.cell 2
     have y3 := ZV.out.cell 3
     have y4 := ZV.out.cell 4
     have hlv := ZV.out.lt
     clear z0 z1 z2 z3 z4 hbv
     by_cases hv0 : nv = 0
     ·subst hv0
      have VV := Lib.hid (hv.out.2.2 rfl)
      clear hv
      by_cases hi0 : vi < 0
      ·have s1 : vi < 0 := hi0
       go_wp2_with fail
       go_ret
       exact ⟨false, rfl, Lib.hid (fun h => by cases h), BV⟩
      ·have s1 : ¬ vi < 0 := hi0
       clear hi0
       go_wp2_with fail
       clear y0 y1 y2 y3 y4
       go_loopg [4] n (fun kx s4 wr => ∃ i : Nat, s4 = .int .i64 i ∧ kx + i = n ∧ Hid (Below w.heap.size w wr ∧ Blk wr w.heap.size 29 #[.string op, .int .i64 vk, .int .i64 vi, .string vt, .bool vb, .string name, .slice A n c]) ∧ Hid (∀ (j : Nat) (e : PEx), j < i → args[j]? = some e → MayOk e))
       case atStart => exact ⟨0, rfl, by omega, Lib.hid ⟨BV.out, ZV.out⟩, Lib.hid (fun j e h => absurd h (Nat.not_lt_zero _))⟩
       case round =>
        obtain ⟨i, rfl, hki, HB, HO⟩ := hrel
        have hi9 : (i : Int) ≤ 1466015503701 := by omega
        have hi0 : (0 : Int) ≤ (i : Int) := by omega
        by_cases hi : i < n
        ·have hiz : (i : Int) < (n : Int) := by omega
         obtain ⟨a, ha⟩ : ∃ a, args[i]? = some a := ⟨_, List.getElem?_eq_getElem (by rw [HLEN.out]; exact hi)⟩
         obtain ⟨rfl, hb⟩ := HA.out (by omega)
         obtain ⟨x0, x1, x2, x3, x4, x5, x6⟩ := (HCL.out i a ha).below hb HB.out.1
         have hbr := Nat.lt_of_lt_of_le hb HB.out.1.size
         have zr := HB.out.2.cell 6
         have hlr := HB.out.2.lt
         have CI := Lib.hid (HIH.out i a ha wr HB.out.1)
         have HAI := Lib.hid ha
         clear ha
         go_wp2_with fail
         refine CI.out.mono ?_
         rintro e w5 ⟨q, rfl, hq, hb5⟩
         have B5 := Lib.hid (bt hb5.out HB.out.1)
         have Z5 := Lib.hid (HB.out.2.below hb5.out)
         clear x0 x1 x2 x3 x4 x5 x6 zr hlr CI hb5
         cases q with
         | false =>
          go_wp2_with fail
          go_ret
          exact ⟨false, rfl, Lib.hid (fun h => by cases h), B5⟩
         | true =>
          have NX := Lib.hid (show ∀ (j : Nat) (e : PEx), j < i + 1 → args[j]? = some e → MayOk e from fun j e hj he => by
           rcases Nat.lt_or_ge j i with h | h
           ·exact HO.out j e h he
           ·obtain rfl : j = i := by omega
            obtain rfl := Option.some.inj (he.symm.trans HAI.out)
            exact hq.out (by first | rfl | trivial))
          clear hq
          go_wp2_with fail
          go_roundg (gk - 1)
          case measure => omega
          case rel => exact ⟨i + 1, by first | rfl | (simp; done), by omega, Lib.hid ⟨B5.out, Z5.out⟩, NX⟩
        ·have hiz : ¬ (i : Int) < (n : Int) := by omega
         have FIN := Lib.hid (show MayOk (.mk op ⟨vk, vi, vt, vb⟩ name args) from .mk _ _ _ _ HAR.out VV.out HKK.out NM.out (fun j e he => HO.out j e (by have := (List.getElem?_eq_some_iff.1 he).1; rw [HLEN.out] at this; omega) he))
         have BB := Lib.hid HB.out.1
         clear HB HO
         go_wp2_with fail
         go_ret
         exact ⟨true, rfl, Lib.hid (fun _ => FIN.out), BB⟩
     ·have r1 : (nv != 0) = true := by simpa using hv0
      have r2 : (nv == 0) = false := by simpa using hv0
      go_wp2_with fail
      go_ret
      exact ⟨false, rfl, Lib.hid (fun h => by cases h), BV⟩
    ·have k2 : (op.toList == [108, 105, 116]) = false := by simpa using hlit
     have NL := Lib.hid hlit
     clear hlit
     by_cases hk0 : vk = 0
     ·have q1 : (vk != 0) = false := by simpa using hk0
      have q2 : (vk == 0) = true := by simpa using hk0
      have HKK := Lib.hid (show op.toList ≠ [108, 105, 116] → vk = 0 from fun _ => hk0)
      clear hk0
      go_wp2_with fail
      refine (valid36 _ vk vi vt vb T1.out).mono ?_
      rintro e wv ⟨nv, rfl, hv, hbv⟩
      have BV := Lib.hid (bt hbv.out B2.out)
      have ZV := Lib.hid (Z2.out.below hbv.out)
      have y0 := ZV.out.cell 0
      have y1 := ZV.out.cell 1
      have y2 := ZV.out.cell 2
      have y3 := ZV.out.cell 3
      have y4 := ZV.out.cell 4
      have hlv := ZV.out.lt
      clear z0 z1 z2 z3 z4 hbv
      by_cases hv0 : nv = 0
      ·subst hv0
       have VV := Lib.hid (hv.out.2.2 rfl)
       clear hv
       go_wp2_with fail
       clear y0 y1 y2 y3 y4
       go_loopg [4] n (fun kx s4 wr => ∃ i : Nat, s4 = .int .i64 i ∧ kx + i = n ∧ Hid (Below w.heap.size w wr ∧ Blk wr w.heap.size 29 #[.string op, .int .i64 vk, .int .i64 vi, .string vt, .bool vb, .string name, .slice A n c]) ∧ Hid (∀ (j : Nat) (e : PEx), j < i → args[j]? = some e → MayOk e))
       case atStart => exact ⟨0, rfl, by omega, Lib.hid ⟨BV.out, ZV.out⟩, Lib.hid (fun j e h => absurd h (Nat.not_lt_zero _))⟩
       case round =>
        obtain ⟨i, rfl, hki, HB, HO⟩ := hrel
        have hi9 : (i : Int) ≤ 1466015503701 := by omega
        have hi0 : (0 : Int) ≤ (i : Int) := by omega
        by_cases hi : i < n
        ·have hiz : (i : Int) < (n : Int) := by omega
         obtain ⟨a, ha⟩ : ∃ a, args[i]? = some a := ⟨_, List.getElem?_eq_getElem (by rw [HLEN.out]; exact hi)⟩
         obtain ⟨rfl, hb⟩ := HA.out (by omega)
         obtain ⟨x0, x1, x2, x3, x4, x5, x6⟩ := (HCL.out i a ha).below hb HB.out.1
         have hbr := Nat.lt_of_lt_of_le hb HB.out.1.size
         have zr := HB.out.2.cell 6
         have hlr := HB.out.2.lt
         have CI := Lib.hid (HIH.out i a ha wr HB.out.1)
         have HAI := Lib.hid ha
         clear ha
         go_wp2_with fail
         refine CI.out.mono ?_
         rintro e w5 ⟨q, rfl, hq, hb5⟩
         have B5 := Lib.hid (bt hb5.out HB.out.1)
         have Z5 := Lib.hid (HB.out.2.below hb5.out)
         clear x0 x1 x2 x3 x4 x5 x6 zr hlr CI hb5
         cases q with
         | false =>
          go_wp2_with fail
          go_ret
          exact ⟨false, rfl, Lib.hid (fun h => by cases h), B5⟩
         | true =>
          have NX := Lib.hid (show ∀ (j : Nat) (e : PEx), j < i + 1 → args[j]? = some e → MayOk e from fun j e hj he => by
           rcases Nat.lt_or_ge j i with h | h
           ·exact HO.out j e h he
           ·obtain rfl : j = i := by omega
            obtain rfl := Option.some.inj (he.symm.trans HAI.out)
            exact hq.out (by first | rfl | trivial))
          clear hq
          go_wp2_with fail
          go_roundg (gk - 1)
          case measure => omega
          case rel => exact ⟨i + 1, by first | rfl | (simp; done), by omega, Lib.hid ⟨B5.out, Z5.out⟩, NX⟩
        ·have hiz : ¬ (i : Int) < (n : Int) := by omega
         have FIN := Lib.hid (show MayOk (.mk op ⟨vk, vi, vt, vb⟩ name args) from .mk _ _ _ _ HAR.out VV.out HKK.out NM.out (fun j e he => HO.out j e (by have := (List.getElem?_eq_some_iff.1 he).1; rw [HLEN.out] at this; omega) he))
         have BB := Lib.hid HB.out.1
         clear HB HO
         go_wp2_with fail
         go_ret
         exact ⟨true, rfl, Lib.hid (fun _ => FIN.out), BB⟩
      ·have r1 : (nv != 0) = true := by simpa using hv0
       have r2 : (nv == 0) = false := by simpa using hv0
       go_wp2_with fail
       go_ret
       exact ⟨false, rfl, Lib.hid (fun h => by cases h), BV⟩
     ·have q1 : (vk != 0) = true := by simpa using hk0
      have q2 : (vk == 0) = false := by simpa using hk0
      go_wp2_with fail
      go_ret
      exact ⟨false, rfl, Lib.hid (fun h => by cases h), B2⟩
   ·have hn1 : name.toList.isEmpty = false := by simpa using hname
    go_wp2_with fail
    go_ret
    exact ⟨false, rfl, Lib.hid (fun h => by cases h), B2⟩
 ·have hle1 : ((n : Int) != m) = true := by simpa using hlen
  have hle2 : ((n : Int) == m) = false := by simpa using hlen
  clear hlen
  go_wp2_with fail
  go_ret
  exact ⟨false, rfl, Lib.hid (fun h => by cases h), B2⟩

theorem may102 {W : World} {x : PEx} {A : Option Addr} {n c : Nat} (h : PExIs W x A n c) : ∀ W', Below W.heap.size W W' → Calls Tryz.prog 102 #[.agg #[.string x.op, .int .i64 x.val.kind, .int .i64 x.val.int, .string x.val.text, .bool x.val.bool, .string x.name, .slice A n c]] W' (MayPost x W') := by
 induction h with
 | mk op v name args A n c len small t0 t1 t2 b off hA As ns cs cells sub ih =>
  intro W' hW
  exact may102_mk W' op v name args A n c len small t1 t2 b off (fun h0 => ⟨(hA h0).1, Nat.lt_of_lt_of_le (hA h0).2 hW.size⟩) As ns cs (fun j e hj => (cells j e hj).below (hA (by have := (List.getElem?_eq_some_iff.1 hj).1; omega)).2 hW) (fun j e hj W2 h2 => ih j e hj W2 (bt h2 hW))

end Go.Proofs.YtbcmmecilheicaaGreatDoor


/- How deep the document's expressions are. -/
namespace Go.Proofs.YtbcmmecilheicaaGreatDoor
open Go Go.RowKit

mutual
def depthP : PEx → Nat
 | .mk _ _ _ args => depthL args + 1
def depthL : List PEx → Nat
 | [] => 0
 | x :: xs => max (depthP x) (depthL xs)
end
theorem depthP_mk (op : ByteArray) (v : Val) (name : ByteArray) (args : List PEx) : depthP (.mk op v name args) = depthL args + 1 := by rw [depthP]
theorem depthL_nil : depthL [] = 0 := by rw [depthL]
theorem depthL_cons (x : PEx) (xs : List PEx) : depthL (x :: xs) = max (depthP x) (depthL xs) := by rw [depthL]
theorem depthL_snoc : ∀ (l : List PEx) (a : PEx), depthL (l ++ [a]) = max (depthL l) (depthP a)
 | [], a => by rw [List.nil_append, depthL_cons, depthL_nil]; omega
 | x :: l, a => by rw [List.cons_append, depthL_cons, depthL_cons, depthL_snoc l a]; omega
theorem depthL_mem : ∀ {l : List PEx} {a : PEx}, a ∈ l → depthP a ≤ depthL l
 | x :: l, a, h => by
  rw [depthL_cons]
  rcases List.mem_cons.1 h with rfl | h
  ·omega
  ·have := depthL_mem h; omega

set_option maxRecDepth 100000 in
set_option maxHeartbeats 16000000 in
theorem depth103_mk (w : World) (op : ByteArray) (v : Val) (name : ByteArray) (args : List PEx) (A : Option Addr) (n c : Nat) (len : args.length = n) (small : n ≤ 1466015503701) (hd : depthL args ≤ 4611686018427387904) (b off : Nat) (hA : 0 < n → A = some ⟨b, off, none⟩ ∧ b < w.heap.size)
  (As : Nat → Option Addr) (ns cs : Nat → Nat) (cells : ∀ (j : Nat) (e : PEx), args[j]? = some e → PExC w b (off + j * 7) e (As j) (ns j) (cs j))
  (ih : ∀ (j : Nat) (e : PEx), args[j]? = some e → ∀ W, Below w.heap.size w W → Calls Tryz.prog 103 #[.agg #[.string e.op, .int .i64 e.val.kind, .int .i64 e.val.int, .string e.val.text, .bool e.val.bool, .string e.name, .slice (As j) (ns j) (cs j)]] W (fun ev W' => ev = .returned (.int .i64 (depthP e)) ∧ Hid (Below W.heap.size W W'))) :
  Calls Tryz.prog 103 #[.agg #[.string op, .int .i64 v.kind, .int .i64 v.int, .string v.text, .bool v.bool, .string name, .slice A n c]] w (fun ev W' => ev = .returned (.int .i64 (depthL args + 1 : Nat)) ∧ Hid (Below w.heap.size w W')) := by
 obtain ⟨vk, vi, vt, vb⟩ := v
 obtain ⟨w1, hw1⟩ : ∃ z, z = w.alloc (.cells #[.string op, .int .i64 vk, .int .i64 vi, .string vt, .bool vb, .string name, .slice A n c] 29) := ⟨_, rfl⟩
 have B1 := Lib.hid (show Below w.heap.size w w1 by rw [hw1]; exact below_alloc _ _)
 have Z1 := Lib.hid (show Blk w1 w.heap.size 29 #[.string op, .int .i64 vk, .int .i64 vi, .string vt, .bool vb, .string name, .slice A n c] by rw [hw1]; exact Blk.new w 29 _)
 have HA := Lib.hid hA
 have HCL := Lib.hid cells
 have HIH := Lib.hid ih
 have HLEN := Lib.hid len
 have HD := Lib.hid hd
 clear hA cells ih len hd
 have hn9 : (n : Int) ≤ 1466015503701 := by omega
 go_enter Tryz.func103, Tryz.ntmps103
 go_upto_region 1 with fail
 rw [← hw1]
 clear hw1
 go_wp2_with fail
 go_loopg [3, 4] n (fun kx s3 s4 wr => ∃ i d : Nat, s3 = .int .i64 d ∧ s4 = .int .i64 i ∧ kx + i = n ∧ d ≤ 4611686018427387904 ∧ Hid (d = depthL (args.take i)) ∧ Hid (Below w.heap.size w wr ∧ Blk wr w.heap.size 29 #[.string op, .int .i64 vk, .int .i64 vi, .string vt, .bool vb, .string name, .slice A n c]))
 case atStart => exact ⟨0, 0, rfl, rfl, by omega, by omega, Lib.hid (by rw [List.take_zero, depthL_nil]), Lib.hid ⟨B1.out, Z1.out⟩⟩
 case round =>
  obtain ⟨i, d, rfl, rfl, hki, hd9, HDI, HB⟩ := hrel
  have hi9 : (i : Int) ≤ 1466015503701 := by omega
  have hi0 : (0 : Int) ≤ (i : Int) := by omega
  have hdi : (d : Int) ≤ 4611686018427387904 := by omega
  have zr := HB.out.2.cell 6
  have hlr := HB.out.2.lt
  by_cases hi : i < n
  ·have hiz : (i : Int) < (n : Int) := by omega
   obtain ⟨a, ha⟩ : ∃ a, args[i]? = some a := ⟨_, List.getElem?_eq_getElem (by rw [HLEN.out]; exact hi)⟩
   obtain ⟨rfl, hb⟩ := HA.out (by omega)
   obtain ⟨x0, x1, x2, x3, x4, x5, x6⟩ := (HCL.out i a ha).below hb HB.out.1
   have hbr := Nat.lt_of_lt_of_le hb HB.out.1.size
   have hs := depthL_snoc (args.take i) a
   rw [← HDI.out] at hs
   have ht : args.take (i + 1) = args.take i ++ [a] := by rw [List.take_add_one, ha]; rfl
   have hda : depthP a ≤ 4611686018427387904 := Nat.le_trans (depthL_mem (List.mem_of_getElem? ha)) HD.out
   have CI := Lib.hid (HIH.out i a ha wr HB.out.1)
   obtain ⟨q, hq⟩ : ∃ q, q = depthP a := ⟨_, rfl⟩
   rw [← hq] at CI hs hda
   have HS := Lib.hid (show max d q = depthL (args.take (i + 1)) by rw [ht, hs])
   have hqi : (q : Int) ≤ 4611686018427387904 := by omega
   clear ha hs ht hq HDI
   go_wp2_with fail
   refine CI.out.mono ?_
   rintro e w5 ⟨rfl, hb5⟩
   have B5 := Lib.hid (bt hb5.out HB.out.1)
   have Z5 := Lib.hid (HB.out.2.below hb5.out)
   clear x0 x1 x2 x3 x4 x5 x6 zr hlr CI hb5
   by_cases hlt : d < q
   ·have hltz : (d : Int) < (q : Int) := by omega
    have NX := Lib.hid (show q = depthL (args.take (i + 1)) by rw [← HS.out]; omega)
    go_wp2_with fail
    go_roundg (gk - 1)
    case measure => omega
    case rel => exact ⟨i + 1, q, by first | rfl | (simp; done), by first | rfl | (simp; done), by omega, by omega, NX, Lib.hid ⟨B5.out, Z5.out⟩⟩
   ·have hltz : ¬ (d : Int) < (q : Int) := by omega
    have NX := Lib.hid (show d = depthL (args.take (i + 1)) by rw [← HS.out]; omega)
    go_wp2_with fail
    go_roundg (gk - 1)
    case measure => omega
    case rel => exact ⟨i + 1, d, by first | rfl | (simp; done), by first | rfl | (simp; done), by omega, by omega, NX, Lib.hid ⟨B5.out, Z5.out⟩⟩
  ·have hiz : ¬ (i : Int) < (n : Int) := by omega
   have HE := Lib.hid (show d = depthL args by rw [HDI.out, List.take_of_length_le (by rw [HLEN.out]; omega)])
   have BB := Lib.hid HB.out.1
   clear HB HDI
   go_wp2_with fail
   go_ret
   exact ⟨by rw [← HE.out]; first | rfl | (simp; done), BB⟩
theorem depth103 {W : World} {x : PEx} {A : Option Addr} {n c : Nat} (h : PExIs W x A n c) : depthP x ≤ 4611686018427387904 → ∀ W', Below W.heap.size W W' → Calls Tryz.prog 103 #[.agg #[.string x.op, .int .i64 x.val.kind, .int .i64 x.val.int, .string x.val.text, .bool x.val.bool, .string x.name, .slice A n c]] W' (fun ev W2 => ev = .returned (.int .i64 (depthP x)) ∧ Hid (Below W'.heap.size W' W2)) := by
 induction h with
 | mk op v name args A n c len small t0 t1 t2 b off hA As ns cs cells sub ih =>
  intro hd W' hW
  rw [depthP_mk] at hd ⊢
  exact depth103_mk W' op v name args A n c len small (by omega) b off (fun h0 => ⟨(hA h0).1, Nat.lt_of_lt_of_le (hA h0).2 hW.size⟩) As ns cs (fun j e hj => (cells j e hj).below (hA (by have := (List.getElem?_eq_some_iff.1 hj).1; omega)).2 hW) (fun j e hj W2 h2 => ih j e hj (by have := depthL_mem (List.mem_of_getElem? hj); omega) W2 (bt h2 hW))

end Go.Proofs.YtbcmmecilheicaaGreatDoor

/- The document's texts of numbers, of values. -/
namespace Go.Proofs.YtbcmmecilheicaaGreatDoor
open Go Go.RowKit

/-- a text comes back, no longer than so many bytes -/
def SomeText (m : Nat) (w : World) (e : Ending) (w' : World) : Prop := ∃ s : ByteArray, e = .returned (.string s) ∧ Hid (s.size ≤ m) ∧ Hid (Below w.heap.size w w')

theorem u64_range (z : Int) : 0 ≤ IntKind.u64.wrap z ∧ IntKind.u64.wrap z < 18446744073709551616 := by rw [IntKind.wrap_u64]; omega
theorem dig_size (s : ByteArray) {x : Int} (h0 : 0 ≤ x) (h1 : x < 10) : ((⟨#[48, 49, 50, 51, 52, 53, 54, 55, 56, 57]⟩ : ByteArray).extract x.toNat (x + 1).toNat ++ s).size ≤ s.size + 1 := by
 rw [ByteArray.size_append, ByteArray.size_extract]
 omega
theorem pow_step {x : Int} {k : Nat} (h0 : 0 ≤ x) (h : x < 10 ^ k) (hk : 1 ≤ k) (hx : ¬ x / 10 = 0) : 1 ≤ k - 1 ∧ x / 10 < 10 ^ (k - 1) := by
 obtain ⟨j, rfl⟩ : ∃ j, k = j + 1 := ⟨k - 1, by omega⟩
 rw [Int.pow_succ] at h
 have h2 : x / 10 < 10 ^ j := by
  rw [Int.ediv_lt_iff_lt_mul (by omega)]
  exact h
 rw [Nat.add_sub_cancel]
 refine ⟨?_, h2⟩
 rcases Nat.eq_zero_or_pos j with e | e
 ·subst e
  rw [Int.pow_zero] at h2
  omega
 ·exact e
set_option maxRecDepth 100000 in
set_option maxHeartbeats 16000000 in
theorem digits146 (w : World) (n : Int) : Calls Tryz.prog 146 #[.int .i64 n] w (SomeText 21 w) := by
 have key : ∃ (x0 : Int) (m : ByteArray), 0 ≤ x0 ∧ x0 < 18446744073709551616 ∧ m.size ≤ 1 ∧ ((n < 0 ∧ IntKind.u64.wrap (-IntKind.u64.wrap n) = x0 ∧ m = ⟨#[45]⟩) ∨ (¬ n < 0 ∧ IntKind.u64.wrap n = x0 ∧ m = ⟨#[]⟩)) := by
  by_cases hn : n < 0
  ·exact ⟨_, _, (u64_range _).1, (u64_range _).2, by decide, .inl ⟨hn, rfl, rfl⟩⟩
  ·exact ⟨_, _, (u64_range _).1, (u64_range _).2, by decide, .inr ⟨hn, rfl, rfl⟩⟩
 obtain ⟨x0, m, h0, h1, hm, h⟩ := key
 have HM := Lib.hid hm
 rcases h with ⟨hn, hx, hmm⟩ | ⟨hn, hx, hmm⟩
 all_goals
  have HX := Lib.hid hx
  have HMM := Lib.hid hmm
  clear hx hmm hm
  go_enter Tryz.func146, Tryz.ntmps146
  go_upto_region 5 with fail
  rw [HX.out]
  clear hn HX
  go_loopg [3, 5] 20 (fun kx s3 s5 wr => ∃ (x : Int) (s : ByteArray), s3 = .int .u64 x ∧ s5 = .string s ∧ 0 ≤ x ∧ x < 18446744073709551616 ∧ 1 ≤ kx ∧ kx ≤ 20 ∧ Hid (x < 10 ^ kx) ∧ s.size + kx ≤ 20 ∧ wr = w)
  case atStart => exact ⟨x0, ⟨#[]⟩, rfl, rfl, h0, h1, by omega, by omega, Lib.hid (by omega), by decide, rfl⟩
  case round =>
   obtain ⟨x, s, rfl, rfl, g0, g1, k1, k20, HK, hsz, rfl⟩ := hrel
   have hx9 : x % 10 < 10 := Int.emod_lt_of_pos _ (by omega)
   have hx8 : 0 ≤ x % 10 := Int.emod_nonneg _ (by omega)
   have HE := Lib.hid (dig_size s (x := x % 10) hx8 hx9)
   go_wp2_with fail
   ·go_ret
    exact ⟨_, rfl, Lib.hid (by rw [ByteArray.size_append]; have := HE.out; have h2 := HM.out; rw [HMM.out] at h2; omega), Lib.hid (Below.refl _ _)⟩
   ·have hne : ¬ x / 10 = 0 := by
     rename_i q
     simpa using q
    have HK2 := Lib.hid (pow_step g0 HK.out k1 hne)
    go_roundg (gk - 1)
    case measure => omega
    case rel => exact ⟨x / 10, _, rfl, rfl, by omega, by omega, HK2.out.1, by omega, Lib.hid HK2.out.2, by have := HE.out; have := HK2.out.1; omega, rfl⟩

end Go.Proofs.YtbcmmecilheicaaGreatDoor
