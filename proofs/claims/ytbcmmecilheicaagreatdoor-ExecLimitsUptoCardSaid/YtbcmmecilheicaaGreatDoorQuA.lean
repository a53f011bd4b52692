/- The document's Aggregates, Has: some truth comes back. The document's digits: a small number written. -/
import Derived.Test.YtbcmmecilheicaaGreatDoorOfA
import Derived.Test.YtbcmmecilheicaaGreatDoorEvCE
import Derived.BigQuiet
import Derived.Deep.RegionLaw

/- The document's Aggregates, Has: some truth comes back. -/
namespace Go.Proofs.YtbcmmecilheicaaGreatDoor
open Go Go.RowKit

/-- some truth comes back -/
def SomeB (w : World) (e : Ending) (w' : World) : Prop := ∃ b : Bool, e = .returned (.bool b) ∧ Hid (Below w.heap.size w w')

set_option maxRecDepth 100000 in
set_option maxHeartbeats 8000000 in
theorem aggregates49 {W0 : World} {x : Ex} {A : Option Addr} {n c : Nat} (h : ExIs W0 x A n c) : ∀ W, Below W0.heap.size W0 W → Calls Tryz.prog 49 #[exAgg x A n c] W (SomeB W) := by
 induction h with
 | mk op kind col v args A n c len small tx b off hA As ns cs cells sub ih =>
  intro W hW
  show Calls Tryz.prog 49 #[.agg #[.string op, .int .i64 kind, .int .i64 col, .int .i64 v.kind, .int .i64 v.int, .string v.text, .bool v.bool, .slice A n c]] W _
  have hn9 : n ≤ 1466015503701 := by unfold TB at small; omega
  have HW := Lib.hid hW
  have HA := Lib.hid hA
  have HC := Lib.hid cells
  have HI := Lib.hid ih
  have HL := Lib.hid len
  clear hW hA cells ih len small tx sub
  obtain ⟨w1, hw1⟩ : ∃ y, y = W.alloc (.cells #[.string op, .int .i64 kind, .int .i64 col, .int .i64 v.kind, .int .i64 v.int, .string v.text, .bool v.bool, .slice A n c] 38) := ⟨_, rfl⟩
  have Z1 := Lib.hid (show Blk w1 W.heap.size 38 #[.string op, .int .i64 kind, .int .i64 col, .int .i64 v.kind, .int .i64 v.int, .string v.text, .bool v.bool, .slice A n c] by rw [hw1]; exact Blk.new W 38 _)
  have B1 := Lib.hid (show Below W.heap.size W w1 by rw [hw1]; exact below_alloc _ _)
  have z0 := Z1.out.cell 0
  have hl := Z1.out.lt
  go_enter Tryz.func49, Tryz.ntmps49
  go_upto_region 1 with fail
  rw [← hw1]
  clear hw1
  go_wp2_with fail
  refine (aggregate76 _ _).mono ?_
  clear z0 hl
  rintro e w2 ⟨rfl, hb2⟩
  obtain ⟨q, hq⟩ : ∃ q, inP op aggsR = q := ⟨_, rfl⟩
  rw [hq]
  clear hq
  have B2 := Lib.hid (bt hb2.out B1.out)
  have Z2 := Lib.hid (Z1.out.below hb2.out)
  clear hb2
  go_wp2_with fail
  go_loopg [3, 4] n (fun kx s3 s4 wr => ∃ (i : Nat) (q : Bool), s3 = .bool q ∧ s4 = .int .i64 i ∧ kx + i = n ∧ Hid (Below w2.heap.size w2 wr))
  case atStart => exact ⟨0, q, rfl, rfl, rfl, Lib.hid (Below.refl _ _)⟩
  case round =>
   obtain ⟨i, q, rfl, rfl, hk, I⟩ := hrel
   have z7 := (Z2.out.below I.out).cell 7
   have hlz := (Z2.out.below I.out).lt
   have hi0 : (0 : Int) ≤ (i : Int) := by omega
   by_cases hi : i < n
   ·have hiz : (i : Int) < (n : Int) := by omega
    have hx96 : (i : Int) < 1466015503701 := by omega
    cases q with
    | true =>
     go_wp2_with fail
     go_roundg (gk - 1)
     case measure => omega
     case rel => exact ⟨i + 1, true, rfl, by first | rfl | (simp; done), by omega, I⟩
    | false =>
     obtain ⟨e, he⟩ : ∃ e, args[i]? = some e := ⟨_, List.getElem?_eq_getElem (by rw [HL.out]; exact hi)⟩
     obtain ⟨hAe, hbl⟩ := HA.out (by omega)
     subst hAe
     have bwr : Below W0.heap.size W0 wr := bt I.out (bt B2.out HW.out)
     obtain ⟨c0, c1, c2, c3, c4, c5, c6, c7⟩ := (HC.out i e he).below hbl bwr
     have call := Lib.hid (HI.out i e he wr bwr)
     have BB := Lib.hid I.out
     clear he bwr I
     go_wp2_with fail
     refine call.out.mono ?_
     clear call c0 c1 c2 c3 c4 c5 c6 c7
     rintro e2 w3 ⟨q2, rfl, h3⟩
     have B3 := Lib.hid (bt h3.out BB.out)
     clear h3
     go_wp2_with fail
     go_roundg (gk - 1)
     case measure => omega
     case rel => exact ⟨i + 1, q2, rfl, by first | rfl | (simp; done), by omega, B3⟩
   ·have hiz : ¬ (i : Int) < (n : Int) := by omega
    go_wp2_with fail
    go_ret
    exact ⟨q, rfl, Lib.hid (bt I.out B2.out)⟩

set_option maxRecDepth 100000 in
set_option maxHeartbeats 16000000 in
theorem has61 {W0 : World} {x : Ex} {A : Option Addr} {n c : Nat} (h : ExIs W0 x A n c) : ∀ W, Below W0.heap.size W0 W → ∀ cl : Int, Calls Tryz.prog 61 #[exAgg x A n c, .int .i64 cl, .bool true] W (SomeB W) := by
 induction h with
 | mk op kind col v args A n c len small tx b off hA As ns cs cells sub ih =>
  intro W hW cl
  show Calls Tryz.prog 61 #[.agg #[.string op, .int .i64 kind, .int .i64 col, .int .i64 v.kind, .int .i64 v.int, .string v.text, .bool v.bool, .slice A n c], .int .i64 cl, .bool true] W _
  have hn9 : n ≤ 1466015503701 := by unfold TB at small; omega
  have HW := Lib.hid hW
  have HA := Lib.hid hA
  have HC := Lib.hid cells
  have HI := Lib.hid ih
  have HL := Lib.hid len
  clear hW hA cells ih len small tx sub
  obtain ⟨w1, hw1⟩ : ∃ y, y = W.alloc (.cells #[.string op, .int .i64 kind, .int .i64 col, .int .i64 v.kind, .int .i64 v.int, .string v.text, .bool v.bool, .slice A n c] 38) := ⟨_, rfl⟩
  have Z1 := Lib.hid (show Blk w1 W.heap.size 38 #[.string op, .int .i64 kind, .int .i64 col, .int .i64 v.kind, .int .i64 v.int, .string v.text, .bool v.bool, .slice A n c] by rw [hw1]; exact Blk.new W 38 _)
  have B1 := Lib.hid (show Below W.heap.size W w1 by rw [hw1]; exact below_alloc _ _)
  have z0 := Z1.out.cell 0
  have hl := Z1.out.lt
  go_enter Tryz.func61, Tryz.ntmps61
  go_upto_region 1 with fail
  rw [← hw1]
  clear hw1
  go_wp2_with fail
  refine (aggregate76 _ _).mono ?_
  clear z0 hl
  rintro e w2 ⟨rfl, hb2⟩
  obtain ⟨q, hq⟩ : ∃ q, inP op aggsR = q := ⟨_, rfl⟩
  rw [hq]
  clear hq
  have B2 := Lib.hid (bt hb2.out B1.out)
  have Z2 := Lib.hid (Z1.out.below hb2.out)
  clear hb2
  cases q with
  | true =>
   go_wp2_with fail
   go_ret
   exact ⟨false, rfl, B2⟩
  | false =>
   have z0 := Z2.out.cell 0
   have z2 := Z2.out.cell 2
   have hl := Z2.out.lt
   obtain ⟨k1, h1⟩ : ∃ q, (op.toList == [99, 111, 108]) = q := ⟨_, rfl⟩
   obtain ⟨k2, h2⟩ : ∃ q, (op.toList == [108, 97, 98, 101, 108]) = q := ⟨_, rfl⟩
   obtain ⟨k3, h3⟩ : ∃ q, (col == cl) = q := ⟨_, rfl⟩
   obtain ⟨k4, h4⟩ : ∃ q, (cl == -1) = q := ⟨_, rfl⟩
   go_upto_region 3 with fail
   go_cut [7] from 15 to 32 (fun s7 wx => ∃ q : Bool, s7 = .bool q ∧ wx = w2)
   case first =>
    cases k1 <;> cases k2 <;> cases k3 <;> cases k4
    all_goals
     go_wp2_with fail
     go_meet
     case rel => exact ⟨_, rfl, rfl⟩
   case rest =>
    obtain ⟨q, rfl, rfl⟩ := hcut
    clear z0 z2 hl h1 h2 h3 h4
    go_wp2_with fail
    go_loopg [7, 8] n (fun kx s7 s8 wr => ∃ (i : Nat) (q : Bool), s7 = .bool q ∧ s8 = .int .i64 i ∧ kx + i = n ∧ Hid (Below wc.heap.size wc wr))
    case atStart => exact ⟨0, q, rfl, rfl, rfl, Lib.hid (Below.refl _ _)⟩
    case round =>
     obtain ⟨i, q, rfl, rfl, hk, I⟩ := hrel
     have z7 := (Z2.out.below I.out).cell 7
     have hlz := (Z2.out.below I.out).lt
     have hi0 : (0 : Int) ≤ (i : Int) := by omega
     by_cases hi : i < n
     ·have hiz : (i : Int) < (n : Int) := by omega
      have hx96 : (i : Int) < 1466015503701 := by omega
      cases q with
      | true =>
       go_wp2_with fail
       go_roundg (gk - 1)
       case measure => omega
       case rel => exact ⟨i + 1, true, rfl, by first | rfl | (simp; done), by omega, I⟩
      | false =>
       obtain ⟨e, he⟩ : ∃ e, args[i]? = some e := ⟨_, List.getElem?_eq_getElem (by rw [HL.out]; exact hi)⟩
       obtain ⟨hAe, hbl⟩ := HA.out (by omega)
       subst hAe
       have bwr : Below W0.heap.size W0 wr := bt I.out (bt B2.out HW.out)
       obtain ⟨c0, c1, c2, c3, c4, c5, c6, c7⟩ := (HC.out i e he).below hbl bwr
       have call := Lib.hid (HI.out i e he wr bwr cl)
       have BB := Lib.hid I.out
       clear he bwr I
       go_wp2_with fail
       refine call.out.mono ?_
       clear call c0 c1 c2 c3 c4 c5 c6 c7
       rintro e2 w3 ⟨q2, rfl, h3⟩
       have B3 := Lib.hid (bt h3.out BB.out)
       clear h3
       go_wp2_with fail
       go_roundg (gk - 1)
       case measure => omega
       case rel => exact ⟨i + 1, q2, rfl, by first | rfl | (simp; done), by omega, B3⟩
     ·have hiz : ¬ (i : Int) < (n : Int) := by omega
      go_wp2_with fail
      go_ret
      exact ⟨q, rfl, Lib.hid (bt I.out B2.out)⟩

end Go.Proofs.YtbcmmecilheicaaGreatDoor

/- The document's digits: a small number written. -/
namespace Go.Proofs.YtbcmmecilheicaaGreatDoor
open Go Go.RowKit

abbrev digT : ByteArray := ⟨#[48, 49, 50, 51, 52, 53, 54, 55, 56, 57]⟩
set_option maxRecDepth 100000 in
set_option maxHeartbeats 8000000 in
theorem digits48a (w : World) (n : Nat) (h : n < 10) : Calls Tryz.prog 48 #[.int .i64 n] w fun e w' => e = .returned (.string (digT.extract n (n + 1))) ∧ w' = w := by
 have h1 : (n : Int) < 10 := by omega
 have h2 : (0 : Int) ≤ (n : Int) := by omega
 go_enter Tryz.func48, Tryz.ntmps48
 go_wp2_with fail
 go_ret
 exact ⟨rfl, rfl⟩
set_option maxRecDepth 100000 in
set_option maxHeartbeats 4000000 in
theorem digits48b (w : World) (a b : Nat) (ha : a < 10) (hb : b < 10) (h : 0 < a) : Calls Tryz.prog 48 #[.int .i64 ((10 * a + b : Nat) : Int)] w fun e w' => e = .returned (.string (digT.extract a (a + 1) ++ digT.extract b (b + 1))) ∧ Hid (Below w.heap.size w w') := by
 have HA := Lib.hid (fun W => digits48a W a ha)
 obtain ⟨n, hn⟩ : ∃ n, n = 10 * a + b := ⟨_, rfl⟩
 rw [← hn]
 have h1 : ¬ (n : Int) < 10 := by omega
 have hq : Int.tdiv (n : Int) 10 = (a : Int) := by rw [Int.tdiv_eq_ediv_of_nonneg (by omega)]; omega
 have hm : Int.tmod (n : Int) 10 = (b : Int) := by rw [Int.tmod_eq_emod_of_nonneg (by omega)]; omega
 have hb1 : (b : Int) < 10 := by omega
 have ha1 : (a : Int) < 10 := by omega
 have hb2 : (0 : Int) ≤ (b : Int) + 1 := by omega
 have hb3 : (b : Int) + 1 ≤ 10 := by omega
 have hb4 : (b : Int) ≤ (b : Int) + 1 := by omega
 have ha0 : (0 : Int) ≤ (a : Int) := by omega
 have k1 : IntKind.i64.wrap (a : Int) = (a : Int) := by rw [IntKind.wrap_i64]; omega
 have k2 : IntKind.i64.wrap ((b : Int) + 1) = (b : Int) + 1 := by rw [IntKind.wrap_i64]; omega
 have k3 : IntKind.i64.wrap (b : Int) = (b : Int) := by rw [IntKind.wrap_i64]; omega
 have hb0 : (0 : Int) ≤ (b : Int) := by omega
 have hn9 : (n : Int) < 100 := by omega
 have s1 : (digT.extract a (a + 1)).size ≤ 10 := by rw [ByteArray.size_extract]; have : digT.size = 10 := rfl; omega
 have s2 : (digT.extract b (b + 1)).size ≤ 10 := by rw [ByteArray.size_extract]; have : digT.size = 10 := rfl; omega
 have s3 : ¬ 9223372036854775807 < (digT.extract a (a + 1)).size + (digT.extract b (b + 1)).size := by omega
 have s4 : ¬ 9223372036854775807 < min (a + 1) 10 - a + (min (b + 1) 10 - b) := by omega
 clear hn
 go_enter Tryz.func48, Tryz.ntmps48
 go_upto_region 3 with fail
 go_region_law (first | (go_simp; go_at_call 48; refine (HA.out _).mono ?_; rintro e w2 ⟨rfl, rfl⟩))
 all_goals
  go_wp2_with fail
  go_ret
  exact ⟨rfl, Lib.hid (below_drew _)⟩
/-- some short text comes back -/
def DigPost (w : World) (e : Ending) (w' : World) : Prop := ∃ s : ByteArray, e = .returned (.string s) ∧ s.size ≤ 20 ∧ Hid (Below w.heap.size w w')
theorem dig1_size (n : Nat) : (digT.extract n (n + 1)).size ≤ 10 := by
 rw [ByteArray.size_extract]
 have : digT.size = 10 := rfl
 omega
theorem digits48 (w : World) (n : Nat) (h : n < 100) : Calls Tryz.prog 48 #[.int .i64 n] w (DigPost w) := by
 by_cases h1 : n < 10
 ·refine (digits48a w n h1).mono ?_
  rintro e w' ⟨rfl, rfl⟩
  exact ⟨_, rfl, Nat.le_trans (dig1_size n) (by omega), Lib.hid (Below.refl _ _)⟩
 ·have e : n = 10 * (n / 10) + n % 10 := by omega
  rw [e]
  refine (digits48b w (n / 10) (n % 10) (by omega) (by omega) (by omega)).mono ?_
  rintro e w' ⟨rfl, hb⟩
  exact ⟨_, rfl, by rw [ByteArray.size_append]; have := dig1_size (n / 10); have := dig1_size (n % 10); omega, hb⟩

end Go.Proofs.YtbcmmecilheicaaGreatDoor
