/- slices.swapRangeCmpFunc, rotateCmpFunc, at exec.part. -/
import Derived.Test.YtbcmmecilheicaaGreatDoorSrtS
import Derived.Shelf.RegionOpenPlain
namespace Go.Proofs.YtbcmmecilheicaaGreatDoor
open Go Go.RowKit

/-- an element: three slices -/
structure ElP where
 a : Option Addr
 n : Nat
 c : Nat
 a' : Option Addr
 n' : Nat
 c' : Nat
 a2 : Option Addr
 n2 : Nat
 c2 : Nat
abbrev encP (el : Nat → ElP) : Nat → List Value := fun r => [.slice (el r).a (el r).n (el r).c, .slice (el r).a' (el r).n' (el r).c', .slice (el r).a2 (el r).n2 (el r).c2]
set_option maxRecDepth 100000 in
set_option maxHeartbeats 8000000 in
theorem swapRange92 (w0 : World) (g cap n : Nat) (el : Nat → ElP) (f : Nat → Nat) (W : World) (hW : SW w0 g 147 3 cap n (encP el) f W) (a b m : Nat) (h1 : a + m ≤ b) (h2 : b + m ≤ n) (hn : n ≤ 1000000) (fv : Value) :
  Calls Tryz.prog 179 #[.slice (some ⟨g, 0, none⟩) n cap, .int .i64 a, .int .i64 b, .int .i64 m, fv] W fun e w' => e = .returned (.tuple #[]) ∧ Hid (SW w0 g 147 3 cap n (encP el) (xrange f a b m) w') := by
 have HW := Lib.hid (show SW w0 g 147 3 cap n (encP el) (xrange f a b 0) W by rw [xrange_zero]; exact hW)
 clear hW
 go_enter Tryz.func179, Tryz.ntmps179
 go_wp2
 go_loopg [10] m (fun kx s10 wr => ∃ i : Nat, s10 = .int .i64 i ∧ kx + i = m ∧ Hid (SW w0 g 147 3 cap n (encP el) (xrange f a b i) wr))
 case atStart => exact ⟨0, rfl, rfl, HW⟩
 case round =>
  obtain ⟨i, rfl, hk, I⟩ := hrel
  by_cases hi : i < m
  ·have hiz : (i : Int) < (m : Int) := by omega
   obtain ⟨p, hp⟩ : ∃ p, p = a + i := ⟨_, rfl⟩
   obtain ⟨q, hq⟩ : ∃ q, q = b + i := ⟨_, rfl⟩
   have ap : (a : Int) + (i : Int) = (p : Int) := by omega
   have aq : (b : Int) + (i : Int) = (q : Int) := by omega
   have hp1 : (p : Int) < (n : Int) := by omega
   have hq1 : (q : Int) < (n : Int) := by omega
   have hp2 : p < n := by omega
   have hq2 : q < n := by omega
   have hp3 : (p : Int) < 1000001 := by omega
   have hq3 : (q : Int) < 1000001 := by omega
   have hi3 : (i : Int) < 1000001 := by omega
   obtain ⟨x, hx⟩ : ∃ x, x = xrange f a b i p := ⟨_, rfl⟩
   obtain ⟨y, hy⟩ : ∃ y, y = xrange f a b i q := ⟨_, rfl⟩
   have p0 : wr.cell? ⟨g, p * 3, none⟩ = some (.slice (el x).a (el x).n (el x).c) := by rw [hx]; exact I.out.cell (c := 0) hp2 (by omega)
   have p1 : wr.cell? ⟨g, p * 3 + 1, none⟩ = some (.slice (el x).a' (el x).n' (el x).c') := by rw [hx]; exact I.out.cell (c := 1) hp2 (by omega)
   have p2 : wr.cell? ⟨g, p * 3 + 2, none⟩ = some (.slice (el x).a2 (el x).n2 (el x).c2) := by rw [hx]; exact I.out.cell (c := 2) hp2 (by omega)
   have q0 : wr.cell? ⟨g, q * 3, none⟩ = some (.slice (el y).a (el y).n (el y).c) := by rw [hy]; exact I.out.cell (c := 0) hq2 (by omega)
   have q1 : wr.cell? ⟨g, q * 3 + 1, none⟩ = some (.slice (el y).a' (el y).n' (el y).c') := by rw [hy]; exact I.out.cell (c := 1) hq2 (by omega)
   have q2 : wr.cell? ⟨g, q * 3 + 2, none⟩ = some (.slice (el y).a2 (el y).n2 (el y).c2) := by rw [hy]; exact I.out.cell (c := 2) hq2 (by omega)
   have hfz := I.out.frozen
   have NX := Lib.hid (show SW w0 g 147 3 cap n (encP el) (xrange f a b (i + 1)) ((wr.drew.setCells g (p * 3) (encP el y)).setCells g (q * 3) (encP el x)) by
    rw [← xrange_succ f (show a + i < b by omega), ← hp, ← hq, hx, hy]
    exact I.out.drew.exchange (fun _ => rfl) hp2 hq2)
   clear hp hq hx hy I
   go_wp2_with fail
   go_region
   all_goals
    go_wp2_with fail
    go_roundg (gk - 1)
    case measure => omega
    case rel => exact ⟨i + 1, by first | rfl | (simp; done), by omega, NX⟩
  ·obtain rfl : m = i := by omega
   have hiz : ¬ (m : Int) < (m : Int) := by omega
   go_wp2_with fail
   go_end0
   exact ⟨rfl, I⟩

set_option maxRecDepth 100000 in
set_option maxHeartbeats 8000000 in
theorem rotate83 (w0 : World) (g cap n : Nat) (el : Nat → ElP) (f : Nat → Nat) (W : World) (hW : SW w0 g 147 3 cap n (encP el) f W) (a m b : Nat) (h1 : a < m) (h2 : m < b) (h3 : b ≤ n) (hn : n ≤ 1000000) (fv : Value) :
  Calls Tryz.prog 161 #[.slice (some ⟨g, 0, none⟩) n cap, .int .i64 a, .int .i64 m, .int .i64 b, fv] W fun e w' => e = .returned (.tuple #[]) ∧ Hid (SW w0 g 147 3 cap n (encP el) (rot f a m b) w') := by
 obtain ⟨i0, hi0⟩ : ∃ i0, i0 = m - a := ⟨_, rfl⟩
 obtain ⟨j0, hj0⟩ : ∃ j0, j0 = b - m := ⟨_, rfl⟩
 have HW := Lib.hid (show SW w0 g 147 3 cap n (encP el) f W ∧ rot f (m - i0) m (m + j0) = rot f a m b from ⟨hW, by rw [hi0, hj0]; congr 1 <;> omega⟩)
 have e1 : (m : Int) - (a : Int) = (i0 : Int) := by omega
 have e2 : (b : Int) - (m : Int) = (j0 : Int) := by omega
 have hi9 : (i0 : Int) < 1000001 := by omega
 have hj9 : (j0 : Int) < 1000001 := by omega
 have hib : 0 < i0 ∧ i0 ≤ m ∧ 0 < j0 ∧ m + j0 ≤ n := by omega
 clear hW hi0 hj0 h1 h2 h3
 go_enter Tryz.func161, Tryz.ntmps161
 go_wp2
 clear e1 e2
 go_loopg [10, 11] (i0 + j0) (fun kx s10 s11 wr => ∃ i j : Nat, s10 = .int .i64 i ∧ s11 = .int .i64 j ∧ kx = i + j ∧ (0 < i ∧ i ≤ m ∧ 0 < j ∧ m + j ≤ n) ∧ Hid (∃ F, SW w0 g 147 3 cap n (encP el) F wr ∧ rot F (m - i) m (m + j) = rot f a m b))
 case atStart => exact ⟨i0, j0, rfl, rfl, rfl, hib, Lib.hid ⟨f, HW.out⟩⟩
 case round =>
  clear hib hi9 hj9 HW
  obtain ⟨i, j, rfl, rfl, rfl, hij, I⟩ := hrel
  obtain ⟨F, hF, hr⟩ := I.out
  clear I
  have hi9 : (i : Int) < 1000001 := by omega
  have hj9 : (j : Int) < 1000001 := by omega
  have hm9 : (m : Int) < 1000001 := by omega
  obtain ⟨p, hp⟩ : ∃ p, p = m - i := ⟨_, rfl⟩
  have ep : (m : Int) - (i : Int) = (p : Int) := by omega
  have hp9 : (p : Int) < 1000001 := by omega
  by_cases c : i = j
  ·subst c
   have CS := Lib.hid (swapRange92 w0 g cap n el F wr hF p m i (by omega) (by omega) hn fv)
   have HR := Lib.hid (show xrange F p m i = rot f a m b by rw [hp, rot_eq F (by omega)]; exact hr)
   clear hF hr hp
   go_wp2_with fail
   refine CS.out.mono ?_
   rintro e w2 ⟨rfl, h2⟩
   rw [HR.out] at h2
   go_wp2_with fail
   go_end0
   exact ⟨rfl, h2⟩
  ·have hne : ((i : Int) != (j : Int)) = true := by simp; omega
   have hne2 : ((i : Int) == (j : Int)) = false := by simp; omega
   by_cases c2 : j < i
   ·have c3 : (j : Int) < (i : Int) := by omega
    obtain ⟨d, hd⟩ : ∃ d, d = i - j := ⟨_, rfl⟩
    have ed : (i : Int) - (j : Int) = (d : Int) := by omega
    have hd9 : (d : Int) < 1000001 := by omega
    have CS := Lib.hid (swapRange92 w0 g cap n el F wr hF p m j (by omega) (by omega) hn fv)
    have HR := Lib.hid (show rot (xrange F p m j) (m - d) m (m + j) = rot f a m b by rw [hp, hd, rot_gt F (by omega) c2]; exact hr)
    have hb := Lib.hid (show 0 < d ∧ d ≤ m ∧ 0 < j ∧ m + j ≤ n by omega)
    have hms := Lib.hid (show d + j < i + j by omega)
    clear hF hr hp hd
    go_wp2_with fail
    refine CS.out.mono ?_
    rintro e w2 ⟨rfl, h2⟩
    go_wp2_with fail
    go_roundg (d + j)
    case measure => exact hms.out
    case rel => exact ⟨d, j, by first | rfl | (simp; done), by first | rfl | (simp; done), rfl, hb.out, Lib.hid ⟨_, h2.out, HR.out⟩⟩
   ·have c3 : ¬ (j : Int) < (i : Int) := by omega
    obtain ⟨d, hd⟩ : ∃ d, d = j - i := ⟨_, rfl⟩
    have ed : (j : Int) - (i : Int) = (d : Int) := by omega
    have hd9 : (d : Int) < 1000001 := by omega
    obtain ⟨q1, hq1⟩ : ∃ q1, q1 = m + j := ⟨_, rfl⟩
    have eq1 : (m : Int) + (j : Int) = (q1 : Int) := by omega
    have hq19 : (q1 : Int) < 1000001 := by omega
    obtain ⟨q, hq⟩ : ∃ q, q = q1 - i := ⟨_, rfl⟩
    have eq2 : (q1 : Int) - (i : Int) = (q : Int) := by omega
    have hq9 : (q : Int) < 1000001 := by omega
    have CS := Lib.hid (swapRange92 w0 g cap n el F wr hF p q i (by omega) (by omega) hn fv)
    have HR := Lib.hid (show rot (xrange F p q i) (m - i) m (m + d) = rot f a m b by rw [hp, hd, hq, hq1, rot_lt F (by omega) (by omega)]; exact hr)
    have hb := Lib.hid (show 0 < i ∧ i ≤ m ∧ 0 < d ∧ m + d ≤ n by omega)
    have hms := Lib.hid (show i + d < i + j by omega)
    clear hF hr hp hd hq hq1
    go_wp2_with fail
    refine CS.out.mono ?_
    rintro e w2 ⟨rfl, h2⟩
    go_wp2_with fail
    go_roundg (i + d)
    case measure => exact hms.out
    case rel => exact ⟨i, d, by first | rfl | (simp; done), by first | rfl | (simp; done), rfl, hb.out, Lib.hid ⟨_, h2.out, HR.out⟩⟩

end Go.Proofs.YtbcmmecilheicaaGreatDoor
