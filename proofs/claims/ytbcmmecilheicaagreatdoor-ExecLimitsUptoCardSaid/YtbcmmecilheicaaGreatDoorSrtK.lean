/- slices.swapRangeCmpFunc, rotateCmpFunc, at exec.keyed. slices.insertionSortCmpFunc, at exec.keyed. slices.symMergeCmpFunc, at exec.keyed. slices.symMergeCmpFunc, at exec.keyed. slices.stableCmpFunc, SortStableFunc, at exec.keyed. -/
import Derived.Test.YtbcmmecilheicaaGreatDoorSrtS
import Derived.Shelf.RegionOpenPlain

/- slices.swapRangeCmpFunc, rotateCmpFunc, at exec.keyed. -/
namespace Go.Proofs.YtbcmmecilheicaaGreatDoor
open Go Go.RowKit

/-- an element: a slice, a number -/
structure ElK where
 a : Option Addr
 n : Nat
 c : Nat
 z : Int
abbrev encK (el : Nat → ElK) : Nat → List Value := fun r => [.slice (el r).a (el r).n (el r).c, .int .i64 (el r).z]
set_option maxRecDepth 100000 in
set_option maxHeartbeats 8000000 in
theorem swapRange88 (w0 : World) (g cap n : Nat) (el : Nat → ElK) (f : Nat → Nat) (W : World) (hW : SW w0 g 229 2 cap n (encK el) f W) (a b m : Nat) (h1 : a + m ≤ b) (h2 : b + m ≤ n) (hn : n ≤ 1000000) (fv : Value) :
  Calls Tryz.prog 185 #[.slice (some ⟨g, 0, none⟩) n cap, .int .i64 a, .int .i64 b, .int .i64 m, fv] W fun e w' => e = .returned (.tuple #[]) ∧ Hid (SW w0 g 229 2 cap n (encK el) (xrange f a b m) w') := by
 have HW := Lib.hid (show SW w0 g 229 2 cap n (encK el) (xrange f a b 0) W by rw [xrange_zero]; exact hW)
 clear hW
 go_enter Tryz.func185, Tryz.ntmps185
 go_wp2
 go_loopg [10] m (fun kx s10 wr => ∃ i : Nat, s10 = .int .i64 i ∧ kx + i = m ∧ Hid (SW w0 g 229 2 cap n (encK el) (xrange f a b i) wr))
 case atStart => exact ⟨0, rfl, rfl, HW⟩
 case round =>
  obtain ⟨i, rfl, hk, I⟩ := hrel
  by_cases hi : i < m
  ·have hiz : (i : Int) < (m : Int) := by omega
   obtain ⟨p, hp⟩ : ∃ p, p = a + i := ⟨_, rfl⟩
   obtain ⟨q, hq⟩ : ∃ q, q = b + i := ⟨_, rfl⟩
   have ap : (a : Int) + (i : Int) = (p : Int) := by omega
   have aq : (b : Int) + (i : Int) = (q : Int) := by omega
   have hp1 : (p : Int) < (n : Int) := by omega
   have hq1 : (q : Int) < (n : Int) := by omega
   have hp2 : p < n := by omega
   have hq2 : q < n := by omega
   have hp3 : (p : Int) < 1000001 := by omega
   have hq3 : (q : Int) < 1000001 := by omega
   have hi3 : (i : Int) < 1000001 := by omega
   obtain ⟨x, hx⟩ : ∃ x, x = xrange f a b i p := ⟨_, rfl⟩
   obtain ⟨y, hy⟩ : ∃ y, y = xrange f a b i q := ⟨_, rfl⟩
   have p0 : wr.cell? ⟨g, p * 2, none⟩ = some (.slice (el x).a (el x).n (el x).c) := by rw [hx]; exact I.out.cell (c := 0) hp2 (by omega)
   have p1 : wr.cell? ⟨g, p * 2 + 1, none⟩ = some (.int .i64 (el x).z) := by rw [hx]; exact I.out.cell (c := 1) hp2 (by omega)
   have q0 : wr.cell? ⟨g, q * 2, none⟩ = some (.slice (el y).a (el y).n (el y).c) := by rw [hy]; exact I.out.cell (c := 0) hq2 (by omega)
   have q1 : wr.cell? ⟨g, q * 2 + 1, none⟩ = some (.int .i64 (el y).z) := by rw [hy]; exact I.out.cell (c := 1) hq2 (by omega)
   have hfz := I.out.frozen
   have NX := Lib.hid (show SW w0 g 229 2 cap n (encK el) (xrange f a b (i + 1)) ((wr.drew.setCells g (p * 2) (encK el y)).setCells g (q * 2) (encK el x)) by
    rw [← xrange_succ f (show a + i < b by omega), ← hp, ← hq, hx, hy]
    exact I.out.drew.exchange (fun _ => rfl) hp2 hq2)
   clear hp hq hx hy I
   go_wp2_with fail
   go_region
   all_goals
    go_wp2_with fail
    go_roundg (gk - 1)
    case measure => omega
    case rel => exact ⟨i + 1, by first | rfl | (simp; done), by omega, NX⟩
  ·obtain rfl : m = i := by omega
   have hiz : ¬ (m : Int) < (m : Int) := by omega
   go_wp2_with fail
   go_end0
   exact ⟨rfl, I⟩

set_option maxRecDepth 100000 in
set_option maxHeartbeats 8000000 in
theorem rotate79 (w0 : World) (g cap n : Nat) (el : Nat → ElK) (f : Nat → Nat) (W : World) (hW : SW w0 g 229 2 cap n (encK el) f W) (a m b : Nat) (h1 : a < m) (h2 : m < b) (h3 : b ≤ n) (hn : n ≤ 1000000) (fv : Value) :
  Calls Tryz.prog 184 #[.slice (some ⟨g, 0, none⟩) n cap, .int .i64 a, .int .i64 m, .int .i64 b, fv] W fun e w' => e = .returned (.tuple #[]) ∧ Hid (SW w0 g 229 2 cap n (encK el) (rot f a m b) w') := by
 obtain ⟨i0, hi0⟩ : ∃ i0, i0 = m - a := ⟨_, rfl⟩
 obtain ⟨j0, hj0⟩ : ∃ j0, j0 = b - m := ⟨_, rfl⟩
 have HW := Lib.hid (show SW w0 g 229 2 cap n (encK el) f W ∧ rot f (m - i0) m (m + j0) = rot f a m b from ⟨hW, by rw [hi0, hj0]; congr 1 <;> omega⟩)
 have e1 : (m : Int) - (a : Int) = (i0 : Int) := by omega
 have e2 : (b : Int) - (m : Int) = (j0 : Int) := by omega
 have hi9 : (i0 : Int) < 1000001 := by omega
 have hj9 : (j0 : Int) < 1000001 := by omega
 have hib : 0 < i0 ∧ i0 ≤ m ∧ 0 < j0 ∧ m + j0 ≤ n := by omega
 clear hW hi0 hj0 h1 h2 h3
 go_enter Tryz.func184, Tryz.ntmps184
 go_wp2
 clear e1 e2
 go_loopg [10, 11] (i0 + j0) (fun kx s10 s11 wr => ∃ i j : Nat, s10 = .int .i64 i ∧ s11 = .int .i64 j ∧ kx = i + j ∧ (0 < i ∧ i ≤ m ∧ 0 < j ∧ m + j ≤ n) ∧ Hid (∃ F, SW w0 g 229 2 cap n (encK el) F wr ∧ rot F (m - i) m (m + j) = rot f a m b))
 case atStart => exact ⟨i0, j0, rfl, rfl, rfl, hib, Lib.hid ⟨f, HW.out⟩⟩
 case round =>
  clear hib hi9 hj9 HW
  obtain ⟨i, j, rfl, rfl, rfl, hij, I⟩ := hrel
  obtain ⟨F, hF, hr⟩ := I.out
  clear I
  have hi9 : (i : Int) < 1000001 := by omega
  have hj9 : (j : Int) < 1000001 := by omega
  have hm9 : (m : Int) < 1000001 := by omega
  obtain ⟨p, hp⟩ : ∃ p, p = m - i := ⟨_, rfl⟩
  have ep : (m : Int) - (i : Int) = (p : Int) := by omega
  have hp9 : (p : Int) < 1000001 := by omega
  by_cases c : i = j
  ·subst c
   have CS := Lib.hid (swapRange88 w0 g cap n el F wr hF p m i (by omega) (by omega) hn fv)
   have HR := Lib.hid (show xrange F p m i = rot f a m b by rw [hp, rot_eq F (by omega)]; exact hr)
   clear hF hr hp
   go_wp2_with fail
   refine CS.out.mono ?_
   rintro e w2 ⟨rfl, h2⟩
   rw [HR.out] at h2
   go_wp2_with fail
   go_end0
   exact ⟨rfl, h2⟩
  ·have hne : ((i : Int) != (j : Int)) = true := by simp; omega
   have hne2 : ((i : Int) == (j : Int)) = false := by simp; omega
   by_cases c2 : j < i
   ·have c3 : (j : Int) < (i : Int) := by omega
    obtain ⟨d, hd⟩ : ∃ d, d = i - j := ⟨_, rfl⟩
    have ed : (i : Int) - (j : Int) = (d : Int) := by omega
    have hd9 : (d : Int) < 1000001 := by omega
    have CS := Lib.hid (swapRange88 w0 g cap n el F wr hF p m j (by omega) (by omega) hn fv)
    have HR := Lib.hid (show rot (xrange F p m j) (m - d) m (m + j) = rot f a m b by rw [hp, hd, rot_gt F (by omega) c2]; exact hr)
    have hb := Lib.hid (show 0 < d ∧ d ≤ m ∧ 0 < j ∧ m + j ≤ n by omega)
    have hms := Lib.hid (show d + j < i + j by omega)
    clear hF hr hp hd
    go_wp2_with fail
    refine CS.out.mono ?_
    rintro e w2 ⟨rfl, h2⟩
    go_wp2_with fail
    go_roundg (d + j)
    case measure => exact hms.out
    case rel => exact ⟨d, j, by first | rfl | (simp; done), by first | rfl | (simp; done), rfl, hb.out, Lib.hid ⟨_, h2.out, HR.out⟩⟩
   ·have c3 : ¬ (j : Int) < (i : Int) := by omega
    obtain ⟨d, hd⟩ : ∃ d, d = j - i := ⟨_, rfl⟩
    have ed : (j : Int) - (i : Int) = (d : Int) := by omega
    have hd9 : (d : Int) < 1000001 := by omega
    obtain ⟨q1, hq1⟩ : ∃ q1, q1 = m + j := ⟨_, rfl⟩
    have eq1 : (m : Int) + (j : Int) = (q1 : Int) := by omega
    have hq19 : (q1 : Int) < 1000001 := by omega
    obtain ⟨q, hq⟩ : ∃ q, q = q1 - i := ⟨_, rfl⟩
    have eq2 : (q1 : Int) - (i : Int) = (q : Int) := by omega
    have hq9 : (q : Int) < 1000001 := by omega
    have CS := Lib.hid (swapRange88 w0 g cap n el F wr hF p q i (by omega) (by omega) hn fv)
    have HR := Lib.hid (show rot (xrange F p q i) (m - i) m (m + d) = rot f a m b by rw [hp, hd, hq, hq1, rot_lt F (by omega) (by omega)]; exact hr)
    have hb := Lib.hid (show 0 < i ∧ i ≤ m ∧ 0 < d ∧ m + d ≤ n by omega)
    have hms := Lib.hid (show i + d < i + j by omega)
    clear hF hr hp hd hq hq1
    go_wp2_with fail
    refine CS.out.mono ?_
    rintro e w2 ⟨rfl, h2⟩
    go_wp2_with fail
    go_roundg (i + d)
    case measure => exact hms.out
    case rel => exact ⟨i, d, by first | rfl | (simp; done), by first | rfl | (simp; done), rfl, hb.out, Lib.hid ⟨_, h2.out, HR.out⟩⟩

end Go.Proofs.YtbcmmecilheicaaGreatDoor

/- slices.insertionSortCmpFunc, at exec.keyed. -/
namespace Go.Proofs.YtbcmmecilheicaaGreatDoor
open Go Go.RowKit

/-- what is asked of the comparison -/
structure CmpK (w0 : World) (g n : Nat) (el : Nat → ElK) (o : Nat → Nat) (cf : Nat → Nat → Int) : Prop where
 call : ∀ W, w0.grownBy W (some g) → ∀ r s, r < n → s < n → Calls Tryz.prog 127 (#[.agg #[.slice (el r).a (el r).n (el r).c, .int .i64 (el r).z], .agg #[.slice (el s).a (el s).n (el s).c, .int .i64 (el s).z]]) W fun e w' => e = .returned (.int .i64 (cf r s)) ∧ Hid (Below W.heap.size W w')
 lt : ∀ r s, r < n → s < n → o s < o r → (cf r s < 0 ↔ r < s)

set_option maxRecDepth 100000 in
set_option maxHeartbeats 8000000 in
theorem insertion61 (w0 : World) (g cap n : Nat) (el : Nat → ElK) (o : Nat → Nat) (cf : Nat → Nat → Int) (HC : CmpK w0 g n el o cf) (f : Nat → Nat) (hf : ∀ k, k < n → f k < n) (W : World) (hW : SW w0 g 229 2 cap n (encK el) f W) (a b : Nat) (h1 : a ≤ b) (h2 : b ≤ n) (hn : n ≤ 1000000)
  (ho : ∀ i j, a ≤ i → i < j → j < b → o (f i) < o (f j)) :
  Calls Tryz.prog 174 #[.slice (some ⟨g, 0, none⟩) n cap, .int .i64 a, .int .i64 b, .func (.func 127) #[] #[]] W fun e w' => e = .returned (.tuple #[]) ∧ Hid (∃ F, SW w0 g 229 2 cap n (encK el) F w' ∧ Re a b f F ∧ Sor F a b) := by
 have HC := Lib.hid HC
 have HF := Lib.hid hf
 have HO := Lib.hid ho
 have HW := Lib.hid hW
 have ha9 : (a : Int) < 1000001 := by omega
 have hb9 : (b : Int) < 1000001 := by omega
 clear hf ho hW
 go_enter Tryz.func174, Tryz.ntmps174
 go_wp2_with fail
 go_loopg [8] (b + 1 - a) (fun kx s8 wr => ∃ i : Nat, s8 = .int .i64 i ∧ a < i ∧ i ≤ b + 1 ∧ kx + i = b + 2 ∧ Hid (∃ F, SW w0 g 229 2 cap n (encK el) F wr ∧ Re a i f F ∧ Sor F a i ∧ (b < i → F = f)))
 case atStart => exact ⟨a + 1, by first | rfl | (simp; done), by omega, by omega, by omega, Lib.hid ⟨f, HW.out, Re.refl _ _ _, fun i j h1 h2 h3 => by omega, fun _ => rfl⟩⟩
 case round =>
  clear HW
  obtain ⟨i, rfl, hai, hib, hk, I⟩ := hrel
  obtain ⟨G, hG⟩ := I.out
  have IG := Lib.hid hG
  clear hG I
  have hi9 : (i : Int) < 1000002 := by omega
  by_cases c : i < b
  ·have cz : (i : Int) < (b : Int) := by omega
   obtain ⟨ko, hko⟩ : ∃ ko, ko = gk := ⟨_, rfl⟩
   go_wp2_with fail
   go_loopg [9] i (fun kx s9 wr => ∃ j : Nat, s9 = .int .i64 j ∧ a ≤ j ∧ j ≤ i ∧ kx = j ∧ Hid (SW w0 g 229 2 cap n (encK el) (moved G j i) wr ∧ ∀ k, j ≤ k → k < i → G i < G k))
   case atStart => exact ⟨i, rfl, by omega, Nat.le_refl _, rfl, Lib.hid ⟨by rw [moved_self]; exact IG.out.1, fun k h1 h2 => by omega⟩⟩
   case round =>
    obtain ⟨j, rfl, haj, hji, hkj, J⟩ := hrel
    have hj9 : (j : Int) < 1000001 := by omega
    by_cases c2 : a < j
    ·obtain ⟨q, rfl⟩ : ∃ q, j = q + 1 := ⟨j - 1, by omega⟩
     obtain ⟨x, hx⟩ : ∃ x, x = moved G (q + 1) i (q + 1) := ⟨_, rfl⟩
     obtain ⟨y, hy⟩ : ∃ y, y = moved G (q + 1) i q := ⟨_, rfl⟩
     have hxG : x = G i := by rw [hx, moved_at]
     have hyG : y = G q := by rw [hy, moved_left G (by omega)]
     have fx : x = f i := by rw [hxG]; exact IG.out.2.1.1 i (.inr (Nat.le_refl _))
     obtain ⟨l, l1, l2, fy⟩ : ∃ l, a ≤ l ∧ l < i ∧ y = f l := by rw [hyG]; exact IG.out.2.1.2 q (by omega) (by omega)
     have hxn : x < n := by rw [fx]; exact HF.out i (by omega)
     have hyn : y < n := by rw [fy]; exact HF.out l (by omega)
     have hoo : o y < o x := by rw [fx, fy]; exact HO.out l i l1 l2 c
     have hlt := HC.out.lt x y hxn hyn hoo
     have hS := J.out.1
     have k0 : ∀ p : BelowW wr, p.w.cell? ⟨g, (q + 1) * 2, none⟩ = some (.slice (el x).a (el x).n (el x).c) := fun p => by rw [hx]; exact (hS.below p.h).cell (i := q + 1) (c := 0) (by omega) (by omega)
     have k1 : ∀ p : BelowW wr, p.w.cell? ⟨g, (q + 1) * 2 + 1, none⟩ = some (.int .i64 (el x).z) := fun p => by rw [hx]; exact (hS.below p.h).cell (i := q + 1) (c := 1) (by omega) (by omega)
     have t0 : ∀ p : BelowW wr, p.w.cell? ⟨g, q * 2, none⟩ = some (.slice (el y).a (el y).n (el y).c) := fun p => by rw [hy]; exact (hS.below p.h).cell (i := q) (c := 0) (by omega) (by omega)
     have t1 : ∀ p : BelowW wr, p.w.cell? ⟨g, q * 2 + 1, none⟩ = some (.int .i64 (el y).z) := fun p => by rw [hy]; exact (hS.below p.h).cell (i := q) (c := 1) (by omega) (by omega)
     have CC : Hid (∀ p : BelowW wr, Calls Tryz.prog 127 #[.agg #[.slice (el x).a (el x).n (el x).c, .int .i64 (el x).z], .agg #[.slice (el y).a (el y).n (el y).c, .int .i64 (el y).z]] p.w fun e w' => e = .returned (.int .i64 (cf x y)) ∧ Hid (Below p.w.heap.size p.w w')) := Lib.hid (fun p => HC.out.call p.w (hS.below p.h).grown x y hxn hyn)
     have z1 : (a : Int) < (q : Int) + 1 := by omega
     have z2 : (q : Int) + 1 < (n : Int) := by omega
     have z3 : (q : Int) < (n : Int) := by omega
     have z4 : (0 : Int) ≤ (q : Int) + 1 := by omega
     have z5 : ((q : Int) + 1).toNat = q + 1 := by omega
     have z6 : IntKind.i64.wrap (q : Int) = (q : Int) := by rw [IntKind.wrap_i64]; omega
     have JJ := Lib.hid J.out
     have XX := Lib.hid (And.intro hx (And.intro hy (And.intro hxG hyG)))
     have LL := Lib.hid (show x < y ∨ y < x by
      rcases Nat.lt_trichotomy x y with h | h | h
      ·exact .inl h
      ·subst h; omega
      ·exact .inr h)
     clear J hS hoo fx fy hx hy hxG hyG l1 l2
     rcases LL.out with hxy | hyx
     ·have hcf : cf x y < 0 := hlt.2 hxy
      have hcd : decide (cf x y < 0) = true := decide_eq_true hcf
      clear hlt
      go_wp2_with fail
      refine wp_region_quiet_below (by kernel_rfl) (by kernel_rfl) ?_
      repeat (quiet_step ((go_at_call 127; refine calls_below _ (CC.out _))))
      refine wpQuiet_nil ?_
      intro wq hw'
      have hq : Below wr.heap.size wr wq := by obtain ⟨p, rfl⟩ := hw'; exact p.h
      clear hw'
      have p0 := k0 ⟨wq, hq⟩
      have p1 := k1 ⟨wq, hq⟩
      have r0 := t0 ⟨wq, hq⟩
      have r1 := t1 ⟨wq, hq⟩
      have hS := JJ.out.1.below hq
      have hfz := hS.frozen
      have NX := Lib.hid (show SW w0 g 229 2 cap n (encK el) (moved G q i) ((wq.drew.setCells g ((q + 1) * 2) (encK el y)).setCells g (q * 2) (encK el x)) by
       have := hS.drew.exchange (i := q + 1) (j := q) (fun _ => rfl) (by omega) (by omega)
       rw [moved_step G (show q < i by omega), ← XX.out.1, ← XX.out.2.1] at this
       exact this)
      clear k0 k1 t0 t1 hS
      go_wp2_with fail
      go_region
      all_goals
       go_wp2_with fail
       go_roundg q
       case measure => omega
       case rel => exact ⟨q, by first | rfl | (simp; done), by omega, by omega, rfl, Lib.hid ⟨NX.out, fun k h1 h2 => by
        by_cases e : k = q
        ·subst e
         have := XX.out.2.2
         omega
        ·exact JJ.out.2 k (by omega) h2⟩⟩
     ·have hcd : decide (cf x y < 0) = false := decide_eq_false (fun h => by have := hlt.1 h; omega)
      clear hlt
      go_wp2_with fail
      refine wp_region_quiet_below (by kernel_rfl) (by kernel_rfl) ?_
      repeat (quiet_step ((go_at_call 127; refine calls_below _ (CC.out _))))
      refine wpQuiet_nil ?_
      intro wq hw'
      have hq : Below wr.heap.size wr wq := by obtain ⟨p, rfl⟩ := hw'; exact p.h
      clear hw'
      have NX := Lib.hid (show SW w0 g 229 2 cap n (encK el) (moved G (q + 1) i) wq ∧ Re a (i + 1) f (moved G (q + 1) i) ∧ Sor (moved G (q + 1) i) a (i + 1) from
       ⟨JJ.out.1.below hq, (IG.out.2.1.mono (Nat.le_refl _) (Nat.le_succ _)).trans (moved_re G haj hji (Nat.lt_succ_self _)), moved_sor IG.out.2.2.1 haj hji (fun k h1 h2 => by
        have e := XX.out.2.2
        rcases Nat.lt_or_ge k q with h | h
        ·have := IG.out.2.2.1 k q h1 h (by omega)
         omega
        ·have : k = q := by omega
         subst this
         omega) JJ.out.2⟩)
      clear k0 k1 t0 t1
      go_wp2_with fail
      go_roundg (ko - 1)
      case measure => omega
      case rel => exact ⟨i + 1, by first | rfl | (simp; done), by omega, by omega, by omega, Lib.hid ⟨_, NX.out.1, NX.out.2.1, NX.out.2.2, fun h => by omega⟩⟩
    ·have hjaz : decide ((j : Int) > (a : Int)) = false := decide_eq_false (by omega)
     have hjaz' : ¬ (a : Int) < (j : Int) := by omega
     have NX := Lib.hid (show ∀ W, Below wr.heap.size wr W → SW w0 g 229 2 cap n (encK el) (moved G j i) W ∧ Re a (i + 1) f (moved G j i) ∧ Sor (moved G j i) a (i + 1) from fun W hb =>
      ⟨J.out.1.below hb, (IG.out.2.1.mono (Nat.le_refl _) (Nat.le_succ _)).trans (moved_re G haj hji (Nat.lt_succ_self _)), moved_sor IG.out.2.2.1 haj hji (fun k h1 h2 => absurd h2 (by omega)) J.out.2⟩)
     clear J
     go_wp2_with fail
     go_region
     all_goals
      go_wp2_with fail
      go_roundg (ko - 1)
      case measure => omega
      case rel => exact ⟨i + 1, by first | rfl | (simp; done), by omega, by omega, by omega, Lib.hid ⟨_, (NX.out _ (below_drew wr)).1, (NX.out _ (below_drew wr)).2.1, (NX.out _ (below_drew wr)).2.2, fun h => by omega⟩⟩
  ·have cz : ¬ (i : Int) < (b : Int) := by omega
   go_wp2_with fail
   go_end0
   exact ⟨rfl, Lib.hid ⟨G, IG.out.1, by
    rcases Nat.lt_or_ge b i with h | h
    ·rw [IG.out.2.2.2 h]; exact Re.refl _ _ _
    ·exact IG.out.2.1.mono (Nat.le_refl _) h, fun p q h1 h2 h3 => IG.out.2.2.1 p q h1 h2 (by omega)⟩⟩

end Go.Proofs.YtbcmmecilheicaaGreatDoor

/- slices.symMergeCmpFunc, at exec.keyed. -/
namespace Go.Proofs.YtbcmmecilheicaaGreatDoor
open Go Go.RowKit

/-- what the merge leaves -/
def MergePostK (w0 : World) (g cap n : Nat) (el : Nat → ElK) (f : Nat → Nat) (a b : Nat) (e : Ending) (w' : World) : Prop := e = .returned (.tuple #[]) ∧ Hid (∃ F, SW w0 g 229 2 cap n (encK el) F w' ∧ Re a b f F ∧ Sor F a b)

set_option maxRecDepth 100000 in
set_option maxHeartbeats 16000000 in
/-- one on the left -/
theorem sym62_left (w0 : World) (g cap n : Nat) (el : Nat → ElK) (o : Nat → Nat) (cf : Nat → Nat → Int) (HC : CmpK w0 g n el o cf) (hn : n ≤ 1000000) (f : Nat → Nat) (hf : ∀ k, k < n → f k < n) (W : World) (hW : SW w0 g 229 2 cap n (encK el) f W) (a m b : Nat) (h1 : a < m) (h2 : m < b) (h3 : b ≤ n) (hs1 : Sor f a m) (hs2 : Sor f m b) (hbf : Bef o f a m b) (hma : m = a + 1) :
  Calls Tryz.prog 175 #[.slice (some ⟨g, 0, none⟩) n cap, .int .i64 a, .int .i64 m, .int .i64 b, .func (.func 127) #[] #[]] W (MergePostK w0 g cap n el f a b) := by
 unfold MergePostK
 have HC := Lib.hid HC
 have HF := Lib.hid hf
 have S1 := Lib.hid hs1
 have S2 := Lib.hid hs2
 have BF := Lib.hid hbf
 have HW := Lib.hid hW
 have ha9 : (a : Int) < 1000001 := by omega
 have hm9 : (m : Int) < 1000001 := by omega
 have hb9 : (b : Int) < 1000001 := by omega
 clear hf hW hs1 hs2 hbf
 have e1 : (m : Int) - (a : Int) = 1 := by omega
 have HM := Lib.hid hma
 clear hma
 go_enter Tryz.func175, Tryz.ntmps175
 go_wp2_with fail
 clear e1
 go_loopg [10, 11] n (fun kx s10 s11 wr => ∃ i j : Nat, s10 = .int .i64 i ∧ s11 = .int .i64 j ∧ m ≤ i ∧ i ≤ j ∧ j ≤ b ∧ j ≤ kx + i ∧ Hid (SW w0 g 229 2 cap n (encK el) f wr ∧ (∀ k, m ≤ k → k < i → f k < f a) ∧ ∀ k, j ≤ k → k < b → f a < f k))
 case atStart => exact ⟨m, b, rfl, rfl, Nat.le_refl _, by omega, Nat.le_refl _, by omega, Lib.hid ⟨HW.out, fun k h1 h2 => by omega, fun k h1 h2 => by omega⟩⟩
 case round =>
  clear HW
  obtain ⟨i, j, rfl, rfl, hmi, hij, hjb, hk, I⟩ := hrel
  have hi9 : (i : Int) < 1000001 := by omega
  have hj9 : (j : Int) < 1000001 := by omega
  by_cases c : i < j
  ·have cz : (i : Int) < (j : Int) := by omega
   obtain ⟨h, hh⟩ : ∃ h, h = (i + j) / 2 := ⟨_, rfl⟩
   have eh : ((i : Int) + (j : Int)) / 2 = (h : Int) := by omega
   have hhi : i ≤ h ∧ h < j := by omega
   have hh9 : (h : Int) < 1000001 := by omega
   have hhn : (h : Int) < (n : Int) := by omega
   have han : (a : Int) < (n : Int) := by omega
   clear hh
   have hS := I.out.1
   obtain ⟨x, hx⟩ : ∃ x, x = f h := ⟨_, rfl⟩
   obtain ⟨y, hy⟩ : ∃ y, y = f a := ⟨_, rfl⟩
   have hxn : x < n := by rw [hx]; exact HF.out h (by omega)
   have hyn : y < n := by rw [hy]; exact HF.out a (by omega)
   have hoo : o y < o x := by rw [hx, hy]; exact BF.out a h (Nat.le_refl _) h1 (by omega) (by omega)
   have k0 : ∀ p : BelowW wr, p.w.cell? ⟨g, h * 2, none⟩ = some (.slice (el x).a (el x).n (el x).c) := fun p => by rw [hx]; exact (hS.below p.h).cell (i := h) (c := 0) (by omega) (by omega)
   have k1 : ∀ p : BelowW wr, p.w.cell? ⟨g, h * 2 + 1, none⟩ = some (.int .i64 (el x).z) := fun p => by rw [hx]; exact (hS.below p.h).cell (i := h) (c := 1) (by omega) (by omega)
   have t0 : ∀ p : BelowW wr, p.w.cell? ⟨g, a * 2, none⟩ = some (.slice (el y).a (el y).n (el y).c) := fun p => by rw [hy]; exact (hS.below p.h).cell (i := a) (c := 0) (by omega) (by omega)
   have t1 : ∀ p : BelowW wr, p.w.cell? ⟨g, a * 2 + 1, none⟩ = some (.int .i64 (el y).z) := fun p => by rw [hy]; exact (hS.below p.h).cell (i := a) (c := 1) (by omega) (by omega)
   have CC : Hid (∀ p : BelowW wr, Calls Tryz.prog 127 #[.agg #[.slice (el x).a (el x).n (el x).c, .int .i64 (el x).z], .agg #[.slice (el y).a (el y).n (el y).c, .int .i64 (el y).z]] p.w fun e w' => e = .returned (.int .i64 (cf x y)) ∧ Hid (Below p.w.heap.size p.w w')) := Lib.hid (fun p => HC.out.call p.w (hS.below p.h).grown x y hxn hyn)
   have hlt := HC.out.lt x y hxn hyn hoo
   have hne : x ≠ y := fun e => by rw [e] at hoo; omega
   have LL := Lib.hid (show x < y ∨ y < x by omega)
   have II := Lib.hid I.out
   have XX := Lib.hid (And.intro hx hy)
   clear I hS hoo hx hy hne
   rcases LL.out with hxy | hyx
   ·have hcf : cf x y < 0 := hlt.2 hxy
    have hcd : decide (cf x y < 0) = true := decide_eq_true hcf
    clear hlt
    go_wp2_with fail
    refine wp_region_quiet_below (by kernel_rfl) (by kernel_rfl) ?_
    repeat (quiet_step ((go_at_call 127; refine calls_below _ (CC.out _))))
    refine wpQuiet_nil ?_
    intro wq hw'
    have hq : Below wr.heap.size wr wq := by obtain ⟨p, rfl⟩ := hw'; exact p.h
    clear hw'
    have NX := Lib.hid (show SW w0 g 229 2 cap n (encK el) f wq ∧ (∀ k, m ≤ k → k < h + 1 → f k < f a) ∧ ∀ k, j ≤ k → k < b → f a < f k from
     ⟨II.out.1.below hq, fun k h5 h6 => by
      have e1 := XX.out.1
      have e2 := XX.out.2
      rcases Nat.lt_or_ge k h with h7 | h7
      ·have := S2.out k h h5 h7 (by omega)
       omega
      ·have : k = h := by omega
       subst this
       omega, II.out.2.2⟩)
    clear k0 k1 t0 t1
    go_wp2_with fail
    go_roundg (j - (h + 1))
    case measure => omega
    case rel => exact ⟨h + 1, j, by first | rfl | (simp; done), by first | rfl | (simp; done), by omega, by omega, hjb, by omega, NX⟩
   ·have hcd : decide (cf x y < 0) = false := decide_eq_false (fun h => by have := hlt.1 h; omega)
    clear hlt
    go_wp2_with fail
    refine wp_region_quiet_below (by kernel_rfl) (by kernel_rfl) ?_
    repeat (quiet_step ((go_at_call 127; refine calls_below _ (CC.out _))))
    refine wpQuiet_nil ?_
    intro wq hw'
    have hq : Below wr.heap.size wr wq := by obtain ⟨p, rfl⟩ := hw'; exact p.h
    clear hw'
    have NX := Lib.hid (show SW w0 g 229 2 cap n (encK el) f wq ∧ (∀ k, m ≤ k → k < i → f k < f a) ∧ ∀ k, h ≤ k → k < b → f a < f k from
     ⟨II.out.1.below hq, II.out.2.1, fun k h5 h6 => by
      have e1 := XX.out.1
      have e2 := XX.out.2
      rcases Nat.lt_or_ge h k with h7 | h7
      ·have := S2.out h k (by omega) h7 h6
       omega
      ·have : k = h := by omega
       subst this
       omega⟩)
    clear k0 k1 t0 t1
    go_wp2_with fail
    go_roundg (h - i)
    case measure => omega
    case rel => exact ⟨i, h, by first | rfl | (simp; done), by first | rfl | (simp; done), hmi, by omega, by omega, by omega, NX⟩
  ·obtain rfl : j = i := by omega
   rename World => wz
   have cz : ¬ (j : Int) < (j : Int) := by omega
   obtain ⟨q, hq⟩ : ∃ q, q = j - 1 := ⟨_, rfl⟩
   have eq : (j : Int) - 1 = (q : Int) := by omega
   have hq9 : (q : Int) < 1000001 := by omega
   have hqb : a ≤ q ∧ q < b := by have := HM.out; omega
   have HQ := Lib.hid hq
   clear hq
   go_wp2_with fail
   go_loopg [13] n (fun kx s13 wr => ∃ k : Nat, s13 = .int .i64 k ∧ a ≤ k ∧ k ≤ q ∧ q ≤ kx + k ∧ Hid (SW w0 g 229 2 cap n (encK el) (movedR f a k) wr))
   case atStart => exact ⟨a, rfl, Nat.le_refl _, hqb.1, by omega, Lib.hid (by rw [movedR_self]; exact I.out.1)⟩
   case round =>
    obtain ⟨k, rfl, hak, hkq, hk5, J⟩ := hrel
    have hk9 : (k : Int) < 1000001 := by omega
    by_cases c2 : k < q
    ·have cz2 : (k : Int) < (q : Int) := by omega
     have z1 : (k : Int) + 1 < (n : Int) := by omega
     have z2 : (k : Int) < (n : Int) := by omega
     have z4 : (0 : Int) ≤ (k : Int) + 1 := by omega
     have z5 : ((k : Int) + 1).toNat = k + 1 := by omega
     obtain ⟨x, hx⟩ : ∃ x, x = movedR f a k k := ⟨_, rfl⟩
     obtain ⟨y, hy⟩ : ∃ y, y = movedR f a k (k + 1) := ⟨_, rfl⟩
     have hS := J.out
     have p0 : wr.cell? ⟨g, k * 2, none⟩ = some (.slice (el x).a (el x).n (el x).c) := by rw [hx]; exact hS.cell (i := k) (c := 0) (by omega) (by omega)
     have p1 : wr.cell? ⟨g, k * 2 + 1, none⟩ = some (.int .i64 (el x).z) := by rw [hx]; exact hS.cell (i := k) (c := 1) (by omega) (by omega)
     have r0 : wr.cell? ⟨g, (k + 1) * 2, none⟩ = some (.slice (el y).a (el y).n (el y).c) := by rw [hy]; exact hS.cell (i := k + 1) (c := 0) (by omega) (by omega)
     have r1 : wr.cell? ⟨g, (k + 1) * 2 + 1, none⟩ = some (.int .i64 (el y).z) := by rw [hy]; exact hS.cell (i := k + 1) (c := 1) (by omega) (by omega)
     have hfz := hS.frozen
     have NX := Lib.hid (show SW w0 g 229 2 cap n (encK el) (movedR f a (k + 1)) ((wr.drew.setCells g (k * 2) (encK el y)).setCells g ((k + 1) * 2) (encK el x)) by
      have := hS.drew.exchange (i := k) (j := k + 1) (fun _ => rfl) (by omega) (by omega)
      rw [movedR_step f hak, ← hx, ← hy] at this
      exact this)
     clear hS hx hy J I
     go_wp2_with fail
     go_region
     all_goals
      go_wp2_with fail
      go_roundg (q - (k + 1))
      case measure => omega
      case rel => exact ⟨k + 1, by first | rfl | (simp; done), by omega, by omega, by omega, NX⟩
    ·obtain rfl : k = q := by omega
     have cz2 : ¬ (k : Int) < (k : Int) := by omega
     have NX := Lib.hid (show SW w0 g 229 2 cap n (encK el) (movedR f a k) wr ∧ Re a b f (movedR f a k) ∧ Sor (movedR f a k) a b from
      ⟨J.out, movedR_re f hak hqb.2, movedR_sor (by rw [← HM.out]; exact S2.out) hak hqb.2 (fun t h5 h6 => I.out.2.1 t (by have := HM.out; omega) (by have := HQ.out; omega)) (fun t h5 h6 => I.out.2.2 t (by have := HQ.out; have := HM.out; omega) h6)⟩)
     clear I J
     go_wp2_with fail
     refine bodyPost_ret (results_none rfl _ _ _) rfl ⟨rfl, Lib.hid ⟨_, NX.out⟩⟩

set_option maxRecDepth 100000 in
set_option maxHeartbeats 16000000 in
/-- one on the right -/
theorem sym62_right (w0 : World) (g cap n : Nat) (el : Nat → ElK) (o : Nat → Nat) (cf : Nat → Nat → Int) (HC : CmpK w0 g n el o cf) (hn : n ≤ 1000000) (f : Nat → Nat) (hf : ∀ k, k < n → f k < n) (W : World) (hW : SW w0 g 229 2 cap n (encK el) f W) (a m b : Nat) (_h1 : a < m) (h2 : m < b) (h3 : b ≤ n) (hs1 : Sor f a m) (hs2 : Sor f m b) (hbf : Bef o f a m b) (hma : a + 1 < m) (hmb : b = m + 1) :
  Calls Tryz.prog 175 #[.slice (some ⟨g, 0, none⟩) n cap, .int .i64 a, .int .i64 m, .int .i64 b, .func (.func 127) #[] #[]] W (MergePostK w0 g cap n el f a b) := by
 unfold MergePostK
 have HC := Lib.hid HC
 have HF := Lib.hid hf
 have S1 := Lib.hid hs1
 have S2 := Lib.hid hs2
 have BF := Lib.hid hbf
 have HW := Lib.hid hW
 have ha9 : (a : Int) < 1000001 := by omega
 have hm9 : (m : Int) < 1000001 := by omega
 have hb9 : (b : Int) < 1000001 := by omega
 clear hf hW hs1 hs2 hbf
 obtain ⟨d, hd⟩ : ∃ d, d = m - a := ⟨_, rfl⟩
 have e1 : (m : Int) - (a : Int) = (d : Int) := by omega
 have e3 : ((d : Int) == 1) = false := by simp; omega
 have e4 : ¬ (d : Int) = 1 := by omega
 have e5 : decide ((d : Int) = 1) = false := by simp; omega
 have hd9 : (d : Int) < 1000001 := by omega
 have e2 : (b : Int) - (m : Int) = 1 := by omega
 have HM := Lib.hid hmb
 clear hmb hd
 go_enter Tryz.func175, Tryz.ntmps175
 go_wp2_with fail
 clear e1 e2 e3 e4 e5
 go_loopg [14, 15] n (fun kx s14 s15 wr => ∃ i j : Nat, s14 = .int .i64 i ∧ s15 = .int .i64 j ∧ a ≤ i ∧ i ≤ j ∧ j ≤ m ∧ j ≤ kx + i ∧ Hid (SW w0 g 229 2 cap n (encK el) f wr ∧ (∀ k, a ≤ k → k < i → f k < f m) ∧ ∀ k, j ≤ k → k < m → f m < f k))
 case atStart => exact ⟨a, m, rfl, rfl, Nat.le_refl _, by omega, Nat.le_refl _, by omega, Lib.hid ⟨HW.out, fun k h1 h2 => by omega, fun k h1 h2 => by omega⟩⟩
 case round =>
  clear HW
  obtain ⟨i, j, rfl, rfl, hmi, hij, hjb, hk, I⟩ := hrel
  have hi9 : (i : Int) < 1000001 := by omega
  have hj9 : (j : Int) < 1000001 := by omega
  by_cases c : i < j
  ·have cz : (i : Int) < (j : Int) := by omega
   obtain ⟨h, hh⟩ : ∃ h, h = (i + j) / 2 := ⟨_, rfl⟩
   have eh : ((i : Int) + (j : Int)) / 2 = (h : Int) := by omega
   have hhi : i ≤ h ∧ h < j := by omega
   have hh9 : (h : Int) < 1000001 := by omega
   have hhn : (h : Int) < (n : Int) := by omega
   have han : (m : Int) < (n : Int) := by omega
   clear hh
   have hS := I.out.1
   obtain ⟨x, hx⟩ : ∃ x, x = f m := ⟨_, rfl⟩
   obtain ⟨y, hy⟩ : ∃ y, y = f h := ⟨_, rfl⟩
   have hxn : x < n := by rw [hx]; exact HF.out m (by omega)
   have hyn : y < n := by rw [hy]; exact HF.out h (by omega)
   have hoo : o y < o x := by rw [hx, hy]; exact BF.out h m (by omega) (by omega) (Nat.le_refl _) h2
   have k0 : ∀ p : BelowW wr, p.w.cell? ⟨g, m * 2, none⟩ = some (.slice (el x).a (el x).n (el x).c) := fun p => by rw [hx]; exact (hS.below p.h).cell (i := m) (c := 0) (by omega) (by omega)
   have k1 : ∀ p : BelowW wr, p.w.cell? ⟨g, m * 2 + 1, none⟩ = some (.int .i64 (el x).z) := fun p => by rw [hx]; exact (hS.below p.h).cell (i := m) (c := 1) (by omega) (by omega)
   have t0 : ∀ p : BelowW wr, p.w.cell? ⟨g, h * 2, none⟩ = some (.slice (el y).a (el y).n (el y).c) := fun p => by rw [hy]; exact (hS.below p.h).cell (i := h) (c := 0) (by omega) (by omega)
   have t1 : ∀ p : BelowW wr, p.w.cell? ⟨g, h * 2 + 1, none⟩ = some (.int .i64 (el y).z) := fun p => by rw [hy]; exact (hS.below p.h).cell (i := h) (c := 1) (by omega) (by omega)
   have CC : Hid (∀ p : BelowW wr, Calls Tryz.prog 127 #[.agg #[.slice (el x).a (el x).n (el x).c, .int .i64 (el x).z], .agg #[.slice (el y).a (el y).n (el y).c, .int .i64 (el y).z]] p.w fun e w' => e = .returned (.int .i64 (cf x y)) ∧ Hid (Below p.w.heap.size p.w w')) := Lib.hid (fun p => HC.out.call p.w (hS.below p.h).grown x y hxn hyn)
   have hlt := HC.out.lt x y hxn hyn hoo
   have hne : x ≠ y := fun e => by rw [e] at hoo; omega
   have LL := Lib.hid (show x < y ∨ y < x by omega)
   have II := Lib.hid I.out
   have XX := Lib.hid (And.intro hx hy)
   clear I hS hoo hx hy hne
   rcases LL.out with hxy | hyx
   ·have hcf : cf x y < 0 := hlt.2 hxy
    have hcd : decide (cf x y < 0) = true := decide_eq_true hcf
    clear hlt
    go_wp2_with fail
    refine wp_region_quiet_below (by kernel_rfl) (by kernel_rfl) ?_
    repeat (quiet_step ((go_at_call 127; refine calls_below _ (CC.out _))))
    refine wpQuiet_nil ?_
    intro wq hw'
    have hq : Below wr.heap.size wr wq := by obtain ⟨p, rfl⟩ := hw'; exact p.h
    clear hw'
    have NX := Lib.hid (show SW w0 g 229 2 cap n (encK el) f wq ∧ (∀ k, a ≤ k → k < i → f k < f m) ∧ ∀ k, h ≤ k → k < m → f m < f k from
     ⟨II.out.1.below hq, II.out.2.1, fun k h5 h6 => by
      have e1 := XX.out.1
      have e2 := XX.out.2
      rcases Nat.lt_or_ge h k with h7 | h7
      ·have := S1.out h k (by omega) h7 h6
       omega
      ·have : k = h := by omega
       subst this
       omega⟩)
    clear k0 k1 t0 t1
    go_wp2_with fail
    go_roundg (h - i)
    case measure => omega
    case rel => exact ⟨i, h, by first | rfl | (simp; done), by first | rfl | (simp; done), hmi, by omega, by omega, by omega, NX⟩
   ·have hcd : decide (cf x y < 0) = false := decide_eq_false (fun h => by have := hlt.1 h; omega)
    clear hlt
    go_wp2_with fail
    refine wp_region_quiet_below (by kernel_rfl) (by kernel_rfl) ?_
    repeat (quiet_step ((go_at_call 127; refine calls_below _ (CC.out _))))
    refine wpQuiet_nil ?_
    intro wq hw'
    have hq : Below wr.heap.size wr wq := by obtain ⟨p, rfl⟩ := hw'; exact p.h
    clear hw'
    have NX := Lib.hid (show SW w0 g 229 2 cap n (encK el) f wq ∧ (∀ k, a ≤ k → k < h + 1 → f k < f m) ∧ ∀ k, j ≤ k → k < m → f m < f k from
     ⟨II.out.1.below hq, fun k h5 h6 => by
      have e1 := XX.out.1
      have e2 := XX.out.2
      rcases Nat.lt_or_ge k h with h7 | h7
      ·have := S1.out k h h5 h7 (by omega)
       omega
      ·have : k = h := by omega
       subst this
       omega, II.out.2.2⟩)
    clear k0 k1 t0 t1
    go_wp2_with fail
    go_roundg (j - (h + 1))
    case measure => omega
    case rel => exact ⟨h + 1, j, by first | rfl | (simp; done), by first | rfl | (simp; done), by omega, by omega, hjb, by omega, NX⟩
  ·obtain rfl : j = i := by omega
   rename World => wz
   have cz : ¬ (j : Int) < (j : Int) := by omega
   go_wp2_with fail
   go_loopg [17] n (fun kx s17 wr => ∃ k : Nat, s17 = .int .i64 k ∧ j ≤ k ∧ k ≤ m ∧ k ≤ kx + j ∧ Hid (SW w0 g 229 2 cap n (encK el) (moved f k m) wr))
   case atStart => exact ⟨m, rfl, by omega, Nat.le_refl _, by omega, Lib.hid (by rw [moved_self]; exact I.out.1)⟩
   case round =>
    obtain ⟨k, rfl, hak, hkq, hk5, J⟩ := hrel
    have hk9 : (k : Int) < 1000001 := by omega
    by_cases c2 : j < k
    ·obtain ⟨q, rfl⟩ : ∃ q, k = q + 1 := ⟨k - 1, by omega⟩
     have cz2 : (j : Int) < (q : Int) + 1 := by omega
     have z1 : (q : Int) + 1 < (n : Int) := by omega
     have z2 : (q : Int) < (n : Int) := by omega
     have z4 : (0 : Int) ≤ (q : Int) + 1 := by omega
     have z5 : ((q : Int) + 1).toNat = q + 1 := by omega
     have z6 : IntKind.i64.wrap (q : Int) = (q : Int) := by rw [IntKind.wrap_i64]; omega
     obtain ⟨x, hx⟩ : ∃ x, x = moved f (q + 1) m (q + 1) := ⟨_, rfl⟩
     obtain ⟨y, hy⟩ : ∃ y, y = moved f (q + 1) m q := ⟨_, rfl⟩
     have hS := J.out
     have p0 : wr.cell? ⟨g, (q + 1) * 2, none⟩ = some (.slice (el x).a (el x).n (el x).c) := by rw [hx]; exact hS.cell (i := q + 1) (c := 0) (by omega) (by omega)
     have p1 : wr.cell? ⟨g, (q + 1) * 2 + 1, none⟩ = some (.int .i64 (el x).z) := by rw [hx]; exact hS.cell (i := q + 1) (c := 1) (by omega) (by omega)
     have r0 : wr.cell? ⟨g, q * 2, none⟩ = some (.slice (el y).a (el y).n (el y).c) := by rw [hy]; exact hS.cell (i := q) (c := 0) (by omega) (by omega)
     have r1 : wr.cell? ⟨g, q * 2 + 1, none⟩ = some (.int .i64 (el y).z) := by rw [hy]; exact hS.cell (i := q) (c := 1) (by omega) (by omega)
     have hfz := hS.frozen
     have NX := Lib.hid (show SW w0 g 229 2 cap n (encK el) (moved f q m) ((wr.drew.setCells g ((q + 1) * 2) (encK el y)).setCells g (q * 2) (encK el x)) by
      have := hS.drew.exchange (i := q + 1) (j := q) (fun _ => rfl) (by omega) (by omega)
      rw [moved_step f (show q < m by omega), ← hx, ← hy] at this
      exact this)
     clear hS hx hy J I
     go_wp2_with fail
     go_region
     all_goals
      go_wp2_with fail
      go_roundg (q - j)
      case measure => omega
      case rel => exact ⟨q, by first | rfl | (simp; done), by omega, by omega, by omega, NX⟩
    ·obtain rfl : k = j := by omega
     have cz2 : ¬ (k : Int) < (k : Int) := by omega
     have NX := Lib.hid (show SW w0 g 229 2 cap n (encK el) (moved f k m) wr ∧ Re a b f (moved f k m) ∧ Sor (moved f k m) a b from
      ⟨J.out, moved_re f hmi hkq h2, by rw [HM.out]; exact moved_sor S1.out hmi hkq I.out.2.1 I.out.2.2⟩)
     clear I J
     go_wp2_with fail
     refine bodyPost_ret (results_none rfl _ _ _) rfl ⟨rfl, Lib.hid ⟨_, NX.out⟩⟩

end Go.Proofs.YtbcmmecilheicaaGreatDoor

/- slices.symMergeCmpFunc, at exec.keyed. -/
namespace Go.Proofs.YtbcmmecilheicaaGreatDoor
open Go Go.RowKit

set_option maxRecDepth 100000 in
set_option maxHeartbeats 32000000 in
/-- several on both sides -/
theorem sym62_mid (w0 : World) (g cap n : Nat) (el : Nat → ElK) (o : Nat → Nat) (cf : Nat → Nat → Int) (HC : CmpK w0 g n el o cf) (hn : n ≤ 1000000) (f : Nat → Nat) (hf : ∀ k, k < n → f k < n) (W : World) (hW : SW w0 g 229 2 cap n (encK el) f W) (a m b : Nat) (_h1 : a < m) (_h2 : m < b) (h3 : b ≤ n) (hs1 : Sor f a m) (hs2 : Sor f m b) (hbf : Bef o f a m b) (hma : a + 1 < m) (hmb : m + 1 < b)
  (ih : ∀ (f' : Nat → Nat) (W' : World) (a' m' b' : Nat), (∀ k, k < n → f' k < n) → SW w0 g 229 2 cap n (encK el) f' W' → a' < m' → m' < b' → b' ≤ n → b' - a' < b - a → Sor f' a' m' → Sor f' m' b' → Bef o f' a' m' b' → Calls Tryz.prog 175 #[.slice (some ⟨g, 0, none⟩) n cap, .int .i64 a', .int .i64 m', .int .i64 b', .func (.func 127) #[] #[]] W' (MergePostK w0 g cap n el f' a' b')) :
  Calls Tryz.prog 175 #[.slice (some ⟨g, 0, none⟩) n cap, .int .i64 a, .int .i64 m, .int .i64 b, .func (.func 127) #[] #[]] W (MergePostK w0 g cap n el f a b) := by
 have IH := Lib.hid ih
 clear ih
 unfold MergePostK
 have HC := Lib.hid HC
 have HF := Lib.hid hf
 have S1 := Lib.hid hs1
 have S2 := Lib.hid hs2
 have BF := Lib.hid hbf
 have HW := Lib.hid hW
 have ha9 : (a : Int) < 1000001 := by omega
 have hm9 : (m : Int) < 1000001 := by omega
 have hb9 : (b : Int) < 1000001 := by omega
 clear hf hW hs1 hs2 hbf
 obtain ⟨d, hd⟩ : ∃ d, d = m - a := ⟨_, rfl⟩
 obtain ⟨d', hd'⟩ : ∃ d', d' = b - m := ⟨_, rfl⟩
 have e1 : (m : Int) - (a : Int) = (d : Int) := by omega
 have e2 : (b : Int) - (m : Int) = (d' : Int) := by omega
 have e3 : ((d : Int) == 1) = false := by simp; omega
 have e4 : ¬ (d : Int) = 1 := by omega
 have e5 : decide ((d : Int) = 1) = false := by simp; omega
 have e6 : ((d' : Int) == 1) = false := by simp; omega
 have e7 : ¬ (d' : Int) = 1 := by omega
 have e8 : decide ((d' : Int) = 1) = false := by simp; omega
 have hd9 : (d : Int) < 1000001 := by omega
 have hd8 : (d' : Int) < 1000001 := by omega
 obtain ⟨mid, hmid⟩ : ∃ mid, mid = (a + b) / 2 := ⟨_, rfl⟩
 have emid : ((a : Int) + (b : Int)) / 2 = (mid : Int) := by omega
 have hmab : a < mid ∧ mid < b := by omega
 have hmd9 : (mid : Int) < 1000001 := by omega
 obtain ⟨nn, hnn⟩ : ∃ nn, mid + m = nn := ⟨_, rfl⟩
 have enn : (mid : Int) + (m : Int) = (nn : Int) := by omega
 have hnn9 : (nn : Int) < 2000001 := by omega
 have MID := Lib.hid (And.intro hmid hnn)
 clear hd hd' hmid
 go_enter Tryz.func175, Tryz.ntmps175
 go_upto_region 26 with fail
 clear e1 e2 e3 e4 e5 e6 e7 e8
 go_cut [20] from 21 to 22 (fun s20 wx => s20 = .int .i64 0 ∧ W = wx)
 case first =>
  go_wp2_with fail
  go_meet
  case rel => exact ⟨rfl, rfl⟩
 case rest =>
 obtain ⟨rfl, rfl⟩ := hcut
 go_step
 go_step
 go_cut [20, 21] from 138 to 146 (fun s20 s21 wx => ∃ s0 r0 : Nat, s20 = .int .i64 s0 ∧ s21 = .int .i64 r0 ∧ (a ≤ s0 ∧ s0 ≤ r0 ∧ r0 ≤ m ∧ m + r0 ≤ nn ∧ nn ≤ b + s0 ∧ (a < s0 → nn = b + s0) ∧ (r0 < m → nn = m + r0)) ∧ W = wx)
 case first =>
  have hmid := MID.out.1
  by_cases c : mid < m
  ·have cz : (mid : Int) < (m : Int) := by omega
   obtain ⟨s0, hs0⟩ : ∃ s0, s0 = nn - b := ⟨_, rfl⟩
   have es0 : (nn : Int) - (b : Int) = (s0 : Int) := by omega
   have hs09 : (s0 : Int) < 1000001 := by omega
   have FF := Lib.hid (show a ≤ s0 ∧ s0 ≤ mid ∧ mid ≤ m ∧ m + mid ≤ nn ∧ nn ≤ b + s0 ∧ (a < s0 → nn = b + s0) ∧ (mid < m → nn = m + mid) by omega)
   clear hmid hs0
   go_wp2_with fail
   go_meet
   case rel => exact ⟨s0, mid, rfl, rfl, FF.out, rfl⟩
  ·have cz : ¬ (mid : Int) < (m : Int) := by omega
   have FF := Lib.hid (show a ≤ a ∧ a ≤ m ∧ m ≤ m ∧ m + m ≤ nn ∧ nn ≤ b + a ∧ (a < a → nn = b + a) ∧ (m < m → nn = m + m) by omega)
   clear hmid
   go_wp2_with fail
   go_meet
   case rel => exact ⟨a, m, rfl, rfl, FF.out, rfl⟩
 case rest =>
  obtain ⟨s0, r0, rfl, rfl, hP, rfl⟩ := hcut
  obtain ⟨p, hp⟩ : ∃ p, p = nn - 1 := ⟨_, rfl⟩
  have ep : (nn : Int) - 1 = (p : Int) := by omega
  have hp9 : (p : Int) < 2000001 := by omega
  have hs09 : (s0 : Int) < 1000001 := by omega
  have hr09 : (r0 : Int) < 1000001 := by omega
  have HP := Lib.hid hp
  clear hp
  go_wp2_with fail
  clear ep
  go_loopg [20, 21] n (fun kx s20 s21 wr => ∃ s r : Nat, s20 = .int .i64 s ∧ s21 = .int .i64 r ∧ s0 ≤ s ∧ s ≤ r ∧ r ≤ r0 ∧ r ≤ kx + s ∧ Hid (SW w0 g 229 2 cap n (encK el) f wr ∧ (s0 < s → f (s - 1) < f (nn - s)) ∧ (r < r0 → f (nn - 1 - r) < f r)))
  case atStart => exact ⟨s0, r0, rfl, rfl, Nat.le_refl _, hP.2.1, Nat.le_refl _, by omega, Lib.hid ⟨HW.out, fun h => absurd h (Nat.lt_irrefl _), fun h => absurd h (Nat.lt_irrefl _)⟩⟩
  case round =>
   clear HW
   obtain ⟨s, r, rfl, rfl, hs0s, hsr, hrr, hk, I⟩ := hrel
   have hs9 : (s : Int) < 1000001 := by omega
   have hr9 : (r : Int) < 1000001 := by omega
   by_cases c : s < r
   ·have cz : (s : Int) < (r : Int) := by omega
    obtain ⟨h, hh⟩ : ∃ h, h = (s + r) / 2 := ⟨_, rfl⟩
    have eh : ((s : Int) + (r : Int)) / 2 = (h : Int) := by omega
    have hhi : s ≤ h ∧ h < r := by omega
    have hh9 : (h : Int) < 1000001 := by omega
    have hhn : (h : Int) < (n : Int) := by omega
    obtain ⟨v, hv⟩ : ∃ v, v = nn - 1 - h := ⟨_, rfl⟩
    have hvb : m ≤ v ∧ v < b ∧ h < m ∧ a ≤ h := by omega
    have ev : (p : Int) - (h : Int) = (v : Int) := by have := HP.out; omega
    have hv9 : (v : Int) < 1000001 := by omega
    have hvn : (v : Int) < (n : Int) := by omega
    have z6 : IntKind.i64.wrap (v : Int) = (v : Int) := by rw [IntKind.wrap_i64]; omega
    clear hh
    have hS := I.out.1
    obtain ⟨x, hx⟩ : ∃ x, x = f v := ⟨_, rfl⟩
    obtain ⟨y, hy⟩ : ∃ y, y = f h := ⟨_, rfl⟩
    have hxn : x < n := by rw [hx]; exact HF.out v (by omega)
    have hyn : y < n := by rw [hy]; exact HF.out h (by omega)
    have hoo : o y < o x := by rw [hx, hy]; exact BF.out h v hvb.2.2.2 hvb.2.2.1 hvb.1 hvb.2.1
    have k0 : ∀ p : BelowW wr, p.w.cell? ⟨g, v * 2, none⟩ = some (.slice (el x).a (el x).n (el x).c) := fun p => by rw [hx]; exact (hS.below p.h).cell (i := v) (c := 0) (by omega) (by omega)
    have k1 : ∀ p : BelowW wr, p.w.cell? ⟨g, v * 2 + 1, none⟩ = some (.int .i64 (el x).z) := fun p => by rw [hx]; exact (hS.below p.h).cell (i := v) (c := 1) (by omega) (by omega)
    have t0 : ∀ p : BelowW wr, p.w.cell? ⟨g, h * 2, none⟩ = some (.slice (el y).a (el y).n (el y).c) := fun p => by rw [hy]; exact (hS.below p.h).cell (i := h) (c := 0) (by omega) (by omega)
    have t1 : ∀ p : BelowW wr, p.w.cell? ⟨g, h * 2 + 1, none⟩ = some (.int .i64 (el y).z) := fun p => by rw [hy]; exact (hS.below p.h).cell (i := h) (c := 1) (by omega) (by omega)
    have CC : Hid (∀ p : BelowW wr, Calls Tryz.prog 127 #[.agg #[.slice (el x).a (el x).n (el x).c, .int .i64 (el x).z], .agg #[.slice (el y).a (el y).n (el y).c, .int .i64 (el y).z]] p.w fun e w' => e = .returned (.int .i64 (cf x y)) ∧ Hid (Below p.w.heap.size p.w w')) := Lib.hid (fun p => HC.out.call p.w (hS.below p.h).grown x y hxn hyn)
    have hlt := HC.out.lt x y hxn hyn hoo
    have hne : x ≠ y := fun e => by rw [e] at hoo; omega
    have LL := Lib.hid (show x < y ∨ y < x by omega)
    have II := Lib.hid I.out
    have XX := Lib.hid (And.intro hx (And.intro hy hv))
    clear I hS hoo hx hy hne hv
    rcases LL.out with hxy | hyx
    ·have hcf : cf x y < 0 := hlt.2 hxy
     have hcd : decide (cf x y < 0) = true := decide_eq_true hcf
     have NX := Lib.hid (show f (nn - 1 - h) < f h by have e1 := XX.out.1; have e2 := XX.out.2.1; rw [← XX.out.2.2]; omega)
     clear hlt
     go_wp2_with fail
     refine wp_region_quiet_below (by kernel_rfl) (by kernel_rfl) ?_
     repeat (quiet_step ((go_at_call 127; refine calls_below _ (CC.out _))))
     refine wpQuiet_nil ?_
     intro wq hw'
     have hq : Below wr.heap.size wr wq := by obtain ⟨p, rfl⟩ := hw'; exact p.h
     clear hw'
     clear k0 k1 t0 t1
     go_wp2_with fail
     go_roundg (h - s)
     case measure => omega
     case rel => exact ⟨s, h, by first | rfl | (simp; done), by first | rfl | (simp; done), hs0s, by omega, by omega, by omega, Lib.hid ⟨II.out.1.below hq, II.out.2.1, fun _ => NX.out⟩⟩
    ·have hcd : decide (cf x y < 0) = false := decide_eq_false (fun h => by have := hlt.1 h; omega)
     have NX := Lib.hid (show f (h + 1 - 1) < f (nn - (h + 1)) by
      have e1 := XX.out.1
      have e2 := XX.out.2.1
      have e3 := XX.out.2.2
      rw [show h + 1 - 1 = h by omega, show nn - (h + 1) = v by omega]
      omega)
     clear hlt
     go_wp2_with fail
     refine wp_region_quiet_below (by kernel_rfl) (by kernel_rfl) ?_
     repeat (quiet_step ((go_at_call 127; refine calls_below _ (CC.out _))))
     refine wpQuiet_nil ?_
     intro wq hw'
     have hq : Below wr.heap.size wr wq := by obtain ⟨p, rfl⟩ := hw'; exact p.h
     clear hw'
     clear k0 k1 t0 t1
     go_wp2_with fail
     go_roundg (r - (h + 1))
     case measure => omega
     case rel => exact ⟨h + 1, r, by first | rfl | (simp; done), by first | rfl | (simp; done), by omega, by omega, hrr, by omega, Lib.hid ⟨II.out.1.below hq, fun _ => NX.out, II.out.2.2⟩⟩
   ·obtain rfl : r = s := by omega
    have cz : ¬ (r : Int) < (r : Int) := by omega
    obtain ⟨e, he⟩ : ∃ e, e = nn - r := ⟨_, rfl⟩
    have ee : (nn : Int) - (r : Int) = (e : Int) := by omega
    have he9 : (e : Int) < 1000001 := by omega
    have hre : a ≤ r ∧ r ≤ m ∧ m ≤ e ∧ e ≤ b ∧ r + (e - m) = mid := by omega
    have HH := Lib.hid (show Halves o (rot f r m e) a r mid e b ∧ Re a b f (rot f r m e) by
     have hh := halves (o := o) S1.out S2.out BF.out hre.1 hre.2.1 hre.2.2.1 hre.2.2.2.1 (fun h5 h6 => by
      rw [he]; exact I.out.2.1 (by omega)) (fun h5 h6 => by
      have := I.out.2.2 (by omega)
      rw [he, show nn - r - 1 = nn - 1 - r by omega]; exact this)
     rw [hre.2.2.2.2] at hh
     exact ⟨hh, (rot_re f hre.2.1 hre.2.2.1).mono hre.1 hre.2.2.2.1⟩)
    have hSW := Lib.hid I.out.1
    have HE := Lib.hid he
    clear I he
    go_upto_region 38 with fail
    go_cut [24] from 175 to 177 (fun s24 wx => s24 = .int .i64 e ∧ wr = wx)
    case first =>
     go_wp2_with fail
     go_meet
     case rel => exact ⟨rfl, rfl⟩
    case rest =>
    obtain ⟨rfl, rfl⟩ := hcut
    go_step
    go_step
    go_cut [24] from 178 to 191 (fun s24 wx => s24 = .int .i64 e ∧ Hid (SW w0 g 229 2 cap n (encK el) (rot f r m e) wx))
    case first =>
     by_cases c1 : r < m
     ·have z1 : (r : Int) < (m : Int) := by omega
      by_cases c2 : m < e
      ·have z2 : (m : Int) < (e : Int) := by omega
       have RC := Lib.hid (rotate79 w0 g cap n el f _ hSW.out r m e c1 c2 (by omega) hn (.func (.func 127) #[] #[]))
       go_wp2_with fail
       refine RC.out.mono ?_
       rintro ev w2 ⟨rfl, h5⟩
       go_wp2_with fail
       go_meet
       case rel => exact ⟨rfl, h5⟩
      ·have z2 : ¬ (m : Int) < (e : Int) := by omega
       have z3 : decide ((m : Int) < (e : Int)) = false := decide_eq_false z2
       have e5 : e = m := by omega
       have NX := Lib.hid (show SW w0 g 229 2 cap n (encK el) (rot f r m e) wr by rw [e5, rot_right]; exact hSW.out)
       clear e5
       go_wp2_with fail
       go_meet
       case rel => exact ⟨rfl, NX⟩
     ·have z1 : ¬ (r : Int) < (m : Int) := by omega
      have z3 : decide ((r : Int) < (m : Int)) = false := decide_eq_false z1
      have e5 : r = m := by omega
      have NX := Lib.hid (show SW w0 g 229 2 cap n (encK el) (rot f r m e) wr by rw [e5, rot_left]; exact hSW.out)
      clear e5
      go_wp2_with fail
      go_meet
      case rel => exact ⟨rfl, NX⟩
    case rest =>
     obtain ⟨rfl, hS1⟩ := hcut
     go_step
     go_step
     go_cut [24] from 192 to 205 (fun s24 wx => s24 = .int .i64 e ∧ Hid (∃ G, SW w0 g 229 2 cap n (encK el) G wx ∧ Re a mid (rot f r m e) G ∧ Sor G a mid))
     case first =>
      have hk : ∀ k, k < n → rot f r m e k < n := fun k hk => by
       by_cases c : a ≤ k ∧ k < b
       ·obtain ⟨l, h5, h6, e5⟩ := HH.out.2.2 k c.1 c.2
        rw [e5]; exact HF.out l (by omega)
       ·rw [HH.out.2.1 k (by omega)]; exact HF.out k hk
      by_cases c1 : a < r
      ·have z1 : (a : Int) < (r : Int) := by omega
       by_cases c2 : r < mid
       ·have z2 : (r : Int) < (mid : Int) := by omega
        have RC0 := IH.out (rot f r m e) wc a r mid hk hS1.out c1 c2 (by omega) (by omega) HH.out.1.l1 HH.out.1.l2 HH.out.1.b1
        unfold MergePostK at RC0
        have RC := Lib.hid RC0
        clear RC0 hk
        go_wp2_with fail
        refine RC.out.mono ?_
        rintro ev w2 ⟨rfl, h5⟩
        go_wp2_with fail
        go_meet
        case rel => exact ⟨rfl, h5⟩
       ·have z2 : ¬ (r : Int) < (mid : Int) := by omega
        have z3 : decide ((r : Int) < (mid : Int)) = false := decide_eq_false z2
        have e5 : r = mid := by omega
        have NX := Lib.hid (show ∃ G, SW w0 g 229 2 cap n (encK el) G wc ∧ Re a mid (rot f r m e) G ∧ Sor G a mid from ⟨_, hS1.out, Re.refl _ _ _, fun i j h5 h6 h7 => HH.out.1.l1 i j h5 h6 (by omega)⟩)
        clear e5 hk
        go_wp2_with fail
        go_meet
        case rel => exact ⟨rfl, NX⟩
      ·have z1 : ¬ (a : Int) < (r : Int) := by omega
       have z3 : decide ((a : Int) < (r : Int)) = false := decide_eq_false z1
       have NX := Lib.hid (show ∃ G, SW w0 g 229 2 cap n (encK el) G wc ∧ Re a mid (rot f r m e) G ∧ Sor G a mid from ⟨_, hS1.out, Re.refl _ _ _, fun i j h5 h6 h7 => HH.out.1.l2 i j (by omega) h6 h7⟩)
       clear hk
       go_wp2_with fail
       go_meet
       case rel => exact ⟨rfl, NX⟩
     case rest =>
      obtain ⟨rfl, hG⟩ := hcut
      obtain ⟨G, hG1, hG2, hG3⟩ := hG.out
      obtain ⟨j1, j2, j3, j4⟩ := HH.out.1.first (by omega) hG2
      have hRe : Re a b f G := HH.out.2.trans (hG2.mono (Nat.le_refl _) (by omega))
      have hk : ∀ k, k < n → G k < n := fun k hk => by
       by_cases c : a ≤ k ∧ k < b
       ·obtain ⟨l, h5, h6, e5⟩ := hRe.2 k c.1 c.2
        rw [e5]; exact HF.out l (by omega)
       ·rw [hRe.1 k (by omega)]; exact HF.out k hk
      have GG := Lib.hid (And.intro hG1 (And.intro hG3 (And.intro j1 (And.intro j2 (And.intro j4 hRe)))))
      by_cases c1 : mid < e
      ·have z1 : (mid : Int) < (e : Int) := by omega
       by_cases c2 : e < b
       ·have z2 : (e : Int) < (b : Int) := by omega
        have RC0 := IH.out G wc mid e b hk hG1 c1 c2 h3 (by omega) j1 j2 j3
        unfold MergePostK at RC0
        have RC := Lib.hid RC0
        clear RC0 hk hG1 hG2 hG3 j1 j2 j3 j4 hRe hG
        go_wp2_with fail
        refine RC.out.mono ?_
        rintro ev w2 ⟨rfl, h5⟩
        go_wp2_with fail
        go_end0
        obtain ⟨F, k1, k2, k3⟩ := h5.out
        obtain ⟨g1, g2, g3, g4, g5, g6⟩ := GG.out
        exact ⟨rfl, Lib.hid ⟨F, k1, g6.trans (k2.mono (by omega) (Nat.le_refl _)), sor_join (sor_keep k2 g2) k3 (lt_keep k2 g5)⟩⟩
       ·have z2 : ¬ (e : Int) < (b : Int) := by omega
        have z3 : decide ((e : Int) < (b : Int)) = false := decide_eq_false z2
        have NX := Lib.hid (show SW w0 g 229 2 cap n (encK el) G wc ∧ Re a b f G ∧ Sor G a b from ⟨hG1, hRe, sor_join hG3 (fun i j h5 h6 h7 => j1 i j h5 h6 (by omega)) j4⟩)
        clear hk hG1 hG2 hG3 j1 j2 j3 j4 hRe hG
        go_wp2_with fail
        go_end0
        exact ⟨rfl, Lib.hid ⟨G, NX.out⟩⟩
      ·have z1 : ¬ (mid : Int) < (e : Int) := by omega
       have z3 : decide ((mid : Int) < (e : Int)) = false := decide_eq_false z1
       have NX := Lib.hid (show SW w0 g 229 2 cap n (encK el) G wc ∧ Re a b f G ∧ Sor G a b from ⟨hG1, hRe, sor_join hG3 (fun i j h5 h6 h7 => j2 i j (by omega) h6 h7) j4⟩)
       clear hk hG1 hG2 hG3 j1 j2 j3 j4 hRe hG
       go_wp2_with fail
       go_end0
       exact ⟨rfl, Lib.hid ⟨G, NX.out⟩⟩

/-- slices.symMergeCmpFunc -/
theorem sym62 (N : Nat) : ∀ (w0 : World) (g cap n : Nat) (el : Nat → ElK) (o : Nat → Nat) (cf : Nat → Nat → Int) (_HC : CmpK w0 g n el o cf) (_hn : n ≤ 1000000) (f : Nat → Nat) (_hf : ∀ k, k < n → f k < n) (W : World) (_hW : SW w0 g 229 2 cap n (encK el) f W) (a m b : Nat) (_h1 : a < m) (_h2 : m < b) (_h3 : b ≤ n) (_hs1 : Sor f a m) (_hs2 : Sor f m b) (_hbf : Bef o f a m b) (_ : b - a ≤ N),
  Calls Tryz.prog 175 #[.slice (some ⟨g, 0, none⟩) n cap, .int .i64 a, .int .i64 m, .int .i64 b, .func (.func 127) #[] #[]] W (MergePostK w0 g cap n el f a b) := by
 induction N with
 | zero => intro _ _ _ _ _ _ _ _ _ _ _ _ _ a m b h1 h2 h3 _ _ _ hN; omega
 | succ N ih =>
  intro w0 g cap n el o cf HC hn f hf W hW a m b h1 h2 h3 hs1 hs2 hbf hN
  by_cases c1 : m = a + 1
  ·exact sym62_left w0 g cap n el o cf HC hn f hf W hW a m b h1 h2 h3 hs1 hs2 hbf c1
  ·by_cases c2 : b = m + 1
   ·exact sym62_right w0 g cap n el o cf HC hn f hf W hW a m b h1 h2 h3 hs1 hs2 hbf (by omega) c2
   ·exact sym62_mid w0 g cap n el o cf HC hn f hf W hW a m b h1 h2 h3 hs1 hs2 hbf (by omega) (by omega) (fun f' W' a' m' b' k1 k2 k3 k4 k5 k6 k7 k8 k9 => ih w0 g cap n el o cf HC hn f' k1 W' k2 a' m' b' k3 k4 k5 k7 k8 k9 (by omega))

end Go.Proofs.YtbcmmecilheicaaGreatDoor

/- slices.stableCmpFunc, SortStableFunc, at exec.keyed. -/
namespace Go.Proofs.YtbcmmecilheicaaGreatDoor
open Go Go.RowKit

theorem re_ltK {a b n : Nat} {F G : Nat → Nat} (hb : b ≤ n) (hF : ∀ k, k < n → F k < n) (hr : Re a b F G) : ∀ k, k < n → G k < n := fun k hk => by
 by_cases c : a ≤ k ∧ k < b
 ·obtain ⟨l, h5, h6, e5⟩ := hr.2 k c.1 c.2
  rw [e5]; exact hF l (by omega)
 ·rw [hr.1 k (by omega)]; exact hF k hk

set_option maxRecDepth 100000 in
set_option maxHeartbeats 32000000 in
/-- slices.stableCmpFunc: behind it each rank lies in its own place -/
theorem stable41 (w0 : World) (g cap n : Nat) (el : Nat → ElK) (o : Nat → Nat) (cf : Nat → Nat → Int) (HC : CmpK w0 g n el o cf) (hn : n ≤ 1000000) (f : Nat → Nat) (hf : ∀ k, k < n → f k < n) (W : World) (hW : SW w0 g 229 2 cap n (encK el) f W) (ho : ∀ k, k < n → o (f k) = k) :
  Calls Tryz.prog 158 #[.slice (some ⟨g, 0, none⟩) n cap, .int .i64 n, .func (.func 127) #[] #[]] W fun e w' => e = .returned (.tuple #[]) ∧ Hid (∃ F, SW w0 g 229 2 cap n (encK el) F w' ∧ ∀ k, k < n → F k = k) := by
 have HC := Lib.hid HC
 have HO := Lib.hid ho
 have HW := Lib.hid (And.intro hW (And.intro (First.zero (f0 := f) (bs := 20) ho) hf))
 have hn9 : (n : Int) < 1000001 := by omega
 clear hf hW ho
 go_enter Tryz.func158, Tryz.ntmps158
 go_wp2_with fail
 go_loopg [7, 8] n (fun kx s7 s8 wr => ∃ A B : Nat, s7 = .int .i64 A ∧ s8 = .int .i64 B ∧ B = A + 20 ∧ A ≤ n ∧ n ≤ kx + A ∧ Hid (∃ t F, A = t * 20 ∧ SW w0 g 229 2 cap n (encK el) F wr ∧ First o f F n 20 A ∧ ∀ k, k < n → F k < n))
 case atStart => exact ⟨0, 20, rfl, rfl, rfl, Nat.zero_le _, by omega, Lib.hid ⟨0, f, rfl, HW.out⟩⟩
 case round =>
  clear HW
  obtain ⟨A, B, rfl, rfl, hB, hA, hk, I⟩ := hrel
  obtain ⟨t, F, i1, i2, i3, i4⟩ := I.out
  clear I
  have hA9 : (A : Int) < 1000001 := by omega
  have hB9 : (B : Int) < 1000021 := by omega
  have hoo : ∀ b, b ≤ n → ∀ i j, A ≤ i → i < j → j < b → o (F i) < o (F j) := fun b hb i j h1 h2 h3 => by
   rw [i3.rest i h1, i3.rest j (by omega), HO.out i (by omega), HO.out j (by omega)]; exact h2
  by_cases c : B ≤ n
  ·have cz : (B : Int) ≤ (n : Int) := by omega
   have RC := Lib.hid (insertion61 w0 g cap n el o cf HC.out F i4 _ i2 A B (by omega) c hn (hoo B c))
   have III := Lib.hid (And.intro i1 (And.intro i3 (And.intro i4 hB)))
   clear i1 i2 i3 i4 hoo hB
   go_wp2_with fail
   refine RC.out.mono ?_
   rintro ev w2 ⟨rfl, h5⟩
   have NX := Lib.hid (show ∃ t F, B = t * 20 ∧ SW w0 g 229 2 cap n (encK el) F w2 ∧ First o f F n 20 B ∧ ∀ k, k < n → F k < n by
    obtain ⟨G, k1, k2, k3⟩ := h5.out
    obtain ⟨i1, i3, i4, hB⟩ := III.out
    rw [hB, i1] at k2 k3
    rw [i1] at i3
    have := i3.step (by omega) (.inl ⟨rfl, by omega⟩) k2 k3
    exact ⟨t + 1, G, by rw [hB, i1]; omega, k1, by rw [hB, i1]; exact this, re_ltK (by omega) i4 k2⟩)
   have HBB := Lib.hid III.out.2.2.2
   clear h5 III
   go_wp2_with fail
   go_roundg (n - B)
   case measure => have := HBB.out; omega
   case rel => exact ⟨B, B + 20, by first | rfl | (simp; done), by first | rfl | (simp; done), rfl, c, by omega, NX⟩
  ·have cz : (n : Int) < (B : Int) := by omega
   have czd : decide ((B : Int) ≤ (n : Int)) = false := decide_eq_false (by omega)
   have RC := Lib.hid (insertion61 w0 g cap n el o cf HC.out F i4 _ i2 A n hA (Nat.le_refl _) hn (hoo n (Nat.le_refl _)))
   have III := Lib.hid (And.intro i1 (And.intro i3 (And.intro i4 hB)))
   clear i1 i2 i3 i4 hoo hB
   go_wp2_with fail
   refine RC.out.mono ?_
   rintro ev w2 ⟨rfl, h5⟩
   have NX := Lib.hid (show ∃ F, SW w0 g 229 2 cap n (encK el) F w2 ∧ Runs o F n 20 ∧ ∀ k, k < n → F k < n by
    obtain ⟨G, k1, k2, k3⟩ := h5.out
    obtain ⟨i1, i3, i4, hB⟩ := III.out
    rw [i1] at k2 k3 i3
    have := i3.step (by omega) (.inr ⟨rfl, by omega⟩) k2 k3
    exact ⟨G, k1, this.runs (by omega), re_ltK (Nat.le_refl _) i4 k2⟩)
   clear h5 III hA hk hA9 hB9 c cz czd RC
   go_wp2_with fail
   go_loopg [6] n (fun kx s6 wr => ∃ bs : Nat, s6 = .int .i64 bs ∧ 0 < bs ∧ bs ≤ 2000020 ∧ n ≤ kx + bs ∧ Hid (∃ F, SW w0 g 229 2 cap n (encK el) F wr ∧ Runs o F n bs ∧ ∀ k, k < n → F k < n))
   case atStart => exact ⟨20, rfl, by omega, by omega, by omega, NX⟩
   case round =>
    clear NX
    obtain ⟨bs, rfl, hb0, hb9, hk, I⟩ := hrel
    have hb8 : (bs : Int) < 2000021 := by omega
    by_cases c : bs < n
    ·have cz : (bs : Int) < (n : Int) := by omega
     obtain ⟨bb, hbb⟩ : ∃ bb, 2 * bs = bb := ⟨_, rfl⟩
     have e1 : (2 : Int) * (bs : Int) = (bb : Int) := by omega
     have e2 : (bs : Int) * 2 = (bb : Int) := by omega
     have hbb9 : (bb : Int) < 2000001 := by omega
     obtain ⟨ko, hko⟩ : ∃ ko, ko = gk := ⟨_, rfl⟩
     go_wp2_with fail
     go_loopg [7, 8] n (fun kx s7 s8 wr => ∃ A B : Nat, s7 = .int .i64 A ∧ s8 = .int .i64 B ∧ B = A + bb ∧ A ≤ n ∧ n ≤ kx + A ∧ Hid (∃ t F, A = t * (2 * bs) ∧ SW w0 g 229 2 cap n (encK el) F wr ∧ RunsM o F n bs t ∧ ∀ k, k < n → F k < n))
     case atStart => exact ⟨0, bb, rfl, rfl, by omega, Nat.zero_le _, by omega, Lib.hid (by obtain ⟨F, i1, i2, i3⟩ := I.out; exact ⟨0, F, by omega, i1, i2.begin, i3⟩)⟩
     case round =>
      clear I
      obtain ⟨A, B, rfl, rfl, hB, hA, hk2, I⟩ := hrel
      obtain ⟨t, F, i1, i2, i3, i4⟩ := I.out
      clear I
      have hA9 : (A : Int) < 1000001 := by omega
      have hB9 : (B : Int) < 3000001 := by omega
      obtain ⟨M, hM⟩ : ∃ M, A + bs = M := ⟨_, rfl⟩
      have eM : (A : Int) + (bs : Int) = (M : Int) := by omega
      have hM9 : (M : Int) < 2000001 := by omega
      by_cases c2 : B ≤ n
      ·have cz2 : (B : Int) ≤ (n : Int) := by omega
       have hpre := i3.pre (b := B) hb0 (by rw [← i1]; omega) (by rw [← i1]; omega) c2
       rw [← i1, hM] at hpre
       have RC0 := sym62 (B - A) w0 g cap n el o cf HC.out hn F i4 _ i2 A M B (by omega) (by omega) c2 hpre.1 hpre.2.1 hpre.2.2 (Nat.le_refl _)
       unfold MergePostK at RC0
       have RC := Lib.hid RC0
       have III := Lib.hid (And.intro i1 (And.intro i3 (And.intro i4 (And.intro hB hbb))))
       obtain ⟨B2, hB2⟩ : ∃ B2, B + bb = B2 := ⟨_, rfl⟩
       have e5 : (B : Int) + (bb : Int) = (B2 : Int) := by omega
       have hB29 : (B2 : Int) < 5000001 := by omega
       have HB2 := Lib.hid hB2.symm
       have hms := Lib.hid (show n - B < gk by omega)
       clear i1 i2 i3 i4 hpre RC0 hB hM hbb hB2
       go_wp2_with fail
       refine RC.out.mono ?_
       rintro ev w3 ⟨rfl, h5⟩
       have NX := Lib.hid (show ∃ t F, B = t * (2 * bs) ∧ SW w0 g 229 2 cap n (encK el) F w3 ∧ RunsM o F n bs t ∧ ∀ k, k < n → F k < n by
        obtain ⟨G, k1, k2, k3⟩ := h5.out
        obtain ⟨i1, i3, i4, hB, hbb⟩ := III.out
        have e6 : B = (t + 1) * (2 * bs) := by rw [Nat.add_mul, Nat.one_mul, ← i1, hbb]; exact hB
        have e7 : B = t * (2 * bs) + 2 * bs := by rw [← i1, hbb]; exact hB
        have k4 := k2
        rw [i1] at k2 k3
        exact ⟨t + 1, G, e6, k1, i3.step hb0 (.inl ⟨e7, c2⟩) k2 k3, re_ltK c2 i4 k4⟩)
       clear h5 III
       go_wp2_with fail
       go_roundg (n - B)
       case measure => exact hms.out
       case rel => exact ⟨B, B2, by first | rfl | (simp; done), by first | rfl | (simp; done), HB2.out, c2, by omega, NX⟩
      ·have cz2 : (n : Int) < (B : Int) := by omega
       have czd : decide ((B : Int) ≤ (n : Int)) = false := decide_eq_false (by omega)
       have hms := Lib.hid (show n - bb < ko by omega)
       by_cases c3 : M < n
       ·have cz3 : (M : Int) < (n : Int) := by omega
        have hpre := i3.pre (b := n) hb0 (by rw [← i1]; omega) (by rw [← i1]; omega) (Nat.le_refl _)
        rw [← i1, hM] at hpre
        have RC0 := sym62 (n - A) w0 g cap n el o cf HC.out hn F i4 _ i2 A M n (by omega) c3 (Nat.le_refl _) hpre.1 hpre.2.1 hpre.2.2 (Nat.le_refl _)
        unfold MergePostK at RC0
        have RC := Lib.hid RC0
        have III := Lib.hid (And.intro i1 (And.intro i3 (And.intro i4 (And.intro hB (And.intro hbb c2)))))
        clear i1 i2 i3 i4 hpre RC0 hB hM hbb
        go_wp2_with fail
        refine RC.out.mono ?_
        rintro ev w3 ⟨rfl, h5⟩
        have NX := Lib.hid (show ∃ F, SW w0 g 229 2 cap n (encK el) F w3 ∧ Runs o F n bb ∧ ∀ k, k < n → F k < n by
         obtain ⟨G, k1, k2, k3⟩ := h5.out
         obtain ⟨i1, i3, i4, hB, hbb, c2⟩ := III.out
         have k4 := k2
         rw [i1] at k2 k3
         have e8 : n < t * (2 * bs) + 2 * bs := by rw [← i1, hbb]; omega
         have := i3.step hb0 (.inr ⟨rfl, e8⟩) k2 k3
         exact ⟨G, k1, hbb ▸ this.all hb0 (by rw [Nat.add_mul, Nat.one_mul]; omega), re_ltK (Nat.le_refl _) i4 k4⟩)
        have hb := Lib.hid (show 0 < bb ∧ bb ≤ 2000020 by have := III.out.2.2.2.2.1; omega)
        clear h5 III
        go_wp2_with fail
        go_roundg (n - bb)
        case measure => have := hms.out; omega
        case rel => exact ⟨bb, by first | rfl | (simp; done), hb.out.1, hb.out.2, by omega, NX⟩
       ·have cz3 : ¬ (M : Int) < (n : Int) := by omega
        have NX := Lib.hid (show ∃ F, SW w0 g 229 2 cap n (encK el) F wr ∧ Runs o F n bb ∧ ∀ k, k < n → F k < n from
         ⟨F, i2, hbb ▸ i3.end_ hb0 (by rw [← i1]; omega), i4⟩)
        have hb := Lib.hid (show 0 < bb ∧ bb ≤ 2000020 by omega)
        clear i1 i2 i3 i4 hB hM hbb
        go_wp2_with fail
        go_roundg (n - bb)
        case measure => have := hms.out; omega
        case rel => exact ⟨bb, by first | rfl | (simp; done), hb.out.1, hb.out.2, by omega, NX⟩
    ·have cz : ¬ (bs : Int) < (n : Int) := by omega
     have NX := Lib.hid (show ∃ F, SW w0 g 229 2 cap n (encK el) F wr ∧ ∀ k, k < n → F k = k by
      obtain ⟨F, i1, i2, i3⟩ := I.out
      exact ⟨F, i1, sor_id (i2.whole (by omega)) i3⟩)
     clear I
     go_wp2_with fail
     go_end0
     exact ⟨rfl, NX⟩

set_option maxRecDepth 100000 in
set_option maxHeartbeats 4000000 in
/-- slices.SortStableFunc -/
theorem sortStable22 (w0 : World) (g cap n : Nat) (el : Nat → ElK) (o : Nat → Nat) (cf : Nat → Nat → Int) (HC : CmpK w0 g n el o cf) (hn : n ≤ 1000000) (f : Nat → Nat) (hf : ∀ k, k < n → f k < n) (W : World) (hW : SW w0 g 229 2 cap n (encK el) f W) (ho : ∀ k, k < n → o (f k) = k) :
  Calls Tryz.prog 126 #[.slice (some ⟨g, 0, none⟩) n cap, .func (.func 127) #[] #[]] W fun e w' => e = .returned (.tuple #[]) ∧ Hid (∃ F, SW w0 g 229 2 cap n (encK el) F w' ∧ ∀ k, k < n → F k = k) := by
 have RC := Lib.hid (stable41 w0 g cap n el o cf HC hn f hf W hW ho)
 clear hf hW ho
 go_enter Tryz.func126, Tryz.ntmps126
 go_wp2_with fail
 refine RC.out.mono ?_
 rintro ev w2 ⟨rfl, h5⟩
 go_wp2_with fail
 go_end0
 exact ⟨rfl, h5⟩

set_option maxRecDepth 100000 in
set_option maxHeartbeats 4000000 in
/-- of none -/
theorem sortStable22_nil (W : World) : Calls Tryz.prog 126 #[.slice none 0 0, .func (.func 127) #[] #[]] W fun e w' => e = .returned (.tuple #[]) ∧ W = w' := by
 have h1 : Calls Tryz.prog 174 #[.slice none 0 0, .int .i64 0, .int .i64 0, .func (.func 127) #[] #[]] W fun e w' => e = .returned (.tuple #[]) ∧ W = w' := by
  go_enter Tryz.func174, Tryz.ntmps174
  go_wp2_with fail
  refine wp_loop_rounds 1 ?_
  rw [rounds_succ]
  go_wp2_with fail
  go_end0
  exact ⟨rfl, rfl⟩
 have H1 := Lib.hid h1
 clear h1
 have h2 : Calls Tryz.prog 158 #[.slice none 0 0, .int .i64 0, .func (.func 127) #[] #[]] W fun e w' => e = .returned (.tuple #[]) ∧ W = w' := by
  go_enter Tryz.func158, Tryz.ntmps158
  go_wp2_with fail
  refine wp_loop_rounds 1 ?_
  rw [rounds_succ]
  go_wp2_with fail
  refine H1.out.mono ?_
  rintro ev w2 ⟨rfl, rfl⟩
  go_wp2_with fail
  refine wp_loop_rounds 1 ?_
  rw [rounds_succ]
  go_wp2_with fail
  go_end0
  exact ⟨rfl, rfl⟩
 have H2 := Lib.hid h2
 clear h2
 go_enter Tryz.func126, Tryz.ntmps126
 go_wp2_with fail
 refine H2.out.mono ?_
 rintro ev w2 ⟨rfl, rfl⟩
 go_wp2_with fail
 go_end0
 exact ⟨rfl, rfl⟩

end Go.Proofs.YtbcmmecilheicaaGreatDoor
