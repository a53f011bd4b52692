/- slices.insertionSortCmpFunc, at exec.part. -/
import Derived.Test.YtbcmmecilheicaaGreatDoorSrtBP
namespace Go.Proofs.YtbcmmecilheicaaGreatDoor
open Go Go.RowKit

/-- what is asked of the comparison -/
structure CmpP (rv : Value) (w0 : World) (g n : Nat) (el : Nat → ElP) (o : Nat → Nat) (cf : Nat → Nat → Int) : Prop where
 call : ∀ W, w0.grownBy W (some g) → ∀ r s, r < n → s < n → Calls Tryz.prog 59 (#[rv, .agg #[.slice (el r).a (el r).n (el r).c, .slice (el r).a' (el r).n' (el r).c', .slice (el r).a2 (el r).n2 (el r).c2], .agg #[.slice (el s).a (el s).n (el s).c, .slice (el s).a' (el s).n' (el s).c', .slice (el s).a2 (el s).n2 (el s).c2]]) W fun e w' => e = .returned (.int .i64 (cf r s)) ∧ Hid (Below W.heap.size W w')
 lt : ∀ r s, r < n → s < n → o s < o r → (cf r s < 0 ↔ r < s)

set_option maxRecDepth 100000 in
set_option maxHeartbeats 8000000 in
theorem insertion66 (rv : Value) (w0 : World) (g cap n : Nat) (el : Nat → ElP) (o : Nat → Nat) (cf : Nat → Nat → Int) (HC : CmpP rv w0 g n el o cf) (f : Nat → Nat) (hf : ∀ k, k < n → f k < n) (W : World) (hW : SW w0 g 147 3 cap n (encP el) f W) (a b : Nat) (h1 : a ≤ b) (h2 : b ≤ n) (hn : n ≤ 1000000)
  (ho : ∀ i j, a ≤ i → i < j → j < b → o (f i) < o (f j)) :
  Calls Tryz.prog 130 #[.slice (some ⟨g, 0, none⟩) n cap, .int .i64 a, .int .i64 b, .func (.func 59) #[rv] #[]] W fun e w' => e = .returned (.tuple #[]) ∧ Hid (∃ F, SW w0 g 147 3 cap n (encP el) F w' ∧ Re a b f F ∧ Sor F a b) := by
 have HC := Lib.hid HC
 have HF := Lib.hid hf
 have HO := Lib.hid ho
 have HW := Lib.hid hW
 have ha9 : (a : Int) < 1000001 := by omega
 have hb9 : (b : Int) < 1000001 := by omega
 clear hf ho hW
 go_enter Tryz.func130, Tryz.ntmps130
 go_wp2_with fail
 go_loopg [8] (b + 1 - a) (fun kx s8 wr => ∃ i : Nat, s8 = .int .i64 i ∧ a < i ∧ i ≤ b + 1 ∧ kx + i = b + 2 ∧ Hid (∃ F, SW w0 g 147 3 cap n (encP el) F wr ∧ Re a i f F ∧ Sor F a i ∧ (b < i → F = f)))
 case atStart => exact ⟨a + 1, by first | rfl | (simp; done), by omega, by omega, by omega, Lib.hid ⟨f, HW.out, Re.refl _ _ _, fun i j h1 h2 h3 => by omega, fun _ => rfl⟩⟩
 case round =>
  clear HW
  obtain ⟨i, rfl, hai, hib, hk, I⟩ := hrel
  obtain ⟨G, hG⟩ := I.out
  have IG := Lib.hid hG
  clear hG I
  have hi9 : (i : Int) < 1000002 := by omega
  by_cases c : i < b
  ·have cz : (i : Int) < (b : Int) := by omega
   obtain ⟨ko, hko⟩ : ∃ ko, ko = gk := ⟨_, rfl⟩
   go_wp2_with fail
   go_loopg [9] i (fun kx s9 wr => ∃ j : Nat, s9 = .int .i64 j ∧ a ≤ j ∧ j ≤ i ∧ kx = j ∧ Hid (SW w0 g 147 3 cap n (encP el) (moved G j i) wr ∧ ∀ k, j ≤ k → k < i → G i < G k))
   case atStart => exact ⟨i, rfl, by omega, Nat.le_refl _, rfl, Lib.hid ⟨by rw [moved_self]; exact IG.out.1, fun k h1 h2 => by omega⟩⟩
   case round =>
    obtain ⟨j, rfl, haj, hji, hkj, J⟩ := hrel
    have hj9 : (j : Int) < 1000001 := by omega
    by_cases c2 : a < j
    ·obtain ⟨q, rfl⟩ : ∃ q, j = q + 1 := ⟨j - 1, by omega⟩
     obtain ⟨x, hx⟩ : ∃ x, x = moved G (q + 1) i (q + 1) := ⟨_, rfl⟩
     obtain ⟨y, hy⟩ : ∃ y, y = moved G (q + 1) i q := ⟨_, rfl⟩
     have hxG : x = G i := by rw [hx, moved_at]
     have hyG : y = G q := by rw [hy, moved_left G (by omega)]
     have fx : x = f i := by rw [hxG]; exact IG.out.2.1.1 i (.inr (Nat.le_refl _))
     obtain ⟨l, l1, l2, fy⟩ : ∃ l, a ≤ l ∧ l < i ∧ y = f l := by rw [hyG]; exact IG.out.2.1.2 q (by omega) (by omega)
     have hxn : x < n := by rw [fx]; exact HF.out i (by omega)
     have hyn : y < n := by rw [fy]; exact HF.out l (by omega)
     have hoo : o y < o x := by rw [fx, fy]; exact HO.out l i l1 l2 c
     have hlt := HC.out.lt x y hxn hyn hoo
     have hS := J.out.1
     have k0 : ∀ p : BelowW wr, p.w.cell? ⟨g, (q + 1) * 3, none⟩ = some (.slice (el x).a (el x).n (el x).c) := fun p => by rw [hx]; exact (hS.below p.h).cell (i := q + 1) (c := 0) (by omega) (by omega)
     have k1 : ∀ p : BelowW wr, p.w.cell? ⟨g, (q + 1) * 3 + 1, none⟩ = some (.slice (el x).a' (el x).n' (el x).c') := fun p => by rw [hx]; exact (hS.below p.h).cell (i := q + 1) (c := 1) (by omega) (by omega)
     have k2 : ∀ p : BelowW wr, p.w.cell? ⟨g, (q + 1) * 3 + 2, none⟩ = some (.slice (el x).a2 (el x).n2 (el x).c2) := fun p => by rw [hx]; exact (hS.below p.h).cell (i := q + 1) (c := 2) (by omega) (by omega)
     have t0 : ∀ p : BelowW wr, p.w.cell? ⟨g, q * 3, none⟩ = some (.slice (el y).a (el y).n (el y).c) := fun p => by rw [hy]; exact (hS.below p.h).cell (i := q) (c := 0) (by omega) (by omega)
     have t1 : ∀ p : BelowW wr, p.w.cell? ⟨g, q * 3 + 1, none⟩ = some (.slice (el y).a' (el y).n' (el y).c') := fun p => by rw [hy]; exact (hS.below p.h).cell (i := q) (c := 1) (by omega) (by omega)
     have t2 : ∀ p : BelowW wr, p.w.cell? ⟨g, q * 3 + 2, none⟩ = some (.slice (el y).a2 (el y).n2 (el y).c2) := fun p => by rw [hy]; exact (hS.below p.h).cell (i := q) (c := 2) (by omega) (by omega)
     have CC : Hid (∀ p : BelowW wr, Calls Tryz.prog 59 #[rv, .agg #[.slice (el x).a (el x).n (el x).c, .slice (el x).a' (el x).n' (el x).c', .slice (el x).a2 (el x).n2 (el x).c2], .agg #[.slice (el y).a (el y).n (el y).c, .slice (el y).a' (el y).n' (el y).c', .slice (el y).a2 (el y).n2 (el y).c2]] p.w fun e w' => e = .returned (.int .i64 (cf x y)) ∧ Hid (Below p.w.heap.size p.w w')) := Lib.hid (fun p => HC.out.call p.w (hS.below p.h).grown x y hxn hyn)
     have z1 : (a : Int) < (q : Int) + 1 := by omega
     have z2 : (q : Int) + 1 < (n : Int) := by omega
     have z3 : (q : Int) < (n : Int) := by omega
     have z4 : (0 : Int) ≤ (q : Int) + 1 := by omega
     have z5 : ((q : Int) + 1).toNat = q + 1 := by omega
     have z6 : IntKind.i64.wrap (q : Int) = (q : Int) := by rw [IntKind.wrap_i64]; omega
     have JJ := Lib.hid J.out
     have XX := Lib.hid (And.intro hx (And.intro hy (And.intro hxG hyG)))
     have LL := Lib.hid (show x < y ∨ y < x by
      rcases Nat.lt_trichotomy x y with h | h | h
      ·exact .inl h
      ·subst h; omega
      ·exact .inr h)
     clear J hS hoo fx fy hx hy hxG hyG l1 l2
     rcases LL.out with hxy | hyx
     ·have hcf : cf x y < 0 := hlt.2 hxy
      have hcd : decide (cf x y < 0) = true := decide_eq_true hcf
      clear hlt
      go_wp2_with fail
      refine wp_region_quiet_below (by kernel_rfl) (by kernel_rfl) ?_
      repeat (quiet_step ((go_at_call 59; refine calls_below _ (CC.out _))))
      refine wpQuiet_nil ?_
      intro wq hw'
      have hq : Below wr.heap.size wr wq := by obtain ⟨p, rfl⟩ := hw'; exact p.h
      clear hw'
      have p0 := k0 ⟨wq, hq⟩
      have p1 := k1 ⟨wq, hq⟩
      have p2 := k2 ⟨wq, hq⟩
      have r0 := t0 ⟨wq, hq⟩
      have r1 := t1 ⟨wq, hq⟩
      have r2 := t2 ⟨wq, hq⟩
      have hS := JJ.out.1.below hq
      have hfz := hS.frozen
      have NX := Lib.hid (show SW w0 g 147 3 cap n (encP el) (moved G q i) ((wq.drew.setCells g ((q + 1) * 3) (encP el y)).setCells g (q * 3) (encP el x)) by
       have := hS.drew.exchange (i := q + 1) (j := q) (fun _ => rfl) (by omega) (by omega)
       rw [moved_step G (show q < i by omega), ← XX.out.1, ← XX.out.2.1] at this
       exact this)
      clear k0 k1 t0 t1 k2 t2 hS
      go_wp2_with fail
      go_region
      all_goals
       go_wp2_with fail
       go_roundg q
       case measure => omega
       case rel => exact ⟨q, by first | rfl | (simp; done), by omega, by omega, rfl, Lib.hid ⟨NX.out, fun k h1 h2 => by
        by_cases e : k = q
        ·subst e
         have := XX.out.2.2
         omega
        ·exact JJ.out.2 k (by omega) h2⟩⟩
     ·have hcd : decide (cf x y < 0) = false := decide_eq_false (fun h => by have := hlt.1 h; omega)
      clear hlt
      go_wp2_with fail
      refine wp_region_quiet_below (by kernel_rfl) (by kernel_rfl) ?_
      repeat (quiet_step ((go_at_call 59; refine calls_below _ (CC.out _))))
      refine wpQuiet_nil ?_
      intro wq hw'
      have hq : Below wr.heap.size wr wq := by obtain ⟨p, rfl⟩ := hw'; exact p.h
      clear hw'
      have NX := Lib.hid (show SW w0 g 147 3 cap n (encP el) (moved G (q + 1) i) wq ∧ Re a (i + 1) f (moved G (q + 1) i) ∧ Sor (moved G (q + 1) i) a (i + 1) from
       ⟨JJ.out.1.below hq, (IG.out.2.1.mono (Nat.le_refl _) (Nat.le_succ _)).trans (moved_re G haj hji (Nat.lt_succ_self _)), moved_sor IG.out.2.2.1 haj hji (fun k h1 h2 => by
        have e := XX.out.2.2
        rcases Nat.lt_or_ge k q with h | h
        ·have := IG.out.2.2.1 k q h1 h (by omega)
         omega
        ·have : k = q := by omega
         subst this
         omega) JJ.out.2⟩)
      clear k0 k1 t0 t1 k2 t2
      go_wp2_with fail
      go_roundg (ko - 1)
      case measure => omega
      case rel => exact ⟨i + 1, by first | rfl | (simp; done), by omega, by omega, by omega, Lib.hid ⟨_, NX.out.1, NX.out.2.1, NX.out.2.2, fun h => by omega⟩⟩
    ·have hjaz : decide ((j : Int) > (a : Int)) = false := decide_eq_false (by omega)
     have hjaz' : ¬ (a : Int) < (j : Int) := by omega
     have NX := Lib.hid (show ∀ W, Below wr.heap.size wr W → SW w0 g 147 3 cap n (encP el) (moved G j i) W ∧ Re a (i + 1) f (moved G j i) ∧ Sor (moved G j i) a (i + 1) from fun W hb =>
      ⟨J.out.1.below hb, (IG.out.2.1.mono (Nat.le_refl _) (Nat.le_succ _)).trans (moved_re G haj hji (Nat.lt_succ_self _)), moved_sor IG.out.2.2.1 haj hji (fun k h1 h2 => absurd h2 (by omega)) J.out.2⟩)
     clear J
     go_wp2_with fail
     go_region
     all_goals
      go_wp2_with fail
      go_roundg (ko - 1)
      case measure => omega
      case rel => exact ⟨i + 1, by first | rfl | (simp; done), by omega, by omega, by omega, Lib.hid ⟨_, (NX.out _ (below_drew wr)).1, (NX.out _ (below_drew wr)).2.1, (NX.out _ (below_drew wr)).2.2, fun h => by omega⟩⟩
  ·have cz : ¬ (i : Int) < (b : Int) := by omega
   go_wp2_with fail
   go_end0
   exact ⟨rfl, Lib.hid ⟨G, IG.out.1, by
    rcases Nat.lt_or_ge b i with h | h
    ·rw [IG.out.2.2.2 h]; exact Re.refl _ _ _
    ·exact IG.out.2.1.mono (Nat.le_refl _) h, fun p q h1 h2 h3 => IG.out.2.2.1 p q h1 h2 (by omega)⟩⟩

end Go.Proofs.YtbcmmecilheicaaGreatDoor
