/- slices.symMergeCmpFunc, at exec.part. -/
import Derived.Test.YtbcmmecilheicaaGreatDoorSrtCP
namespace Go.Proofs.YtbcmmecilheicaaGreatDoor
open Go Go.RowKit

/-- what the merge leaves -/
def MergePostP (w0 : World) (g cap n : Nat) (el : Nat → ElP) (f : Nat → Nat) (a b : Nat) (e : Ending) (w' : World) : Prop := e = .returned (.tuple #[]) ∧ Hid (∃ F, SW w0 g 147 3 cap n (encP el) F w' ∧ Re a b f F ∧ Sor F a b)

set_option maxRecDepth 100000 in
set_option maxHeartbeats 16000000 in
/-- one on the left -/
theorem sym67_left (rv : Value) (w0 : World) (g cap n : Nat) (el : Nat → ElP) (o : Nat → Nat) (cf : Nat → Nat → Int) (HC : CmpP rv w0 g n el o cf) (hn : n ≤ 1000000) (f : Nat → Nat) (hf : ∀ k, k < n → f k < n) (W : World) (hW : SW w0 g 147 3 cap n (encP el) f W) (a m b : Nat) (h1 : a < m) (h2 : m < b) (h3 : b ≤ n) (hs1 : Sor f a m) (hs2 : Sor f m b) (hbf : Bef o f a m b) (hma : m = a + 1) :
  Calls Tryz.prog 131 #[.slice (some ⟨g, 0, none⟩) n cap, .int .i64 a, .int .i64 m, .int .i64 b, .func (.func 59) #[rv] #[]] W (MergePostP w0 g cap n el f a b) := by
 unfold MergePostP
 have HC := Lib.hid HC
 have HF := Lib.hid hf
 have S1 := Lib.hid hs1
 have S2 := Lib.hid hs2
 have BF := Lib.hid hbf
 have HW := Lib.hid hW
 have ha9 : (a : Int) < 1000001 := by omega
 have hm9 : (m : Int) < 1000001 := by omega
 have hb9 : (b : Int) < 1000001 := by omega
 clear hf hW hs1 hs2 hbf
 have e1 : (m : Int) - (a : Int) = 1 := by omega
 have HM := Lib.hid hma
 clear hma
 go_enter Tryz.func131, Tryz.ntmps131
 go_wp2_with fail
 clear e1
 go_loopg [10, 11] n (fun kx s10 s11 wr => ∃ i j : Nat, s10 = .int .i64 i ∧ s11 = .int .i64 j ∧ m ≤ i ∧ i ≤ j ∧ j ≤ b ∧ j ≤ kx + i ∧ Hid (SW w0 g 147 3 cap n (encP el) f wr ∧ (∀ k, m ≤ k → k < i → f k < f a) ∧ ∀ k, j ≤ k → k < b → f a < f k))
 case atStart => exact ⟨m, b, rfl, rfl, Nat.le_refl _, by omega, Nat.le_refl _, by omega, Lib.hid ⟨HW.out, fun k h1 h2 => by omega, fun k h1 h2 => by omega⟩⟩
 case round =>
  clear HW
  obtain ⟨i, j, rfl, rfl, hmi, hij, hjb, hk, I⟩ := hrel
  have hi9 : (i : Int) < 1000001 := by omega
  have hj9 : (j : Int) < 1000001 := by omega
  by_cases c : i < j
  ·have cz : (i : Int) < (j : Int) := by omega
   obtain ⟨h, hh⟩ : ∃ h, h = (i + j) / 2 := ⟨_, rfl⟩
   have eh : ((i : Int) + (j : Int)) / 2 = (h : Int) := by omega
   have hhi : i ≤ h ∧ h < j := by omega
   have hh9 : (h : Int) < 1000001 := by omega
   have hhn : (h : Int) < (n : Int) := by omega
   have han : (a : Int) < (n : Int) := by omega
   clear hh
   have hS := I.out.1
   obtain ⟨x, hx⟩ : ∃ x, x = f h := ⟨_, rfl⟩
   obtain ⟨y, hy⟩ : ∃ y, y = f a := ⟨_, rfl⟩
   have hxn : x < n := by rw [hx]; exact HF.out h (by omega)
   have hyn : y < n := by rw [hy]; exact HF.out a (by omega)
   have hoo : o y < o x := by rw [hx, hy]; exact BF.out a h (Nat.le_refl _) h1 (by omega) (by omega)
   have k0 : ∀ p : BelowW wr, p.w.cell? ⟨g, h * 3, none⟩ = some (.slice (el x).a (el x).n (el x).c) := fun p => by rw [hx]; exact (hS.below p.h).cell (i := h) (c := 0) (by omega) (by omega)
   have k1 : ∀ p : BelowW wr, p.w.cell? ⟨g, h * 3 + 1, none⟩ = some (.slice (el x).a' (el x).n' (el x).c') := fun p => by rw [hx]; exact (hS.below p.h).cell (i := h) (c := 1) (by omega) (by omega)
   have k2 : ∀ p : BelowW wr, p.w.cell? ⟨g, h * 3 + 2, none⟩ = some (.slice (el x).a2 (el x).n2 (el x).c2) := fun p => by rw [hx]; exact (hS.below p.h).cell (i := h) (c := 2) (by omega) (by omega)
   have t0 : ∀ p : BelowW wr, p.w.cell? ⟨g, a * 3, none⟩ = some (.slice (el y).a (el y).n (el y).c) := fun p => by rw [hy]; exact (hS.below p.h).cell (i := a) (c := 0) (by omega) (by omega)
   have t1 : ∀ p : BelowW wr, p.w.cell? ⟨g, a * 3 + 1, none⟩ = some (.slice (el y).a' (el y).n' (el y).c') := fun p => by rw [hy]; exact (hS.below p.h).cell (i := a) (c := 1) (by omega) (by omega)
   have t2 : ∀ p : BelowW wr, p.w.cell? ⟨g, a * 3 + 2, none⟩ = some (.slice (el y).a2 (el y).n2 (el y).c2) := fun p => by rw [hy]; exact (hS.below p.h).cell (i := a) (c := 2) (by omega) (by omega)
   have CC : Hid (∀ p : BelowW wr, Calls Tryz.prog 59 #[rv, .agg #[.slice (el x).a (el x).n (el x).c, .slice (el x).a' (el x).n' (el x).c', .slice (el x).a2 (el x).n2 (el x).c2], .agg #[.slice (el y).a (el y).n (el y).c, .slice (el y).a' (el y).n' (el y).c', .slice (el y).a2 (el y).n2 (el y).c2]] p.w fun e w' => e = .returned (.int .i64 (cf x y)) ∧ Hid (Below p.w.heap.size p.w w')) := Lib.hid (fun p => HC.out.call p.w (hS.below p.h).grown x y hxn hyn)
   have hlt := HC.out.lt x y hxn hyn hoo
   have hne : x ≠ y := fun e => by rw [e] at hoo; omega
   have LL := Lib.hid (show x < y ∨ y < x by omega)
   have II := Lib.hid I.out
   have XX := Lib.hid (And.intro hx hy)
   clear I hS hoo hx hy hne
   rcases LL.out with hxy | hyx
   ·have hcf : cf x y < 0 := hlt.2 hxy
    have hcd : decide (cf x y < 0) = true := decide_eq_true hcf
    clear hlt
    go_wp2_with fail
    refine wp_region_quiet_below (by kernel_rfl) (by kernel_rfl) ?_
    repeat (quiet_step ((go_at_call 59; refine calls_below _ (CC.out _))))
    refine wpQuiet_nil ?_
    intro wq hw'
    have hq : Below wr.heap.size wr wq := by obtain ⟨p, rfl⟩ := hw'; exact p.h
    clear hw'
    have NX := Lib.hid (show SW w0 g 147 3 cap n (encP el) f wq ∧ (∀ k, m ≤ k → k < h + 1 → f k < f a) ∧ ∀ k, j ≤ k → k < b → f a < f k from
     ⟨II.out.1.below hq, fun k h5 h6 => by
      have e1 := XX.out.1
      have e2 := XX.out.2
      rcases Nat.lt_or_ge k h with h7 | h7
      ·have := S2.out k h h5 h7 (by omega)
       omega
      ·have : k = h := by omega
       subst this
       omega, II.out.2.2⟩)
    clear k0 k1 t0 t1 k2 t2
    go_wp2_with fail
    go_roundg (j - (h + 1))
    case measure => omega
    case rel => exact ⟨h + 1, j, by first | rfl | (simp; done), by first | rfl | (simp; done), by omega, by omega, hjb, by omega, NX⟩
   ·have hcd : decide (cf x y < 0) = false := decide_eq_false (fun h => by have := hlt.1 h; omega)
    clear hlt
    go_wp2_with fail
    refine wp_region_quiet_below (by kernel_rfl) (by kernel_rfl) ?_
    repeat (quiet_step ((go_at_call 59; refine calls_below _ (CC.out _))))
    refine wpQuiet_nil ?_
    intro wq hw'
    have hq : Below wr.heap.size wr wq := by obtain ⟨p, rfl⟩ := hw'; exact p.h
    clear hw'
    have NX := Lib.hid (show SW w0 g 147 3 cap n (encP el) f wq ∧ (∀ k, m ≤ k → k < i → f k < f a) ∧ ∀ k, h ≤ k → k < b → f a < f k from
     ⟨II.out.1.below hq, II.out.2.1, fun k h5 h6 => by
      have e1 := XX.out.1
      have e2 := XX.out.2
      rcases Nat.lt_or_ge h k with h7 | h7
      ·have := S2.out h k (by omega) h7 h6
       omega
      ·have : k = h := by omega
       subst this
       omega⟩)
    clear k0 k1 t0 t1 k2 t2
    go_wp2_with fail
    go_roundg (h - i)
    case measure => omega
    case rel => exact ⟨i, h, by first | rfl | (simp; done), by first | rfl | (simp; done), hmi, by omega, by omega, by omega, NX⟩
  ·obtain rfl : j = i := by omega
   rename World => wz
   have cz : ¬ (j : Int) < (j : Int) := by omega
   obtain ⟨q, hq⟩ : ∃ q, q = j - 1 := ⟨_, rfl⟩
   have eq : (j : Int) - 1 = (q : Int) := by omega
   have hq9 : (q : Int) < 1000001 := by omega
   have hqb : a ≤ q ∧ q < b := by have := HM.out; omega
   have HQ := Lib.hid hq
   clear hq
   go_wp2_with fail
   go_loopg [13] n (fun kx s13 wr => ∃ k : Nat, s13 = .int .i64 k ∧ a ≤ k ∧ k ≤ q ∧ q ≤ kx + k ∧ Hid (SW w0 g 147 3 cap n (encP el) (movedR f a k) wr))
   case atStart => exact ⟨a, rfl, Nat.le_refl _, hqb.1, by omega, Lib.hid (by rw [movedR_self]; exact I.out.1)⟩
   case round =>
    obtain ⟨k, rfl, hak, hkq, hk5, J⟩ := hrel
    have hk9 : (k : Int) < 1000001 := by omega
    by_cases c2 : k < q
    ·have cz2 : (k : Int) < (q : Int) := by omega
     have z1 : (k : Int) + 1 < (n : Int) := by omega
     have z2 : (k : Int) < (n : Int) := by omega
     have z4 : (0 : Int) ≤ (k : Int) + 1 := by omega
     have z5 : ((k : Int) + 1).toNat = k + 1 := by omega
     obtain ⟨x, hx⟩ : ∃ x, x = movedR f a k k := ⟨_, rfl⟩
     obtain ⟨y, hy⟩ : ∃ y, y = movedR f a k (k + 1) := ⟨_, rfl⟩
     have hS := J.out
     have p0 : wr.cell? ⟨g, k * 3, none⟩ = some (.slice (el x).a (el x).n (el x).c) := by rw [hx]; exact hS.cell (i := k) (c := 0) (by omega) (by omega)
     have p1 : wr.cell? ⟨g, k * 3 + 1, none⟩ = some (.slice (el x).a' (el x).n' (el x).c') := by rw [hx]; exact hS.cell (i := k) (c := 1) (by omega) (by omega)
     have p2 : wr.cell? ⟨g, k * 3 + 2, none⟩ = some (.slice (el x).a2 (el x).n2 (el x).c2) := by rw [hx]; exact hS.cell (i := k) (c := 2) (by omega) (by omega)
     have r0 : wr.cell? ⟨g, (k + 1) * 3, none⟩ = some (.slice (el y).a (el y).n (el y).c) := by rw [hy]; exact hS.cell (i := k + 1) (c := 0) (by omega) (by omega)
     have r1 : wr.cell? ⟨g, (k + 1) * 3 + 1, none⟩ = some (.slice (el y).a' (el y).n' (el y).c') := by rw [hy]; exact hS.cell (i := k + 1) (c := 1) (by omega) (by omega)
     have r2 : wr.cell? ⟨g, (k + 1) * 3 + 2, none⟩ = some (.slice (el y).a2 (el y).n2 (el y).c2) := by rw [hy]; exact hS.cell (i := k + 1) (c := 2) (by omega) (by omega)
     have hfz := hS.frozen
     have NX := Lib.hid (show SW w0 g 147 3 cap n (encP el) (movedR f a (k + 1)) ((wr.drew.setCells g (k * 3) (encP el y)).setCells g ((k + 1) * 3) (encP el x)) by
      have := hS.drew.exchange (i := k) (j := k + 1) (fun _ => rfl) (by omega) (by omega)
      rw [movedR_step f hak, ← hx, ← hy] at this
      exact this)
     clear hS hx hy J I
     go_wp2_with fail
     go_region
     all_goals
      go_wp2_with fail
      go_roundg (q - (k + 1))
      case measure => omega
      case rel => exact ⟨k + 1, by first | rfl | (simp; done), by omega, by omega, by omega, NX⟩
    ·obtain rfl : k = q := by omega
     have cz2 : ¬ (k : Int) < (k : Int) := by omega
     have NX := Lib.hid (show SW w0 g 147 3 cap n (encP el) (movedR f a k) wr ∧ Re a b f (movedR f a k) ∧ Sor (movedR f a k) a b from
      ⟨J.out, movedR_re f hak hqb.2, movedR_sor (by rw [← HM.out]; exact S2.out) hak hqb.2 (fun t h5 h6 => I.out.2.1 t (by have := HM.out; omega) (by have := HQ.out; omega)) (fun t h5 h6 => I.out.2.2 t (by have := HQ.out; have := HM.out; omega) h6)⟩)
     clear I J
     go_wp2_with fail
     refine bodyPost_ret (results_none rfl _ _ _) rfl ⟨rfl, Lib.hid ⟨_, NX.out⟩⟩

set_option maxRecDepth 100000 in
set_option maxHeartbeats 16000000 in
/-- one on the right -/
theorem sym67_right (rv : Value) (w0 : World) (g cap n : Nat) (el : Nat → ElP) (o : Nat → Nat) (cf : Nat → Nat → Int) (HC : CmpP rv w0 g n el o cf) (hn : n ≤ 1000000) (f : Nat → Nat) (hf : ∀ k, k < n → f k < n) (W : World) (hW : SW w0 g 147 3 cap n (encP el) f W) (a m b : Nat) (_h1 : a < m) (h2 : m < b) (h3 : b ≤ n) (hs1 : Sor f a m) (hs2 : Sor f m b) (hbf : Bef o f a m b) (hma : a + 1 < m) (hmb : b = m + 1) :
  Calls Tryz.prog 131 #[.slice (some ⟨g, 0, none⟩) n cap, .int .i64 a, .int .i64 m, .int .i64 b, .func (.func 59) #[rv] #[]] W (MergePostP w0 g cap n el f a b) := by
 unfold MergePostP
 have HC := Lib.hid HC
 have HF := Lib.hid hf
 have S1 := Lib.hid hs1
 have S2 := Lib.hid hs2
 have BF := Lib.hid hbf
 have HW := Lib.hid hW
 have ha9 : (a : Int) < 1000001 := by omega
 have hm9 : (m : Int) < 1000001 := by omega
 have hb9 : (b : Int) < 1000001 := by omega
 clear hf hW hs1 hs2 hbf
 obtain ⟨d, hd⟩ : ∃ d, d = m - a := ⟨_, rfl⟩
 have e1 : (m : Int) - (a : Int) = (d : Int) := by omega
 have e3 : ((d : Int) == 1) = false := by simp; omega
 have e4 : ¬ (d : Int) = 1 := by omega
 have e5 : decide ((d : Int) = 1) = false := by simp; omega
 have hd9 : (d : Int) < 1000001 := by omega
 have e2 : (b : Int) - (m : Int) = 1 := by omega
 have HM := Lib.hid hmb
 clear hmb hd
 go_enter Tryz.func131, Tryz.ntmps131
 go_wp2_with fail
 clear e1 e2 e3 e4 e5
 go_loopg [14, 15] n (fun kx s14 s15 wr => ∃ i j : Nat, s14 = .int .i64 i ∧ s15 = .int .i64 j ∧ a ≤ i ∧ i ≤ j ∧ j ≤ m ∧ j ≤ kx + i ∧ Hid (SW w0 g 147 3 cap n (encP el) f wr ∧ (∀ k, a ≤ k → k < i → f k < f m) ∧ ∀ k, j ≤ k → k < m → f m < f k))
 case atStart => exact ⟨a, m, rfl, rfl, Nat.le_refl _, by omega, Nat.le_refl _, by omega, Lib.hid ⟨HW.out, fun k h1 h2 => by omega, fun k h1 h2 => by omega⟩⟩
 case round =>
  clear HW
  obtain ⟨i, j, rfl, rfl, hmi, hij, hjb, hk, I⟩ := hrel
  have hi9 : (i : Int) < 1000001 := by omega
  have hj9 : (j : Int) < 1000001 := by omega
  by_cases c : i < j
  ·have cz : (i : Int) < (j : Int) := by omega
   obtain ⟨h, hh⟩ : ∃ h, h = (i + j) / 2 := ⟨_, rfl⟩
   have eh : ((i : Int) + (j : Int)) / 2 = (h : Int) := by omega
   have hhi : i ≤ h ∧ h < j := by omega
   have hh9 : (h : Int) < 1000001 := by omega
   have hhn : (h : Int) < (n : Int) := by omega
   have han : (m : Int) < (n : Int) := by omega
   clear hh
   have hS := I.out.1
   obtain ⟨x, hx⟩ : ∃ x, x = f m := ⟨_, rfl⟩
   obtain ⟨y, hy⟩ : ∃ y, y = f h := ⟨_, rfl⟩
   have hxn : x < n := by rw [hx]; exact HF.out m (by omega)
   have hyn : y < n := by rw [hy]; exact HF.out h (by omega)
   have hoo : o y < o x := by rw [hx, hy]; exact BF.out h m (by omega) (by omega) (Nat.le_refl _) h2
   have k0 : ∀ p : BelowW wr, p.w.cell? ⟨g, m * 3, none⟩ = some (.slice (el x).a (el x).n (el x).c) := fun p => by rw [hx]; exact (hS.below p.h).cell (i := m) (c := 0) (by omega) (by omega)
   have k1 : ∀ p : BelowW wr, p.w.cell? ⟨g, m * 3 + 1, none⟩ = some (.slice (el x).a' (el x).n' (el x).c') := fun p => by rw [hx]; exact (hS.below p.h).cell (i := m) (c := 1) (by omega) (by omega)
   have k2 : ∀ p : BelowW wr, p.w.cell? ⟨g, m * 3 + 2, none⟩ = some (.slice (el x).a2 (el x).n2 (el x).c2) := fun p => by rw [hx]; exact (hS.below p.h).cell (i := m) (c := 2) (by omega) (by omega)
   have t0 : ∀ p : BelowW wr, p.w.cell? ⟨g, h * 3, none⟩ = some (.slice (el y).a (el y).n (el y).c) := fun p => by rw [hy]; exact (hS.below p.h).cell (i := h) (c := 0) (by omega) (by omega)
   have t1 : ∀ p : BelowW wr, p.w.cell? ⟨g, h * 3 + 1, none⟩ = some (.slice (el y).a' (el y).n' (el y).c') := fun p => by rw [hy]; exact (hS.below p.h).cell (i := h) (c := 1) (by omega) (by omega)
   have t2 : ∀ p : BelowW wr, p.w.cell? ⟨g, h * 3 + 2, none⟩ = some (.slice (el y).a2 (el y).n2 (el y).c2) := fun p => by rw [hy]; exact (hS.below p.h).cell (i := h) (c := 2) (by omega) (by omega)
   have CC : Hid (∀ p : BelowW wr, Calls Tryz.prog 59 #[rv, .agg #[.slice (el x).a (el x).n (el x).c, .slice (el x).a' (el x).n' (el x).c', .slice (el x).a2 (el x).n2 (el x).c2], .agg #[.slice (el y).a (el y).n (el y).c, .slice (el y).a' (el y).n' (el y).c', .slice (el y).a2 (el y).n2 (el y).c2]] p.w fun e w' => e = .returned (.int .i64 (cf x y)) ∧ Hid (Below p.w.heap.size p.w w')) := Lib.hid (fun p => HC.out.call p.w (hS.below p.h).grown x y hxn hyn)
   have hlt := HC.out.lt x y hxn hyn hoo
   have hne : x ≠ y := fun e => by rw [e] at hoo; omega
   have LL := Lib.hid (show x < y ∨ y < x by omega)
   have II := Lib.hid I.out
   have XX := Lib.hid (And.intro hx hy)
   clear I hS hoo hx hy hne
   rcases LL.out with hxy | hyx
   ·have hcf : cf x y < 0 := hlt.2 hxy
    have hcd : decide (cf x y < 0) = true := decide_eq_true hcf
    clear hlt
    go_wp2_with fail
    refine wp_region_quiet_below (by kernel_rfl) (by kernel_rfl) ?_
    repeat (quiet_step ((go_at_call 59; refine calls_below _ (CC.out _))))
    refine wpQuiet_nil ?_
    intro wq hw'
    have hq : Below wr.heap.size wr wq := by obtain ⟨p, rfl⟩ := hw'; exact p.h
    clear hw'
    have NX := Lib.hid (show SW w0 g 147 3 cap n (encP el) f wq ∧ (∀ k, a ≤ k → k < i → f k < f m) ∧ ∀ k, h ≤ k → k < m → f m < f k from
     ⟨II.out.1.below hq, II.out.2.1, fun k h5 h6 => by
      have e1 := XX.out.1
      have e2 := XX.out.2
      rcases Nat.lt_or_ge h k with h7 | h7
      ·have := S1.out h k (by omega) h7 h6
       omega
      ·have : k = h := by omega
       subst this
       omega⟩)
    clear k0 k1 t0 t1 k2 t2
    go_wp2_with fail
    go_roundg (h - i)
    case measure => omega
    case rel => exact ⟨i, h, by first | rfl | (simp; done), by first | rfl | (simp; done), hmi, by omega, by omega, by omega, NX⟩
   ·have hcd : decide (cf x y < 0) = false := decide_eq_false (fun h => by have := hlt.1 h; omega)
    clear hlt
    go_wp2_with fail
    refine wp_region_quiet_below (by kernel_rfl) (by kernel_rfl) ?_
    repeat (quiet_step ((go_at_call 59; refine calls_below _ (CC.out _))))
    refine wpQuiet_nil ?_
    intro wq hw'
    have hq : Below wr.heap.size wr wq := by obtain ⟨p, rfl⟩ := hw'; exact p.h
    clear hw'
    have NX := Lib.hid (show SW w0 g 147 3 cap n (encP el) f wq ∧ (∀ k, a ≤ k → k < h + 1 → f k < f m) ∧ ∀ k, j ≤ k → k < m → f m < f k from
     ⟨II.out.1.below hq, fun k h5 h6 => by
      have e1 := XX.out.1
      have e2 := XX.out.2
      rcases Nat.lt_or_ge k h with h7 | h7
      ·have := S1.out k h h5 h7 (by omega)
       omega
      ·have : k = h := by omega
       subst this
       omega, II.out.2.2⟩)
    clear k0 k1 t0 t1 k2 t2
    go_wp2_with fail
    go_roundg (j - (h + 1))
    case measure => omega
    case rel => exact ⟨h + 1, j, by first | rfl | (simp; done), by first | rfl | (simp; done), by omega, by omega, hjb, by omega, NX⟩
  ·obtain rfl : j = i := by omega
   rename World => wz
   have cz : ¬ (j : Int) < (j : Int) := by omega
   go_wp2_with fail
   go_loopg [17] n (fun kx s17 wr => ∃ k : Nat, s17 = .int .i64 k ∧ j ≤ k ∧ k ≤ m ∧ k ≤ kx + j ∧ Hid (SW w0 g 147 3 cap n (encP el) (moved f k m) wr))
   case atStart => exact ⟨m, rfl, by omega, Nat.le_refl _, by omega, Lib.hid (by rw [moved_self]; exact I.out.1)⟩
   case round =>
    obtain ⟨k, rfl, hak, hkq, hk5, J⟩ := hrel
    have hk9 : (k : Int) < 1000001 := by omega
    by_cases c2 : j < k
    ·obtain ⟨q, rfl⟩ : ∃ q, k = q + 1 := ⟨k - 1, by omega⟩
     have cz2 : (j : Int) < (q : Int) + 1 := by omega
     have z1 : (q : Int) + 1 < (n : Int) := by omega
     have z2 : (q : Int) < (n : Int) := by omega
     have z4 : (0 : Int) ≤ (q : Int) + 1 := by omega
     have z5 : ((q : Int) + 1).toNat = q + 1 := by omega
     have z6 : IntKind.i64.wrap (q : Int) = (q : Int) := by rw [IntKind.wrap_i64]; omega
     obtain ⟨x, hx⟩ : ∃ x, x = moved f (q + 1) m (q + 1) := ⟨_, rfl⟩
     obtain ⟨y, hy⟩ : ∃ y, y = moved f (q + 1) m q := ⟨_, rfl⟩
     have hS := J.out
     have p0 : wr.cell? ⟨g, (q + 1) * 3, none⟩ = some (.slice (el x).a (el x).n (el x).c) := by rw [hx]; exact hS.cell (i := q + 1) (c := 0) (by omega) (by omega)
     have p1 : wr.cell? ⟨g, (q + 1) * 3 + 1, none⟩ = some (.slice (el x).a' (el x).n' (el x).c') := by rw [hx]; exact hS.cell (i := q + 1) (c := 1) (by omega) (by omega)
     have p2 : wr.cell? ⟨g, (q + 1) * 3 + 2, none⟩ = some (.slice (el x).a2 (el x).n2 (el x).c2) := by rw [hx]; exact hS.cell (i := q + 1) (c := 2) (by omega) (by omega)
     have r0 : wr.cell? ⟨g, q * 3, none⟩ = some (.slice (el y).a (el y).n (el y).c) := by rw [hy]; exact hS.cell (i := q) (c := 0) (by omega) (by omega)
     have r1 : wr.cell? ⟨g, q * 3 + 1, none⟩ = some (.slice (el y).a' (el y).n' (el y).c') := by rw [hy]; exact hS.cell (i := q) (c := 1) (by omega) (by omega)
     have r2 : wr.cell? ⟨g, q * 3 + 2, none⟩ = some (.slice (el y).a2 (el y).n2 (el y).c2) := by rw [hy]; exact hS.cell (i := q) (c := 2) (by omega) (by omega)
     have hfz := hS.frozen
     have NX := Lib.hid (show SW w0 g 147 3 cap n (encP el) (moved f q m) ((wr.drew.setCells g ((q + 1) * 3) (encP el y)).setCells g (q * 3) (encP el x)) by
      have := hS.drew.exchange (i := q + 1) (j := q) (fun _ => rfl) (by omega) (by omega)
      rw [moved_step f (show q < m by omega), ← hx, ← hy] at this
      exact this)
     clear hS hx hy J I
     go_wp2_with fail
     go_region
     all_goals
      go_wp2_with fail
      go_roundg (q - j)
      case measure => omega
      case rel => exact ⟨q, by first | rfl | (simp; done), by omega, by omega, by omega, NX⟩
    ·obtain rfl : k = j := by omega
     have cz2 : ¬ (k : Int) < (k : Int) := by omega
     have NX := Lib.hid (show SW w0 g 147 3 cap n (encP el) (moved f k m) wr ∧ Re a b f (moved f k m) ∧ Sor (moved f k m) a b from
      ⟨J.out, moved_re f hmi hkq h2, by rw [HM.out]; exact moved_sor S1.out hmi hkq I.out.2.1 I.out.2.2⟩)
     clear I J
     go_wp2_with fail
     refine bodyPost_ret (results_none rfl _ _ _) rfl ⟨rfl, Lib.hid ⟨_, NX.out⟩⟩

end Go.Proofs.YtbcmmecilheicaaGreatDoor
