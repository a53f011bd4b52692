/- slices.symMergeCmpFunc, at exec.part. slices.stableCmpFunc, SortStableFunc, at exec.part. -/
import Derived.Test.YtbcmmecilheicaaGreatDoorSrtDP

/- slices.symMergeCmpFunc, at exec.part. -/
namespace Go.Proofs.YtbcmmecilheicaaGreatDoor
open Go Go.RowKit

set_option maxRecDepth 100000 in
set_option maxHeartbeats 32000000 in
/-- several on both sides -/
theorem sym67_mid (rv : Value) (w0 : World) (g cap n : Nat) (el : Nat → ElP) (o : Nat → Nat) (cf : Nat → Nat → Int) (HC : CmpP rv w0 g n el o cf) (hn : n ≤ 1000000) (f : Nat → Nat) (hf : ∀ k, k < n → f k < n) (W : World) (hW : SW w0 g 147 3 cap n (encP el) f W) (a m b : Nat) (_h1 : a < m) (_h2 : m < b) (h3 : b ≤ n) (hs1 : Sor f a m) (hs2 : Sor f m b) (hbf : Bef o f a m b) (hma : a + 1 < m) (hmb : m + 1 < b)
  (ih : ∀ (f' : Nat → Nat) (W' : World) (a' m' b' : Nat), (∀ k, k < n → f' k < n) → SW w0 g 147 3 cap n (encP el) f' W' → a' < m' → m' < b' → b' ≤ n → b' - a' < b - a → Sor f' a' m' → Sor f' m' b' → Bef o f' a' m' b' → Calls Tryz.prog 131 #[.slice (some ⟨g, 0, none⟩) n cap, .int .i64 a', .int .i64 m', .int .i64 b', .func (.func 59) #[rv] #[]] W' (MergePostP w0 g cap n el f' a' b')) :
  Calls Tryz.prog 131 #[.slice (some ⟨g, 0, none⟩) n cap, .int .i64 a, .int .i64 m, .int .i64 b, .func (.func 59) #[rv] #[]] W (MergePostP w0 g cap n el f a b) := by
 have IH := Lib.hid ih
 clear ih
 unfold MergePostP
 have HC := Lib.hid HC
 have HF := Lib.hid hf
 have S1 := Lib.hid hs1
 have S2 := Lib.hid hs2
 have BF := Lib.hid hbf
 have HW := Lib.hid hW
 have ha9 : (a : Int) < 1000001 := by omega
 have hm9 : (m : Int) < 1000001 := by omega
 have hb9 : (b : Int) < 1000001 := by omega
 clear hf hW hs1 hs2 hbf
 obtain ⟨d, hd⟩ : ∃ d, d = m - a := ⟨_, rfl⟩
 obtain ⟨d', hd'⟩ : ∃ d', d' = b - m := ⟨_, rfl⟩
 have e1 : (m : Int) - (a : Int) = (d : Int) := by omega
 have e2 : (b : Int) - (m : Int) = (d' : Int) := by omega
 have e3 : ((d : Int) == 1) = false := by simp; omega
 have e4 : ¬ (d : Int) = 1 := by omega
 have e5 : decide ((d : Int) = 1) = false := by simp; omega
 have e6 : ((d' : Int) == 1) = false := by simp; omega
 have e7 : ¬ (d' : Int) = 1 := by omega
 have e8 : decide ((d' : Int) = 1) = false := by simp; omega
 have hd9 : (d : Int) < 1000001 := by omega
 have hd8 : (d' : Int) < 1000001 := by omega
 obtain ⟨mid, hmid⟩ : ∃ mid, mid = (a + b) / 2 := ⟨_, rfl⟩
 have emid : ((a : Int) + (b : Int)) / 2 = (mid : Int) := by omega
 have hmab : a < mid ∧ mid < b := by omega
 have hmd9 : (mid : Int) < 1000001 := by omega
 obtain ⟨nn, hnn⟩ : ∃ nn, mid + m = nn := ⟨_, rfl⟩
 have enn : (mid : Int) + (m : Int) = (nn : Int) := by omega
 have hnn9 : (nn : Int) < 2000001 := by omega
 have MID := Lib.hid (And.intro hmid hnn)
 clear hd hd' hmid
 go_enter Tryz.func131, Tryz.ntmps131
 go_upto_region 26 with fail
 clear e1 e2 e3 e4 e5 e6 e7 e8
 go_cut [20] from 21 to 22 (fun s20 wx => s20 = .int .i64 0 ∧ W = wx)
 case first =>
  go_wp2_with fail
  go_meet
  case rel => exact ⟨rfl, rfl⟩
 case rest =>
 obtain ⟨rfl, rfl⟩ := hcut
 go_step
 go_step
 go_cut [20, 21] from 138 to 146 (fun s20 s21 wx => ∃ s0 r0 : Nat, s20 = .int .i64 s0 ∧ s21 = .int .i64 r0 ∧ (a ≤ s0 ∧ s0 ≤ r0 ∧ r0 ≤ m ∧ m + r0 ≤ nn ∧ nn ≤ b + s0 ∧ (a < s0 → nn = b + s0) ∧ (r0 < m → nn = m + r0)) ∧ W = wx)
 case first =>
  have hmid := MID.out.1
  by_cases c : mid < m
  ·have cz : (mid : Int) < (m : Int) := by omega
   obtain ⟨s0, hs0⟩ : ∃ s0, s0 = nn - b := ⟨_, rfl⟩
   have es0 : (nn : Int) - (b : Int) = (s0 : Int) := by omega
   have hs09 : (s0 : Int) < 1000001 := by omega
   have FF := Lib.hid (show a ≤ s0 ∧ s0 ≤ mid ∧ mid ≤ m ∧ m + mid ≤ nn ∧ nn ≤ b + s0 ∧ (a < s0 → nn = b + s0) ∧ (mid < m → nn = m + mid) by omega)
   clear hmid hs0
   go_wp2_with fail
   go_meet
   case rel => exact ⟨s0, mid, rfl, rfl, FF.out, rfl⟩
  ·have cz : ¬ (mid : Int) < (m : Int) := by omega
   have FF := Lib.hid (show a ≤ a ∧ a ≤ m ∧ m ≤ m ∧ m + m ≤ nn ∧ nn ≤ b + a ∧ (a < a → nn = b + a) ∧ (m < m → nn = m + m) by omega)
   clear hmid
   go_wp2_with fail
   go_meet
   case rel => exact ⟨a, m, rfl, rfl, FF.out, rfl⟩
 case rest =>
  obtain ⟨s0, r0, rfl, rfl, hP, rfl⟩ := hcut
  obtain ⟨p, hp⟩ : ∃ p, p = nn - 1 := ⟨_, rfl⟩
  have ep : (nn : Int) - 1 = (p : Int) := by omega
  have hp9 : (p : Int) < 2000001 := by omega
  have hs09 : (s0 : Int) < 1000001 := by omega
  have hr09 : (r0 : Int) < 1000001 := by omega
  have HP := Lib.hid hp
  clear hp
  go_wp2_with fail
  clear ep
  go_loopg [20, 21] n (fun kx s20 s21 wr => ∃ s r : Nat, s20 = .int .i64 s ∧ s21 = .int .i64 r ∧ s0 ≤ s ∧ s ≤ r ∧ r ≤ r0 ∧ r ≤ kx + s ∧ Hid (SW w0 g 147 3 cap n (encP el) f wr ∧ (s0 < s → f (s - 1) < f (nn - s)) ∧ (r < r0 → f (nn - 1 - r) < f r)))
  case atStart => exact ⟨s0, r0, rfl, rfl, Nat.le_refl _, hP.2.1, Nat.le_refl _, by omega, Lib.hid ⟨HW.out, fun h => absurd h (Nat.lt_irrefl _), fun h => absurd h (Nat.lt_irrefl _)⟩⟩
  case round =>
   clear HW
   obtain ⟨s, r, rfl, rfl, hs0s, hsr, hrr, hk, I⟩ := hrel
   have hs9 : (s : Int) < 1000001 := by omega
   have hr9 : (r : Int) < 1000001 := by omega
   by_cases c : s < r
   ·have cz : (s : Int) < (r : Int) := by omega
    obtain ⟨h, hh⟩ : ∃ h, h = (s + r) / 2 := ⟨_, rfl⟩
    have eh : ((s : Int) + (r : Int)) / 2 = (h : Int) := by omega
    have hhi : s ≤ h ∧ h < r := by omega
    have hh9 : (h : Int) < 1000001 := by omega
    have hhn : (h : Int) < (n : Int) := by omega
    obtain ⟨v, hv⟩ : ∃ v, v = nn - 1 - h := ⟨_, rfl⟩
    have hvb : m ≤ v ∧ v < b ∧ h < m ∧ a ≤ h := by omega
    have ev : (p : Int) - (h : Int) = (v : Int) := by have := HP.out; omega
    have hv9 : (v : Int) < 1000001 := by omega
    have hvn : (v : Int) < (n : Int) := by omega
    have z6 : IntKind.i64.wrap (v : Int) = (v : Int) := by rw [IntKind.wrap_i64]; omega
    clear hh
    have hS := I.out.1
    obtain ⟨x, hx⟩ : ∃ x, x = f v := ⟨_, rfl⟩
    obtain ⟨y, hy⟩ : ∃ y, y = f h := ⟨_, rfl⟩
    have hxn : x < n := by rw [hx]; exact HF.out v (by omega)
    have hyn : y < n := by rw [hy]; exact HF.out h (by omega)
    have hoo : o y < o x := by rw [hx, hy]; exact BF.out h v hvb.2.2.2 hvb.2.2.1 hvb.1 hvb.2.1
    have k0 : ∀ p : BelowW wr, p.w.cell? ⟨g, v * 3, none⟩ = some (.slice (el x).a (el x).n (el x).c) := fun p => by rw [hx]; exact (hS.below p.h).cell (i := v) (c := 0) (by omega) (by omega)
    have k1 : ∀ p : BelowW wr, p.w.cell? ⟨g, v * 3 + 1, none⟩ = some (.slice (el x).a' (el x).n' (el x).c') := fun p => by rw [hx]; exact (hS.below p.h).cell (i := v) (c := 1) (by omega) (by omega)
    have k2 : ∀ p : BelowW wr, p.w.cell? ⟨g, v * 3 + 2, none⟩ = some (.slice (el x).a2 (el x).n2 (el x).c2) := fun p => by rw [hx]; exact (hS.below p.h).cell (i := v) (c := 2) (by omega) (by omega)
    have t0 : ∀ p : BelowW wr, p.w.cell? ⟨g, h * 3, none⟩ = some (.slice (el y).a (el y).n (el y).c) := fun p => by rw [hy]; exact (hS.below p.h).cell (i := h) (c := 0) (by omega) (by omega)
    have t1 : ∀ p : BelowW wr, p.w.cell? ⟨g, h * 3 + 1, none⟩ = some (.slice (el y).a' (el y).n' (el y).c') := fun p => by rw [hy]; exact (hS.below p.h).cell (i := h) (c := 1) (by omega) (by omega)
    have t2 : ∀ p : BelowW wr, p.w.cell? ⟨g, h * 3 + 2, none⟩ = some (.slice (el y).a2 (el y).n2 (el y).c2) := fun p => by rw [hy]; exact (hS.below p.h).cell (i := h) (c := 2) (by omega) (by omega)
    have CC : Hid (∀ p : BelowW wr, Calls Tryz.prog 59 #[rv, .agg #[.slice (el x).a (el x).n (el x).c, .slice (el x).a' (el x).n' (el x).c', .slice (el x).a2 (el x).n2 (el x).c2], .agg #[.slice (el y).a (el y).n (el y).c, .slice (el y).a' (el y).n' (el y).c', .slice (el y).a2 (el y).n2 (el y).c2]] p.w fun e w' => e = .returned (.int .i64 (cf x y)) ∧ Hid (Below p.w.heap.size p.w w')) := Lib.hid (fun p => HC.out.call p.w (hS.below p.h).grown x y hxn hyn)
    have hlt := HC.out.lt x y hxn hyn hoo
    have hne : x ≠ y := fun e => by rw [e] at hoo; omega
    have LL := Lib.hid (show x < y ∨ y < x by omega)
    have II := Lib.hid I.out
    have XX := Lib.hid (And.intro hx (And.intro hy hv))
    clear I hS hoo hx hy hne hv
    rcases LL.out with hxy | hyx
    ·have hcf : cf x y < 0 := hlt.2 hxy
     have hcd : decide (cf x y < 0) = true := decide_eq_true hcf
     have NX := Lib.hid (show f (nn - 1 - h) < f h by have e1 := XX.out.1; have e2 := XX.out.2.1; rw [← XX.out.2.2]; omega)
     clear hlt
     go_wp2_with fail
     refine wp_region_quiet_below (by kernel_rfl) (by kernel_rfl) ?_
     repeat (quiet_step ((go_at_call 59; refine calls_below _ (CC.out _))))
     refine wpQuiet_nil ?_
     intro wq hw'
     have hq : Below wr.heap.size wr wq := by obtain ⟨p, rfl⟩ := hw'; exact p.h
     clear hw'
     clear k0 k1 t0 t1 k2 t2
     go_wp2_with fail
     go_roundg (h - s)
     case measure => omega
     case rel => exact ⟨s, h, by first | rfl | (simp; done), by first | rfl | (simp; done), hs0s, by omega, by omega, by omega, Lib.hid ⟨II.out.1.below hq, II.out.2.1, fun _ => NX.out⟩⟩
    ·have hcd : decide (cf x y < 0) = false := decide_eq_false (fun h => by have := hlt.1 h; omega)
     have NX := Lib.hid (show f (h + 1 - 1) < f (nn - (h + 1)) by
      have e1 := XX.out.1
      have e2 := XX.out.2.1
      have e3 := XX.out.2.2
      rw [show h + 1 - 1 = h by omega, show nn - (h + 1) = v by omega]
      omega)
     clear hlt
     go_wp2_with fail
     refine wp_region_quiet_below (by kernel_rfl) (by kernel_rfl) ?_
     repeat (quiet_step ((go_at_call 59; refine calls_below _ (CC.out _))))
     refine wpQuiet_nil ?_
     intro wq hw'
     have hq : Below wr.heap.size wr wq := by obtain ⟨p, rfl⟩ := hw'; exact p.h
     clear hw'
     clear k0 k1 t0 t1 k2 t2
     go_wp2_with fail
     go_roundg (r - (h + 1))
     case measure => omega
     case rel => exact ⟨h + 1, r, by first | rfl | (simp; done), by first | rfl | (simp; done), by omega, by omega, hrr, by omega, Lib.hid ⟨II.out.1.below hq, fun _ => NX.out, II.out.2.2⟩⟩
   ·obtain rfl : r = s := by omega
    have cz : ¬ (r : Int) < (r : Int) := by omega
    obtain ⟨e, he⟩ : ∃ e, e = nn - r := ⟨_, rfl⟩
    have ee : (nn : Int) - (r : Int) = (e : Int) := by omega
    have he9 : (e : Int) < 1000001 := by omega
    have hre : a ≤ r ∧ r ≤ m ∧ m ≤ e ∧ e ≤ b ∧ r + (e - m) = mid := by omega
    have HH := Lib.hid (show Halves o (rot f r m e) a r mid e b ∧ Re a b f (rot f r m e) by
     have hh := halves (o := o) S1.out S2.out BF.out hre.1 hre.2.1 hre.2.2.1 hre.2.2.2.1 (fun h5 h6 => by
      rw [he]; exact I.out.2.1 (by omega)) (fun h5 h6 => by
      have := I.out.2.2 (by omega)
      rw [he, show nn - r - 1 = nn - 1 - r by omega]; exact this)
     rw [hre.2.2.2.2] at hh
     exact ⟨hh, (rot_re f hre.2.1 hre.2.2.1).mono hre.1 hre.2.2.2.1⟩)
    have hSW := Lib.hid I.out.1
    have HE := Lib.hid he
    clear I he
    go_upto_region 38 with fail
    go_cut [24] from 175 to 177 (fun s24 wx => s24 = .int .i64 e ∧ wr = wx)
    case first =>
     go_wp2_with fail
     go_meet
     case rel => exact ⟨rfl, rfl⟩
    case rest =>
    obtain ⟨rfl, rfl⟩ := hcut
    go_step
    go_step
    go_cut [24] from 178 to 191 (fun s24 wx => s24 = .int .i64 e ∧ Hid (SW w0 g 147 3 cap n (encP el) (rot f r m e) wx))
    case first =>
     by_cases c1 : r < m
     ·have z1 : (r : Int) < (m : Int) := by omega
      by_cases c2 : m < e
      ·have z2 : (m : Int) < (e : Int) := by omega
       have RC := Lib.hid (rotate83 w0 g cap n el f _ hSW.out r m e c1 c2 (by omega) hn (.func (.func 59) #[rv] #[]))
       go_wp2_with fail
       refine RC.out.mono ?_
       rintro ev w2 ⟨rfl, h5⟩
       go_wp2_with fail
       go_meet
       case rel => exact ⟨rfl, h5⟩
      ·have z2 : ¬ (m : Int) < (e : Int) := by omega
       have z3 : decide ((m : Int) < (e : Int)) = false := decide_eq_false z2
       have e5 : e = m := by omega
       have NX := Lib.hid (show SW w0 g 147 3 cap n (encP el) (rot f r m e) wr by rw [e5, rot_right]; exact hSW.out)
       clear e5
       go_wp2_with fail
       go_meet
       case rel => exact ⟨rfl, NX⟩
     ·have z1 : ¬ (r : Int) < (m : Int) := by omega
      have z3 : decide ((r : Int) < (m : Int)) = false := decide_eq_false z1
      have e5 : r = m := by omega
      have NX := Lib.hid (show SW w0 g 147 3 cap n (encP el) (rot f r m e) wr by rw [e5, rot_left]; exact hSW.out)
      clear e5
      go_wp2_with fail
      go_meet
      case rel => exact ⟨rfl, NX⟩
    case rest =>
     obtain ⟨rfl, hS1⟩ := hcut
     go_step
     go_step
     go_cut [24] from 192 to 205 (fun s24 wx => s24 = .int .i64 e ∧ Hid (∃ G, SW w0 g 147 3 cap n (encP el) G wx ∧ Re a mid (rot f r m e) G ∧ Sor G a mid))
     case first =>
      have hk : ∀ k, k < n → rot f r m e k < n := fun k hk => by
       by_cases c : a ≤ k ∧ k < b
       ·obtain ⟨l, h5, h6, e5⟩ := HH.out.2.2 k c.1 c.2
        rw [e5]; exact HF.out l (by omega)
       ·rw [HH.out.2.1 k (by omega)]; exact HF.out k hk
      by_cases c1 : a < r
      ·have z1 : (a : Int) < (r : Int) := by omega
       by_cases c2 : r < mid
       ·have z2 : (r : Int) < (mid : Int) := by omega
        have RC0 := IH.out (rot f r m e) wc a r mid hk hS1.out c1 c2 (by omega) (by omega) HH.out.1.l1 HH.out.1.l2 HH.out.1.b1
        unfold MergePostP at RC0
        have RC := Lib.hid RC0
        clear RC0 hk
        go_wp2_with fail
        refine RC.out.mono ?_
        rintro ev w2 ⟨rfl, h5⟩
        go_wp2_with fail
        go_meet
        case rel => exact ⟨rfl, h5⟩
       ·have z2 : ¬ (r : Int) < (mid : Int) := by omega
        have z3 : decide ((r : Int) < (mid : Int)) = false := decide_eq_false z2
        have e5 : r = mid := by omega
        have NX := Lib.hid (show ∃ G, SW w0 g 147 3 cap n (encP el) G wc ∧ Re a mid (rot f r m e) G ∧ Sor G a mid from ⟨_, hS1.out, Re.refl _ _ _, fun i j h5 h6 h7 => HH.out.1.l1 i j h5 h6 (by omega)⟩)
        clear e5 hk
        go_wp2_with fail
        go_meet
        case rel => exact ⟨rfl, NX⟩
      ·have z1 : ¬ (a : Int) < (r : Int) := by omega
       have z3 : decide ((a : Int) < (r : Int)) = false := decide_eq_false z1
       have NX := Lib.hid (show ∃ G, SW w0 g 147 3 cap n (encP el) G wc ∧ Re a mid (rot f r m e) G ∧ Sor G a mid from ⟨_, hS1.out, Re.refl _ _ _, fun i j h5 h6 h7 => HH.out.1.l2 i j (by omega) h6 h7⟩)
       clear hk
       go_wp2_with fail
       go_meet
       case rel => exact ⟨rfl, NX⟩
     case rest =>
      obtain ⟨rfl, hG⟩ := hcut
      obtain ⟨G, hG1, hG2, hG3⟩ := hG.out
      obtain ⟨j1, j2, j3, j4⟩ := HH.out.1.first (by omega) hG2
      have hRe : Re a b f G := HH.out.2.trans (hG2.mono (Nat.le_refl _) (by omega))
      have hk : ∀ k, k < n → G k < n := fun k hk => by
       by_cases c : a ≤ k ∧ k < b
       ·obtain ⟨l, h5, h6, e5⟩ := hRe.2 k c.1 c.2
        rw [e5]; exact HF.out l (by omega)
       ·rw [hRe.1 k (by omega)]; exact HF.out k hk
      have GG := Lib.hid (And.intro hG1 (And.intro hG3 (And.intro j1 (And.intro j2 (And.intro j4 hRe)))))
      by_cases c1 : mid < e
      ·have z1 : (mid : Int) < (e : Int) := by omega
       by_cases c2 : e < b
       ·have z2 : (e : Int) < (b : Int) := by omega
        have RC0 := IH.out G wc mid e b hk hG1 c1 c2 h3 (by omega) j1 j2 j3
        unfold MergePostP at RC0
        have RC := Lib.hid RC0
        clear RC0 hk hG1 hG2 hG3 j1 j2 j3 j4 hRe hG
        go_wp2_with fail
        refine RC.out.mono ?_
        rintro ev w2 ⟨rfl, h5⟩
        go_wp2_with fail
        go_end0
        obtain ⟨F, k1, k2, k3⟩ := h5.out
        obtain ⟨g1, g2, g3, g4, g5, g6⟩ := GG.out
        exact ⟨rfl, Lib.hid ⟨F, k1, g6.trans (k2.mono (by omega) (Nat.le_refl _)), sor_join (sor_keep k2 g2) k3 (lt_keep k2 g5)⟩⟩
       ·have z2 : ¬ (e : Int) < (b : Int) := by omega
        have z3 : decide ((e : Int) < (b : Int)) = false := decide_eq_false z2
        have NX := Lib.hid (show SW w0 g 147 3 cap n (encP el) G wc ∧ Re a b f G ∧ Sor G a b from ⟨hG1, hRe, sor_join hG3 (fun i j h5 h6 h7 => j1 i j h5 h6 (by omega)) j4⟩)
        clear hk hG1 hG2 hG3 j1 j2 j3 j4 hRe hG
        go_wp2_with fail
        go_end0
        exact ⟨rfl, Lib.hid ⟨G, NX.out⟩⟩
      ·have z1 : ¬ (mid : Int) < (e : Int) := by omega
       have z3 : decide ((mid : Int) < (e : Int)) = false := decide_eq_false z1
       have NX := Lib.hid (show SW w0 g 147 3 cap n (encP el) G wc ∧ Re a b f G ∧ Sor G a b from ⟨hG1, hRe, sor_join hG3 (fun i j h5 h6 h7 => j2 i j (by omega) h6 h7) j4⟩)
       clear hk hG1 hG2 hG3 j1 j2 j3 j4 hRe hG
       go_wp2_with fail
       go_end0
       exact ⟨rfl, Lib.hid ⟨G, NX.out⟩⟩

/-- slices.symMergeCmpFunc -/
theorem sym67 (N : Nat) : ∀ (rv : Value) (w0 : World) (g cap n : Nat) (el : Nat → ElP) (o : Nat → Nat) (cf : Nat → Nat → Int) (_HC : CmpP rv w0 g n el o cf) (_hn : n ≤ 1000000) (f : Nat → Nat) (_hf : ∀ k, k < n → f k < n) (W : World) (_hW : SW w0 g 147 3 cap n (encP el) f W) (a m b : Nat) (_h1 : a < m) (_h2 : m < b) (_h3 : b ≤ n) (_hs1 : Sor f a m) (_hs2 : Sor f m b) (_hbf : Bef o f a m b) (_ : b - a ≤ N),
  Calls Tryz.prog 131 #[.slice (some ⟨g, 0, none⟩) n cap, .int .i64 a, .int .i64 m, .int .i64 b, .func (.func 59) #[rv] #[]] W (MergePostP w0 g cap n el f a b) := by
 induction N with
 | zero => intro _ _ _ _ _ _ _ _ _ _ _ _ _ _ a m b h1 h2 h3 _ _ _ hN; omega
 | succ N ih =>
  intro rv w0 g cap n el o cf HC hn f hf W hW a m b h1 h2 h3 hs1 hs2 hbf hN
  by_cases c1 : m = a + 1
  ·exact sym67_left rv w0 g cap n el o cf HC hn f hf W hW a m b h1 h2 h3 hs1 hs2 hbf c1
  ·by_cases c2 : b = m + 1
   ·exact sym67_right rv w0 g cap n el o cf HC hn f hf W hW a m b h1 h2 h3 hs1 hs2 hbf (by omega) c2
   ·exact sym67_mid rv w0 g cap n el o cf HC hn f hf W hW a m b h1 h2 h3 hs1 hs2 hbf (by omega) (by omega) (fun f' W' a' m' b' k1 k2 k3 k4 k5 k6 k7 k8 k9 => ih rv w0 g cap n el o cf HC hn f' k1 W' k2 a' m' b' k3 k4 k5 k7 k8 k9 (by omega))

end Go.Proofs.YtbcmmecilheicaaGreatDoor

/- slices.stableCmpFunc, SortStableFunc, at exec.part. -/
namespace Go.Proofs.YtbcmmecilheicaaGreatDoor
open Go Go.RowKit

theorem re_ltP {a b n : Nat} {F G : Nat → Nat} (hb : b ≤ n) (hF : ∀ k, k < n → F k < n) (hr : Re a b F G) : ∀ k, k < n → G k < n := fun k hk => by
 by_cases c : a ≤ k ∧ k < b
 ·obtain ⟨l, h5, h6, e5⟩ := hr.2 k c.1 c.2
  rw [e5]; exact hF l (by omega)
 ·rw [hr.1 k (by omega)]; exact hF k hk

set_option maxRecDepth 100000 in
set_option maxHeartbeats 32000000 in
/-- slices.stableCmpFunc: behind it each rank lies in its own place -/
theorem stable46 (rv : Value) (w0 : World) (g cap n : Nat) (el : Nat → ElP) (o : Nat → Nat) (cf : Nat → Nat → Int) (HC : CmpP rv w0 g n el o cf) (hn : n ≤ 1000000) (f : Nat → Nat) (hf : ∀ k, k < n → f k < n) (W : World) (hW : SW w0 g 147 3 cap n (encP el) f W) (ho : ∀ k, k < n → o (f k) = k) :
  Calls Tryz.prog 94 #[.slice (some ⟨g, 0, none⟩) n cap, .int .i64 n, .func (.func 59) #[rv] #[]] W fun e w' => e = .returned (.tuple #[]) ∧ Hid (∃ F, SW w0 g 147 3 cap n (encP el) F w' ∧ ∀ k, k < n → F k = k) := by
 have HC := Lib.hid HC
 have HO := Lib.hid ho
 have HW := Lib.hid (And.intro hW (And.intro (First.zero (f0 := f) (bs := 20) ho) hf))
 have hn9 : (n : Int) < 1000001 := by omega
 clear hf hW ho
 go_enter Tryz.func94, Tryz.ntmps94
 go_wp2_with fail
 go_loopg [7, 8] n (fun kx s7 s8 wr => ∃ A B : Nat, s7 = .int .i64 A ∧ s8 = .int .i64 B ∧ B = A + 20 ∧ A ≤ n ∧ n ≤ kx + A ∧ Hid (∃ t F, A = t * 20 ∧ SW w0 g 147 3 cap n (encP el) F wr ∧ First o f F n 20 A ∧ ∀ k, k < n → F k < n))
 case atStart => exact ⟨0, 20, rfl, rfl, rfl, Nat.zero_le _, by omega, Lib.hid ⟨0, f, rfl, HW.out⟩⟩
 case round =>
  clear HW
  obtain ⟨A, B, rfl, rfl, hB, hA, hk, I⟩ := hrel
  obtain ⟨t, F, i1, i2, i3, i4⟩ := I.out
  clear I
  have hA9 : (A : Int) < 1000001 := by omega
  have hB9 : (B : Int) < 1000021 := by omega
  have hoo : ∀ b, b ≤ n → ∀ i j, A ≤ i → i < j → j < b → o (F i) < o (F j) := fun b hb i j h1 h2 h3 => by
   rw [i3.rest i h1, i3.rest j (by omega), HO.out i (by omega), HO.out j (by omega)]; exact h2
  by_cases c : B ≤ n
  ·have cz : (B : Int) ≤ (n : Int) := by omega
   have RC := Lib.hid (insertion66 rv w0 g cap n el o cf HC.out F i4 _ i2 A B (by omega) c hn (hoo B c))
   have III := Lib.hid (And.intro i1 (And.intro i3 (And.intro i4 hB)))
   clear i1 i2 i3 i4 hoo hB
   go_wp2_with fail
   refine RC.out.mono ?_
   rintro ev w2 ⟨rfl, h5⟩
   have NX := Lib.hid (show ∃ t F, B = t * 20 ∧ SW w0 g 147 3 cap n (encP el) F w2 ∧ First o f F n 20 B ∧ ∀ k, k < n → F k < n by
    obtain ⟨G, k1, k2, k3⟩ := h5.out
    obtain ⟨i1, i3, i4, hB⟩ := III.out
    rw [hB, i1] at k2 k3
    rw [i1] at i3
    have := i3.step (by omega) (.inl ⟨rfl, by omega⟩) k2 k3
    exact ⟨t + 1, G, by rw [hB, i1]; omega, k1, by rw [hB, i1]; exact this, re_ltP (by omega) i4 k2⟩)
   have HBB := Lib.hid III.out.2.2.2
   clear h5 III
   go_wp2_with fail
   go_roundg (n - B)
   case measure => have := HBB.out; omega
   case rel => exact ⟨B, B + 20, by first | rfl | (simp; done), by first | rfl | (simp; done), rfl, c, by omega, NX⟩
  ·have cz : (n : Int) < (B : Int) := by omega
   have czd : decide ((B : Int) ≤ (n : Int)) = false := decide_eq_false (by omega)
   have RC := Lib.hid (insertion66 rv w0 g cap n el o cf HC.out F i4 _ i2 A n hA (Nat.le_refl _) hn (hoo n (Nat.le_refl _)))
   have III := Lib.hid (And.intro i1 (And.intro i3 (And.intro i4 hB)))
   clear i1 i2 i3 i4 hoo hB
   go_wp2_with fail
   refine RC.out.mono ?_
   rintro ev w2 ⟨rfl, h5⟩
   have NX := Lib.hid (show ∃ F, SW w0 g 147 3 cap n (encP el) F w2 ∧ Runs o F n 20 ∧ ∀ k, k < n → F k < n by
    obtain ⟨G, k1, k2, k3⟩ := h5.out
    obtain ⟨i1, i3, i4, hB⟩ := III.out
    rw [i1] at k2 k3 i3
    have := i3.step (by omega) (.inr ⟨rfl, by omega⟩) k2 k3
    exact ⟨G, k1, this.runs (by omega), re_ltP (Nat.le_refl _) i4 k2⟩)
   clear h5 III hA hk hA9 hB9 c cz czd RC
   go_wp2_with fail
   go_loopg [6] n (fun kx s6 wr => ∃ bs : Nat, s6 = .int .i64 bs ∧ 0 < bs ∧ bs ≤ 2000020 ∧ n ≤ kx + bs ∧ Hid (∃ F, SW w0 g 147 3 cap n (encP el) F wr ∧ Runs o F n bs ∧ ∀ k, k < n → F k < n))
   case atStart => exact ⟨20, rfl, by omega, by omega, by omega, NX⟩
   case round =>
    clear NX
    obtain ⟨bs, rfl, hb0, hb9, hk, I⟩ := hrel
    have hb8 : (bs : Int) < 2000021 := by omega
    by_cases c : bs < n
    ·have cz : (bs : Int) < (n : Int) := by omega
     obtain ⟨bb, hbb⟩ : ∃ bb, 2 * bs = bb := ⟨_, rfl⟩
     have e1 : (2 : Int) * (bs : Int) = (bb : Int) := by omega
     have e2 : (bs : Int) * 2 = (bb : Int) := by omega
     have hbb9 : (bb : Int) < 2000001 := by omega
     obtain ⟨ko, hko⟩ : ∃ ko, ko = gk := ⟨_, rfl⟩
     go_wp2_with fail
     go_loopg [7, 8] n (fun kx s7 s8 wr => ∃ A B : Nat, s7 = .int .i64 A ∧ s8 = .int .i64 B ∧ B = A + bb ∧ A ≤ n ∧ n ≤ kx + A ∧ Hid (∃ t F, A = t * (2 * bs) ∧ SW w0 g 147 3 cap n (encP el) F wr ∧ RunsM o F n bs t ∧ ∀ k, k < n → F k < n))
     case atStart => exact ⟨0, bb, rfl, rfl, by omega, Nat.zero_le _, by omega, Lib.hid (by obtain ⟨F, i1, i2, i3⟩ := I.out; exact ⟨0, F, by omega, i1, i2.begin, i3⟩)⟩
     case round =>
      clear I
      obtain ⟨A, B, rfl, rfl, hB, hA, hk2, I⟩ := hrel
      obtain ⟨t, F, i1, i2, i3, i4⟩ := I.out
      clear I
      have hA9 : (A : Int) < 1000001 := by omega
      have hB9 : (B : Int) < 3000001 := by omega
      obtain ⟨M, hM⟩ : ∃ M, A + bs = M := ⟨_, rfl⟩
      have eM : (A : Int) + (bs : Int) = (M : Int) := by omega
      have hM9 : (M : Int) < 2000001 := by omega
      by_cases c2 : B ≤ n
      ·have cz2 : (B : Int) ≤ (n : Int) := by omega
       have hpre := i3.pre (b := B) hb0 (by rw [← i1]; omega) (by rw [← i1]; omega) c2
       rw [← i1, hM] at hpre
       have RC0 := sym67 (B - A) rv w0 g cap n el o cf HC.out hn F i4 _ i2 A M B (by omega) (by omega) c2 hpre.1 hpre.2.1 hpre.2.2 (Nat.le_refl _)
       unfold MergePostP at RC0
       have RC := Lib.hid RC0
       have III := Lib.hid (And.intro i1 (And.intro i3 (And.intro i4 (And.intro hB hbb))))
       obtain ⟨B2, hB2⟩ : ∃ B2, B + bb = B2 := ⟨_, rfl⟩
       have e5 : (B : Int) + (bb : Int) = (B2 : Int) := by omega
       have hB29 : (B2 : Int) < 5000001 := by omega
       have HB2 := Lib.hid hB2.symm
       have hms := Lib.hid (show n - B < gk by omega)
       clear i1 i2 i3 i4 hpre RC0 hB hM hbb hB2
       go_wp2_with fail
       refine RC.out.mono ?_
       rintro ev w3 ⟨rfl, h5⟩
       have NX := Lib.hid (show ∃ t F, B = t * (2 * bs) ∧ SW w0 g 147 3 cap n (encP el) F w3 ∧ RunsM o F n bs t ∧ ∀ k, k < n → F k < n by
        obtain ⟨G, k1, k2, k3⟩ := h5.out
        obtain ⟨i1, i3, i4, hB, hbb⟩ := III.out
        have e6 : B = (t + 1) * (2 * bs) := by rw [Nat.add_mul, Nat.one_mul, ← i1, hbb]; exact hB
        have e7 : B = t * (2 * bs) + 2 * bs := by rw [← i1, hbb]; exact hB
        have k4 := k2
        rw [i1] at k2 k3
        exact ⟨t + 1, G, e6, k1, i3.step hb0 (.inl ⟨e7, c2⟩) k2 k3, re_ltP c2 i4 k4⟩)
       clear h5 III
       go_wp2_with fail
       go_roundg (n - B)
       case measure => exact hms.out
       case rel => exact ⟨B, B2, by first | rfl | (simp; done), by first | rfl | (simp; done), HB2.out, c2, by omega, NX⟩
      ·have cz2 : (n : Int) < (B : Int) := by omega
       have czd : decide ((B : Int) ≤ (n : Int)) = false := decide_eq_false (by omega)
       have hms := Lib.hid (show n - bb < ko by omega)
       by_cases c3 : M < n
       ·have cz3 : (M : Int) < (n : Int) := by omega
        have hpre := i3.pre (b := n) hb0 (by rw [← i1]; omega) (by rw [← i1]; omega) (Nat.le_refl _)
        rw [← i1, hM] at hpre
        have RC0 := sym67 (n - A) rv w0 g cap n el o cf HC.out hn F i4 _ i2 A M n (by omega) c3 (Nat.le_refl _) hpre.1 hpre.2.1 hpre.2.2 (Nat.le_refl _)
        unfold MergePostP at RC0
        have RC := Lib.hid RC0
        have III := Lib.hid (And.intro i1 (And.intro i3 (And.intro i4 (And.intro hB (And.intro hbb c2)))))
        clear i1 i2 i3 i4 hpre RC0 hB hM hbb
        go_wp2_with fail
        refine RC.out.mono ?_
        rintro ev w3 ⟨rfl, h5⟩
        have NX := Lib.hid (show ∃ F, SW w0 g 147 3 cap n (encP el) F w3 ∧ Runs o F n bb ∧ ∀ k, k < n → F k < n by
         obtain ⟨G, k1, k2, k3⟩ := h5.out
         obtain ⟨i1, i3, i4, hB, hbb, c2⟩ := III.out
         have k4 := k2
         rw [i1] at k2 k3
         have e8 : n < t * (2 * bs) + 2 * bs := by rw [← i1, hbb]; omega
         have := i3.step hb0 (.inr ⟨rfl, e8⟩) k2 k3
         exact ⟨G, k1, hbb ▸ this.all hb0 (by rw [Nat.add_mul, Nat.one_mul]; omega), re_ltP (Nat.le_refl _) i4 k4⟩)
        have hb := Lib.hid (show 0 < bb ∧ bb ≤ 2000020 by have := III.out.2.2.2.2.1; omega)
        clear h5 III
        go_wp2_with fail
        go_roundg (n - bb)
        case measure => have := hms.out; omega
        case rel => exact ⟨bb, by first | rfl | (simp; done), hb.out.1, hb.out.2, by omega, NX⟩
       ·have cz3 : ¬ (M : Int) < (n : Int) := by omega
        have NX := Lib.hid (show ∃ F, SW w0 g 147 3 cap n (encP el) F wr ∧ Runs o F n bb ∧ ∀ k, k < n → F k < n from
         ⟨F, i2, hbb ▸ i3.end_ hb0 (by rw [← i1]; omega), i4⟩)
        have hb := Lib.hid (show 0 < bb ∧ bb ≤ 2000020 by omega)
        clear i1 i2 i3 i4 hB hM hbb
        go_wp2_with fail
        go_roundg (n - bb)
        case measure => have := hms.out; omega
        case rel => exact ⟨bb, by first | rfl | (simp; done), hb.out.1, hb.out.2, by omega, NX⟩
    ·have cz : ¬ (bs : Int) < (n : Int) := by omega
     have NX := Lib.hid (show ∃ F, SW w0 g 147 3 cap n (encP el) F wr ∧ ∀ k, k < n → F k = k by
      obtain ⟨F, i1, i2, i3⟩ := I.out
      exact ⟨F, i1, sor_id (i2.whole (by omega)) i3⟩)
     clear I
     go_wp2_with fail
     go_end0
     exact ⟨rfl, NX⟩

set_option maxRecDepth 100000 in
set_option maxHeartbeats 4000000 in
/-- slices.SortStableFunc -/
theorem sortStable31 (rv : Value) (w0 : World) (g cap n : Nat) (el : Nat → ElP) (o : Nat → Nat) (cf : Nat → Nat → Int) (HC : CmpP rv w0 g n el o cf) (hn : n ≤ 1000000) (f : Nat → Nat) (hf : ∀ k, k < n → f k < n) (W : World) (hW : SW w0 g 147 3 cap n (encP el) f W) (ho : ∀ k, k < n → o (f k) = k) :
  Calls Tryz.prog 58 #[.slice (some ⟨g, 0, none⟩) n cap, .func (.func 59) #[rv] #[]] W fun e w' => e = .returned (.tuple #[]) ∧ Hid (∃ F, SW w0 g 147 3 cap n (encP el) F w' ∧ ∀ k, k < n → F k = k) := by
 have RC := Lib.hid (stable46 rv w0 g cap n el o cf HC hn f hf W hW ho)
 clear hf hW ho
 go_enter Tryz.func58, Tryz.ntmps58
 go_wp2_with fail
 refine RC.out.mono ?_
 rintro ev w2 ⟨rfl, h5⟩
 go_wp2_with fail
 go_end0
 exact ⟨rfl, h5⟩

set_option maxRecDepth 100000 in
set_option maxHeartbeats 4000000 in
/-- of none -/
theorem sortStable31_nil (rv : Value) (W : World) : Calls Tryz.prog 58 #[.slice none 0 0, .func (.func 59) #[rv] #[]] W fun e w' => e = .returned (.tuple #[]) ∧ W = w' := by
 have h1 : Calls Tryz.prog 130 #[.slice none 0 0, .int .i64 0, .int .i64 0, .func (.func 59) #[rv] #[]] W fun e w' => e = .returned (.tuple #[]) ∧ W = w' := by
  go_enter Tryz.func130, Tryz.ntmps130
  go_wp2_with fail
  refine wp_loop_rounds 1 ?_
  rw [rounds_succ]
  go_wp2_with fail
  go_end0
  exact ⟨rfl, rfl⟩
 have H1 := Lib.hid h1
 clear h1
 have h2 : Calls Tryz.prog 94 #[.slice none 0 0, .int .i64 0, .func (.func 59) #[rv] #[]] W fun e w' => e = .returned (.tuple #[]) ∧ W = w' := by
  go_enter Tryz.func94, Tryz.ntmps94
  go_wp2_with fail
  refine wp_loop_rounds 1 ?_
  rw [rounds_succ]
  go_wp2_with fail
  refine H1.out.mono ?_
  rintro ev w2 ⟨rfl, rfl⟩
  go_wp2_with fail
  refine wp_loop_rounds 1 ?_
  rw [rounds_succ]
  go_wp2_with fail
  go_end0
  exact ⟨rfl, rfl⟩
 have H2 := Lib.hid h2
 clear h2
 go_enter Tryz.func58, Tryz.ntmps58
 go_wp2_with fail
 refine H2.out.mono ?_
 rintro ev w2 ⟨rfl, rfl⟩
 go_wp2_with fail
 go_end0
 exact ⟨rfl, rfl⟩

end Go.Proofs.YtbcmmecilheicaaGreatDoor
