/- barbicanref05.Compare, barbicanref06.Compare, barbicanref23.cells: the document's own. -/
import Derived.Test.YtbcmmecilheicaaOrdA
import Derived.Test.YtbcmmecilheicaaCells
namespace Go.Proofs.Ytbcmmecilheicaa
open Go Go.RowKit

theorem cmpS_less {x y : ByteArray} : Op.bytesLess x.toList y.toList = decide (cmpS x y < 0) := by
  unfold cmpS
  by_cases h1 : Op.bytesLess x.toList y.toList = true
  · rw [if_pos h1]; simp [h1]
  · rw [if_neg h1]
    by_cases h2 : (x.toList == y.toList) = true
    · rw [if_pos h2]; simpa using h1
    · rw [if_neg h2]; simpa using h1
theorem cmpI_less {x y : Int} : decide (x < y) = decide (cmpI x y < 0) := by
  have := cmpI_le (x := y) (y := x)
  rw [cmpI_flip x y] at this
  rw [Bool.eq_iff_iff, decide_eq_true_eq, decide_eq_true_eq]
  omega
theorem cmp3 (a b : Val) : compareP a b = -1 ∨ compareP a b = 0 ∨ compareP a b = 1 := by
  unfold compareP cmpI cmpS
  repeat' split
  all_goals simp

theorem cmpS_same {x y : ByteArray} : (x.toList == y.toList) = decide (cmpS x y = 0) := by
  unfold cmpS
  by_cases h1 : Op.bytesLess x.toList y.toList = true
  · rw [if_pos h1]
    have h3 : ¬ x.toList = y.toList := fun e => by rw [e, bl_irrefl] at h1; cases h1
    simp [h3]
  · rw [if_neg h1]
    by_cases h2 : (x.toList == y.toList) = true
    · rw [if_pos h2]; simpa using h2
    · rw [if_neg h2]; simpa using h2

set_option maxRecDepth 100000 in
set_option maxHeartbeats 16000000 in
theorem refCompare16 (w : World) (a b : Val) :
    Calls Try.prog 16 #[.agg #[.int .i64 a.kind, .int .i64 a.int, .string a.text, .bool a.bool], .agg #[.int .i64 b.kind, .int .i64 b.int, .string b.text, .bool b.bool]] w fun e w' => e = .returned (.int .i64 (compareP a b)) ∧ Hid (Below w.heap.size w w') := by
  obtain ⟨ka, ia, ta, ba⟩ := a
  obtain ⟨kb, ib, tb, bb⟩ := b
  have HB := Lib.hid (fun q => show Below w.heap.size w (((w.alloc (.cells #[.int .i64 ka, .int .i64 ia, .string ta, .bool ba] 23)).alloc (.cells #[.int .i64 kb, .int .i64 ib, .string tb, .bool bb] 23)).drewN q) from bt (below_drewN _ q) (bt (below_alloc _ _) (below_alloc _ _)))
  have HB0 := Lib.hid (show Below w.heap.size w ((w.alloc (.cells #[.int .i64 ka, .int .i64 ia, .string ta, .bool ba] 23)).alloc (.cells #[.int .i64 kb, .int .i64 ib, .string tb, .bool bb] 23)) from bt (below_alloc _ _) (below_alloc _ _))
  simp only
  by_cases k0 : ka = kb
  · subst k0
    by_cases k1 : ka = 1
    · subst k1
      rcases Int.lt_trichotomy ia ib with h | h | h
      · rw [show compareP ⟨1, ia, ta, ba⟩ ⟨1, ib, tb, bb⟩ = -1 by simp [compareP, cmpI, h]]
        have h2 : ¬ ib < ia := by omega
        go_enter Try.func16, Try.ntmps16
        go_wp2_with fail
        go_quiet (fail)
        go_wp2_with fail
        go_ret
        exact ⟨rfl, Lib.hid (HB.out _)⟩
      · subst h
        rw [show compareP ⟨1, ia, ta, ba⟩ ⟨1, ia, tb, bb⟩ = 0 by simp [compareP, cmpI]]
        go_enter Try.func16, Try.ntmps16
        go_wp2_with fail
        go_quiet (fail)
        go_wp2_with fail
        go_ret
        exact ⟨rfl, Lib.hid (HB.out _)⟩
      · have h2 : ¬ ia < ib := by omega
        rw [show compareP ⟨1, ia, ta, ba⟩ ⟨1, ib, tb, bb⟩ = 1 by simp [compareP, cmpI, h, h2]]
        go_enter Try.func16, Try.ntmps16
        go_wp2_with fail
        go_quiet (fail)
        go_wp2_with fail
        go_ret
        exact ⟨rfl, Lib.hid (HB.out _)⟩
    · have c1 : (ka == 1) = false := by simpa using k1
      by_cases k2 : ka = 2
      · subst k2
        have hs1 := cmpS_less (x := ta) (y := tb)
        have hs2 := cmpS_less (x := tb) (y := ta)
        rw [cmpS_flip ta tb] at hs2
        have hs3 := cmpS_same (x := ta) (y := tb)
        have hr : compareP ⟨2, ia, ta, ba⟩ ⟨2, ib, tb, bb⟩ = cmpS ta tb := by simp [compareP]
        have h3 : cmpS ta tb = -1 ∨ cmpS ta tb = 0 ∨ cmpS ta tb = 1 := by rw [← hr]; exact cmp3 _ _
        rw [hr]
        rcases h3 with h | h | h
        all_goals
          rw [h] at hs1 hs2 hs3
          rw [h]
          simp only [Int.neg_neg, Int.reduceNeg, Int.reduceLT, decide_true, decide_false, Int.neg_zero, Int.lt_irrefl, Int.reduceEq] at hs1 hs2 hs3
          clear h hr
          go_enter Try.func16, Try.ntmps16
          go_wp2_with fail
          go_quiet (fail)
          go_wp2_with fail
          go_ret
          exact ⟨rfl, Lib.hid (HB.out _)⟩
      · have c2 : (ka == 2) = false := by simpa using k2
        by_cases k3 : ka = 3
        · subst k3
          cases ba <;> cases bb
          · rw [show compareP ⟨3, ia, ta, false⟩ ⟨3, ib, tb, false⟩ = 0 by simp [compareP]]
            go_enter Try.func16, Try.ntmps16
            go_wp2_with fail
            go_quiet (fail)
            go_wp2_with fail
            go_ret
            exact ⟨rfl, Lib.hid (HB.out _)⟩
          · rw [show compareP ⟨3, ia, ta, false⟩ ⟨3, ib, tb, true⟩ = -1 by simp [compareP]]
            go_enter Try.func16, Try.ntmps16
            go_wp2_with fail
            go_quiet (fail)
            go_wp2_with fail
            go_ret
            exact ⟨rfl, Lib.hid (HB.out _)⟩
          · rw [show compareP ⟨3, ia, ta, true⟩ ⟨3, ib, tb, false⟩ = 1 by simp [compareP]]
            go_enter Try.func16, Try.ntmps16
            go_wp2_with fail
            go_quiet (fail)
            go_wp2_with fail
            go_ret
            exact ⟨rfl, Lib.hid (HB.out _)⟩
          · rw [show compareP ⟨3, ia, ta, true⟩ ⟨3, ib, tb, true⟩ = 0 by simp [compareP]]
            go_enter Try.func16, Try.ntmps16
            go_wp2_with fail
            go_quiet (fail)
            go_wp2_with fail
            go_ret
            exact ⟨rfl, Lib.hid (HB.out _)⟩
        · have c3 : (ka == 3) = false := by simpa using k3
          rw [show compareP ⟨ka, ia, ta, ba⟩ ⟨ka, ib, tb, bb⟩ = 0 by simp [compareP, k1, k2, k3]]
          clear k1 k2 k3
          go_enter Try.func16, Try.ntmps16
          go_wp2_with fail
          go_wp2_with fail
          go_ret
          exact ⟨rfl, Lib.hid (HB0.out)⟩
  · have kx : (ka != kb) = true := by simp [k0]
    have kx2 : (ka == kb) = false := by simp [k0]
    rcases Int.lt_or_gt_of_ne k0 with h | h
    · rw [show compareP ⟨ka, ia, ta, ba⟩ ⟨kb, ib, tb, bb⟩ = -1 from compareP_lt h]
      have h2 : ¬ kb < ka := by omega
      clear k0
      go_enter Try.func16, Try.ntmps16
      go_wp2_with fail
      go_quiet (fail)
      go_wp2_with fail
      go_ret
      exact ⟨rfl, Lib.hid (HB.out _)⟩
    · rw [show compareP ⟨ka, ia, ta, ba⟩ ⟨kb, ib, tb, bb⟩ = 1 by rw [compareP_flip ⟨kb, ib, tb, bb⟩ ⟨ka, ia, ta, ba⟩, compareP_lt h]; rfl]
      have h2 : ¬ ka < kb := by omega
      clear k0
      go_enter Try.func16, Try.ntmps16
      go_wp2_with fail
      go_quiet (fail)
      go_wp2_with fail
      go_ret
      exact ⟨rfl, Lib.hid (HB.out _)⟩

set_option maxRecDepth 100000 in
set_option maxHeartbeats 16000000 in
theorem refCompare27 (w : World) (A : Option Addr) (n c : Nat) (B : Option Addr) (m d : Nat) (x y : List Val) (hx : ValsAt w A n x) (hy : ValsAt w B m y) (hn : n ≤ 1000000) (hm : m ≤ 1000000) :
    Calls Try.prog 27 #[.slice A n c, .slice B m d] w fun e w' => e = .returned (.int .i64 (keyCmp x y)) ∧ Hid (Below w.heap.size w w') := by
  have HX := Lib.hid hx
  have HY := Lib.hid hy
  have hn9 : (n : Int) < 1000001 := by omega
  have hm9 : (m : Int) < 1000001 := by omega
  clear hx hy
  go_enter Try.func27, Try.ntmps27
  go_wp2_with fail
  go_loopg [5] n (fun kx s5 wr => ∃ i : Nat, s5 = .int .i64 i ∧ kx + i = n ∧ i ≤ m ∧ Hid (Below w.heap.size w wr ∧ keyCmp x y = keyCmp (x.drop i) (y.drop i)))
  case atStart => exact ⟨0, rfl, rfl, Nat.zero_le _, Lib.hid ⟨Below.refl _ _, rfl⟩⟩
  case round =>
    obtain ⟨i, rfl, hk, him, I⟩ := hrel
    have hi9 : (i : Int) < 1000001 := by omega
    by_cases hi : i < n
    · have hiz : (i : Int) < (n : Int) := by omega
      by_cases hj : i < m
      · have hjz : (i : Int) < (m : Int) := by omega
        obtain ⟨a, ha⟩ : ∃ a, x[i]? = some a := ⟨_, List.getElem?_eq_getElem (by rw [HX.out.len]; exact hi)⟩
        obtain ⟨b, off, rfl, hb, hv⟩ := HX.out.at_ i a ha
        obtain ⟨u, hu⟩ : ∃ u, y[i]? = some u := ⟨_, List.getElem?_eq_getElem (by rw [HY.out.len]; exact hj)⟩
        obtain ⟨b2, off2, rfl, hb2, hv2⟩ := HY.out.at_ i u hu
        have c0 : ∀ p : BelowW wr, p.w.cell? ⟨b, off + i * 4, none⟩ = some (.int .i64 a.kind) := fun p => (hv.below hb (bt p.h I.out.1)).c0
        have c1 : ∀ p : BelowW wr, p.w.cell? ⟨b, off + i * 4 + 1, none⟩ = some (.int .i64 a.int) := fun p => (hv.below hb (bt p.h I.out.1)).c1
        have c2 : ∀ p : BelowW wr, p.w.cell? ⟨b, off + i * 4 + 2, none⟩ = some (.string a.text) := fun p => (hv.below hb (bt p.h I.out.1)).c2
        have c3 : ∀ p : BelowW wr, p.w.cell? ⟨b, off + i * 4 + 3, none⟩ = some (.bool a.bool) := fun p => (hv.below hb (bt p.h I.out.1)).c3
        have d0 : ∀ p : BelowW wr, p.w.cell? ⟨b2, off2 + i * 4, none⟩ = some (.int .i64 u.kind) := fun p => (hv2.below hb2 (bt p.h I.out.1)).c0
        have d1 : ∀ p : BelowW wr, p.w.cell? ⟨b2, off2 + i * 4 + 1, none⟩ = some (.int .i64 u.int) := fun p => (hv2.below hb2 (bt p.h I.out.1)).c1
        have d2 : ∀ p : BelowW wr, p.w.cell? ⟨b2, off2 + i * 4 + 2, none⟩ = some (.string u.text) := fun p => (hv2.below hb2 (bt p.h I.out.1)).c2
        have d3 : ∀ p : BelowW wr, p.w.cell? ⟨b2, off2 + i * 4 + 3, none⟩ = some (.bool u.bool) := fun p => (hv2.below hb2 (bt p.h I.out.1)).c3
        have hs := keyCmp_step ha hu
        have CC : Hid (∀ p : BelowW wr, Calls Try.prog 16 #[.agg #[.int .i64 a.kind, .int .i64 a.int, .string a.text, .bool a.bool], .agg #[.int .i64 u.kind, .int .i64 u.int, .string u.text, .bool u.bool]] p.w fun e w' => e = .returned (.int .i64 (compareP a u)) ∧ Hid (Below p.w.heap.size p.w w')) := Lib.hid (fun p => refCompare16 p.w a u)
        obtain ⟨r, hr⟩ : ∃ r, r = compareP a u := ⟨_, rfl⟩
        rw [← hr] at CC hs
        by_cases h0 : r = 0
        · subst h0
          have NX := Lib.hid (show keyCmp x y = keyCmp (x.drop (i + 1)) (y.drop (i + 1)) by rw [I.out.2, hs]; simp)
          have BB := Lib.hid I.out.1
          clear hs hr ha hu hv hv2 I
          go_wp2_with fail
          refine wp_region_quiet_below (by kernel_rfl) (by kernel_rfl) ?_
          repeat (quiet_step ((go_at_call 16; refine calls_below _ (CC.out _))))
          refine wpQuiet_nil ?_
          intro wq hw'
          have hq : Below wr.heap.size wr wq := by obtain ⟨p, rfl⟩ := hw'; exact p.h
          clear hw' c0 c1 c2 c3 d0 d1 d2 d3
          go_wp2_with fail
          go_roundg (gk - 1)
          case measure => omega
          case rel => exact ⟨i + 1, by first | rfl | (simp; done), by omega, by omega, Lib.hid ⟨bt hq BB.out, NX.out⟩⟩
        · have NX := Lib.hid (show keyCmp x y = r by rw [I.out.2, hs, if_pos h0])
          have BB := Lib.hid I.out.1
          have h1 : (r != 0) = true := by simpa using h0
          have h2 : (r == 0) = false := by simpa using h0
          clear hs hr ha hu hv hv2 I
          go_wp2_with fail
          refine wp_region_quiet_below (by kernel_rfl) (by kernel_rfl) ?_
          repeat (quiet_step ((go_at_call 16; refine calls_below _ (CC.out _))))
          refine wpQuiet_nil ?_
          intro wq hw'
          have hq : Below wr.heap.size wr wq := by obtain ⟨p, rfl⟩ := hw'; exact p.h
          clear hw' c0 c1 c2 c3 d0 d1 d2 d3
          go_wp2_with fail
          go_ret
          exact ⟨by rw [NX.out]; rfl, Lib.hid (bt hq BB.out)⟩
      · have hjz : ¬ (i : Int) < (m : Int) := by omega
        have hjd : decide ((i : Int) < (m : Int)) = false := decide_eq_false hjz
        have hz1 : ¬ (n : Int) < (m : Int) := by omega
        have hz2 : (m : Int) < (n : Int) := by omega
        have NX := Lib.hid (show keyCmp x y = 1 by rw [I.out.2]; exact keyCmp_long (by rw [HX.out.len]; exact hi) (by rw [HY.out.len]; omega))
        have BB := Lib.hid I.out.1
        clear I
        go_wp2_with fail
        go_ret
        exact ⟨by rw [NX.out]; rfl, BB⟩
    · have hiz : ¬ (i : Int) < (n : Int) := by omega
      have hid : decide ((i : Int) < (n : Int)) = false := decide_eq_false hiz
      by_cases hj : n < m
      · have hjz : (n : Int) < (m : Int) := by omega
        have NX := Lib.hid (show keyCmp x y = -1 by rw [I.out.2]; exact keyCmp_short (by rw [HX.out.len]; omega) (by rw [HY.out.len]; omega))
        go_wp2_with fail
        go_ret
        exact ⟨by rw [NX.out]; rfl, Lib.hid I.out.1⟩
      · have hjz : ¬ (n : Int) < (m : Int) := by omega
        have hjz2 : ¬ (m : Int) < (n : Int) := by omega
        have NX := Lib.hid (show keyCmp x y = 0 by rw [I.out.2]; exact keyCmp_none (by rw [HX.out.len]; omega) (by rw [HY.out.len]; omega))
        go_wp2_with fail
        go_ret
        exact ⟨by rw [NX.out]; rfl, Lib.hid I.out.1⟩

end Go.Proofs.Ytbcmmecilheicaa
