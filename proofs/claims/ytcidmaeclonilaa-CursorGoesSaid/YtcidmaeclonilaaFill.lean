/- fill: the walk; begin. -/
import Derived.Test.YtcidmaeclonilaaDropT
import Derived.Deep.LoopGhost
import Derived.BigQuiet
namespace Go.Proofs.Ytcidmaeclonilaa
open Go Go.RowKit

theorem ret_i64S {a b : Int} (h : a = b) : Ending.returned (.int .i64 a) = .returned (.int .i64 b) := by rw [h]
/-- the cells that fill reads about a child -/
theorem kidCellsS {w : World} {h : Nat} {t : GT} (H : Tre TS w (h + 1) t) (B : BT (h + 1) t) : ∃ (g cc : Nat) (KA : Option Addr) (kc : Nat), w.cell? ⟨t.b, 2, none⟩ = some (.slice (some ⟨g, 0, none⟩) (t.ks.length + 1) cc) ∧ w.cell? ⟨t.b, 0, none⟩ = some (.slice KA t.ks.length kc) ∧
    ∀ j d, t.cs[j]? = some d → w.cell? ⟨g, j, none⟩ = some (.pointer (some ⟨d.b, 0, none⟩)) ∧ ∃ (A : Option Addr) (c : Nat), w.cell? ⟨d.b, 0, none⟩ = some (.slice A d.ks.length c) := by
  have C := celS H B
  obtain ⟨CA, cc, d2, dk⟩ := C.kid
  obtain ⟨KA, kc, d0, -⟩ := C.key
  obtain ⟨d, hd⟩ : ∃ d, t.cs[0]? = some d := ⟨_, List.getElem?_eq_getElem (by have := B.1; omega)⟩
  obtain ⟨g, rfl, -⟩ := dk 0 d hd
  rw [B.1] at d2
  refine ⟨g, cc, KA, kc, d2, d0, fun j d hd => ?_⟩
  obtain ⟨g', e, hc⟩ := dk j d hd
  injection e with e; injection e with e; subst e
  obtain ⟨A, c, e0, -⟩ := (celS (H.kid hd) (B.kid_at hd).1).key
  exact ⟨hc, A, c, e0⟩

theorem fillOk_merge {h : Nat} {t a c t1 d : GT} {i : Nat} {k : ByteArray} {v : Value} (B : BT (h + 1) t) (hi : i < t.ks.length) (hk : t.ks[i]? = some k) (hv : t.vs[i]? = some v) (ha : t.cs[i]? = some a) (hc : t.cs[i + 1]? = some c)
    (p1 : BT (h + 1) t1) (p2 : d.ks.length = 7) (p3 : t1.ks.length + 1 = t.ks.length) (p4 : toL h d = toL h a ++ (k, v) :: toL h c) (p5 : t1.cs[i]? = some d) (p6 : Lf h t1 i = Lf h t i) (p7 : Rt h t1 i = Rt h t (i + 1)) :
    FillOk h t i a t1 i d ∧ FillOk h t (i + 1) c t1 i d := by
  have hp : t.ps[i]? = some (k, v) := by rw [GT.ps, List.getElem?_zip_eq_some]; exact ⟨hk, hv⟩
  refine ⟨⟨p1, p5, by omega, by omega, by omega, [], (k, v) :: toL h c, by rw [p6]; simp, by rw [Rt_cons hc hp, p7]; simp, by rw [p4]; simp⟩, ⟨p1, p5, by omega, by omega, by omega, toL h a ++ [(k, v)], [], ?_, by rw [p7]; rfl, by rw [p4]; simp⟩⟩
  rw [Lf_succ B hi ha hp, p6]; simp

set_option maxRecDepth 20000 in
set_option maxHeartbeats 4000000 in
theorem fill_mergeS (w : World) (h : Nat) (t c : GT) (i : Nat) (H : Tre TS w (h + 1) t) (B : BT (h + 1) t) (hi : i ≤ t.ks.length) (h1 : 1 ≤ t.ks.length) (hc : t.cs[i]? = some c) (hn3 : c.ks.length = 3)
    (hl : ¬ (0 < i ∧ ∃ l, t.cs[i - 1]? = some l ∧ 3 < l.ks.length)) (hr : ¬ (i < t.ks.length ∧ ∃ r, t.cs[i + 1]? = some r ∧ 3 < r.ks.length)) :
    Calls Try.prog 96 #[.pointer (some ⟨t.b, 0, none⟩), .int .i64 i] w (FillTPostS w h t c i) := by
  obtain ⟨g, cc, KA, kc, d2, d0, dk⟩ := kidCellsS H B
  obtain ⟨di, KC, qc, e0⟩ := dk i c hc
  have b1 := B.1
  have b7 := B.2.2.1
  rw [hn3] at e0
  obtain ⟨m, hm⟩ : ∃ m, m = t.ks.length := ⟨_, rfl⟩
  rw [← hm] at d2 d0 hr
  have hiz : (i : Int) < (m : Int) + 1 := by omega
  have left : ∀ j, i = j + 1 → ∃ l, t.cs[j]? = some l ∧ l.ks.length = 3 := fun j hj => by
    obtain ⟨l, hlc⟩ : ∃ l, t.cs[j]? = some l := ⟨_, List.getElem?_eq_getElem (by omega)⟩
    refine ⟨l, hlc, ?_⟩
    have := (B.kid_at hlc).2
    by_cases hh : 3 < l.ks.length
    · exact absurd ⟨by omega, l, by rw [hj, Nat.add_sub_cancel]; exact hlc, hh⟩ hl
    · omega
  by_cases him : i < m
  · obtain ⟨r, hrc⟩ : ∃ r, t.cs[i + 1]? = some r := ⟨_, List.getElem?_eq_getElem (by omega)⟩
    have r3 : r.ks.length = 3 := by
      have := (B.kid_at hrc).2
      by_cases hh : 3 < r.ks.length
      · exact absurd ⟨him, r, hrc, hh⟩ hr
      · omega
    obtain ⟨dr, KR, qr, f0⟩ := dk (i + 1) r hrc
    rw [r3] at f0
    have hcall := Lib.hid (mergeTS w h t c r i H B (by omega) hc hrc hn3 r3)
    have himz : (i : Int) < (m : Int) := by omega
    have hi1z : (i : Int) + 1 < (m : Int) + 1 := by omega
    have hi10 : (0 : Int) ≤ (i : Int) + 1 := by omega
    have hw1 : IntKind.i64.wrap ((i : Int) + 1) = (i : Int) + 1 := by rw [IntKind.wrap_i64]; omega
    have ht1 : ((i : Int) + 1).toNat = i + 1 := by omega
    have fin0 := Lib.hid (show ∀ w', MergeTPostS w h t c r i (.returned (.tuple #[])) w' → FillTPostS w h t c i (.returned (.int .i64 i)) w' from fun w' ⟨_, t1, d, k, v, hk, hv, q1, q2, q3, q4, p1, _, p2, p3, p4, p5, p6, p7⟩ =>
      ⟨t1, i, d, rfl, q1, q2, q3, q4, (fillOk_merge B (by omega) hk hv hc hrc p1 p2 p3 p4 p5 p6 p7).1⟩)
    cases i with
    | zero =>
      clear H B hi h1 hc dk b1 b7 hm hn3 r3 hrc him hl hr left
      go_enter Try.func96, Try.ntmps96
      go_wp2_with fail
      refine hcall.out.mono ?_
      clear hcall
      rintro e w' hp
      obtain ⟨rfl, hp⟩ := hp
      have fin := Lib.hid (fin0.out w' ⟨rfl, hp⟩)
      clear hp fin0
      go_wp2
      go_ret
      exact fin.out
    | succ j =>
      obtain ⟨l, hlc, l3⟩ := left j rfl
      obtain ⟨dl, KL, ql, g0⟩ := dk j l hlc
      rw [l3] at g0
      have hcast : ((j + 1 : Nat) : Int) = (j : Int) + 1 := by omega
      rw [hcast] at hcall fin0 himz hi1z hi10 hw1 ht1 ⊢
      have hjz : (j : Int) < (m : Int) + 1 := by omega
      have hjz1 : (j : Int) + 1 < (m : Int) + 1 := by omega
      have hj0 : (0 : Int) < (j : Int) + 1 := by omega
      have hw3 : IntKind.i64.wrap ((j : Int) + 1 - 1) = (j : Int) := by rw [IntKind.wrap_i64]; omega
      have hw0 : IntKind.i64.wrap (j : Int) = (j : Int) := by rw [IntKind.wrap_i64]; omega
      have hw2 : IntKind.i64.wrap ((j : Int) + 2) = (j : Int) + 2 := by rw [IntKind.wrap_i64]; omega
      have hj2 : (j : Int) + 2 < (m : Int) + 1 := by omega
      have hj3 : (0 : Int) ≤ (j : Int) + 2 := by omega
      have ht1' : ((j : Int) + 1).toNat = j + 1 := by omega
      have ht2' : ((j : Int) + 2).toNat = j + 1 + 1 := by omega
      clear H B hi h1 hc dk b1 b7 hm hn3 r3 hrc him hl hr hlc l3 hiz hcast left
      go_enter Try.func96, Try.ntmps96
      go_wp2_with fail
      refine hcall.out.mono ?_
      clear hcall
      rintro e w' hp
      obtain ⟨rfl, hp⟩ := hp
      have fin := Lib.hid (fin0.out w' ⟨rfl, hp⟩)
      clear hp fin0
      go_wp2
      go_ret
      exact fin.out
  · obtain ⟨j, rfl⟩ : ∃ j, i = j + 1 := ⟨i - 1, by omega⟩
    obtain ⟨l, hlc, l3⟩ := left j rfl
    obtain ⟨dl, KL, ql, g0⟩ := dk j l hlc
    rw [l3] at g0
    have hcall := Lib.hid (mergeTS w h t l c j H B (by omega) hlc hc l3 hn3)
    have fin0 := Lib.hid (show ∀ w', MergeTPostS w h t l c j (.returned (.tuple #[])) w' → FillTPostS w h t c (j + 1) (.returned (.int .i64 j)) w' from fun w' ⟨_, t1, d, k, v, hk, hv, q1, q2, q3, q4, p1, _, p2, p3, p4, p5, p6, p7⟩ =>
      ⟨t1, j, d, rfl, q1, q2, q3, q4, (fillOk_merge B (by omega) hk hv hlc hc p1 p2 p3 p4 p5 p6 p7).2⟩)
    have hcast : ((j + 1 : Nat) : Int) = (j : Int) + 1 := by omega
    rw [hcast]
    have hjm : ¬ ((j : Int) + 1 < (m : Int)) := by omega
    have hjz : (j : Int) < (m : Int) + 1 := by omega
    have hjz1 : (j : Int) + 1 < (m : Int) + 1 := by omega
    have hj0 : (0 : Int) < (j : Int) + 1 := by omega
    have hw3 : IntKind.i64.wrap ((j : Int) + 1 - 1) = (j : Int) := by rw [IntKind.wrap_i64]; omega
    have hw0 : IntKind.i64.wrap (j : Int) = (j : Int) := by rw [IntKind.wrap_i64]; omega
    have ht1' : ((j : Int) + 1).toNat = j + 1 := by omega
    clear H B hi h1 hc dk b1 b7 hm hn3 him hl hr hlc l3 hiz hcast left
    go_enter Try.func96, Try.ntmps96
    go_wp2_with fail
    refine hcall.out.mono ?_
    clear hcall
    rintro e w' hp
    obtain ⟨rfl, hp⟩ := hp
    have fin := Lib.hid (fin0.out w' ⟨rfl, hp⟩)
    clear hp fin0
    go_wp2
    go_ret
    exact fin.out

set_option maxRecDepth 20000 in
set_option maxHeartbeats 4000000 in
theorem fillS (w : World) (h : Nat) (t c : GT) (i : Nat) (H : Tre TS w (h + 1) t) (B : BT (h + 1) t) (hi : i ≤ t.ks.length) (h1 : 1 ≤ t.ks.length) (hc : t.cs[i]? = some c) :
    Calls Try.prog 96 #[.pointer (some ⟨t.b, 0, none⟩), .int .i64 i] w (FillTPostS w h t c i) := by
  obtain ⟨g, cc, KA, kc, d2, d0, dk⟩ := kidCellsS H B
  obtain ⟨di, KC, qc, e0⟩ := dk i c hc
  have c3 := (B.kid_at hc).2
  have b1 := B.1
  have b7 := B.2.2.1
  obtain ⟨m, hm⟩ : ∃ m, m = t.ks.length := ⟨_, rfl⟩
  rw [← hm] at d2 d0
  have hiz : (i : Int) < (m : Int) + 1 := by omega
  by_cases hgt : 3 < c.ks.length
  · have hgz : (3 : Int) < (c.ks.length : Int) := by omega
    have fin := Lib.hid (show FillTPostS w h t c i (.returned (.int .i64 i)) w from ⟨t, i, c, rfl, rfl, H, Chg.refl _ _, Sub.refl _ _, B, hc, hi, hgt, by omega, [], [], by simp, by simp, by simp⟩)
    generalize c.ks.length = n at *
    clear H B hi h1 hc dk c3 b1 b7 hm hgt
    go_enter Try.func96, Try.ntmps96
    go_wp2
    go_ret
    exact fin.out
  · have hn3 : c.ks.length = 3 := by omega
    rw [hn3] at e0
    by_cases hl : 0 < i ∧ ∃ l, t.cs[i - 1]? = some l ∧ 3 < l.ks.length
    · obtain ⟨hi0, l, hlc, hl3⟩ := hl
      obtain ⟨j, rfl⟩ : ∃ j, i = j + 1 := ⟨i - 1, by omega⟩
      rw [Nat.add_sub_cancel] at hlc
      obtain ⟨dl, KL, ql, f0⟩ := dk j l hlc
      have hcall := Lib.hid (fleftTS w h t l c j H B (by omega) hlc hc (by omega) hn3)
      have hlz : (3 : Int) < (l.ks.length : Int) := by omega
      have hcast : ((j + 1 : Nat) : Int) = (j : Int) + 1 := by omega
      have hjz : (j : Int) < (m : Int) + 1 := by omega
      have hjz1 : (j : Int) + 1 < (m : Int) + 1 := by omega
      have hj0 : (0 : Int) < (j : Int) + 1 := by omega
      have hw3 : IntKind.i64.wrap ((j : Int) + 1 - 1) = (j : Int) := by rw [IntKind.wrap_i64]; omega
      have hw0 : IntKind.i64.wrap (j : Int) = (j : Int) := by rw [IntKind.wrap_i64]; omega
      have ht1 : ((j : Int) + 1).toNat = j + 1 := by omega
      generalize l.ks.length = n at *
      rw [hcast]
      have HC := Lib.hid hcast
      clear H B hi h1 hc dk c3 b1 b7 hm hgt hn3 hl3 hlc hi0 hiz hcast
      go_enter Try.func96, Try.ntmps96
      go_wp2_with fail
      refine hcall.out.mono ?_
      clear hcall
      rintro e w' ⟨rfl, t1, c1, p1, p2, p3, p4, p5⟩
      have fin := Lib.hid (show FillTPostS w h t c (j + 1) (.returned (.int .i64 ((j : Int) + 1))) w' from ⟨t1, j + 1, c1, ret_i64S HC.out.symm, p1, p2, p3, p4, p5⟩)
      clear p1 p2 p3 p4 p5
      go_wp2
      go_ret
      exact fin.out
    · by_cases hr : i < m ∧ ∃ r, t.cs[i + 1]? = some r ∧ 3 < r.ks.length
      · obtain ⟨him, r, hrc, hr3⟩ := hr
        obtain ⟨dr, KR, qr, f0⟩ := dk (i + 1) r hrc
        have hcall := Lib.hid (frightTS w h t c r i H B (by omega) hc hrc hn3 (by omega))
        have hrz : (3 : Int) < (r.ks.length : Int) := by omega
        have himz : (i : Int) < (m : Int) := by omega
        have hi1z : (i : Int) + 1 < (m : Int) + 1 := by omega
        have hi10 : (0 : Int) ≤ (i : Int) + 1 := by omega
        have hw1 : IntKind.i64.wrap ((i : Int) + 1) = (i : Int) + 1 := by rw [IntKind.wrap_i64]; omega
        have ht1 : ((i : Int) + 1).toNat = i + 1 := by omega
        generalize r.ks.length = n at *
        have fin0 := Lib.hid (show ∀ w', FLeftTPostS w h t c i (.returned (.tuple #[])) w' → FillTPostS w h t c i (.returned (.int .i64 i)) w' from fun w' ⟨_, t1, c1, p1, p2, p3, p4, p5⟩ => ⟨t1, i, c1, rfl, p1, p2, p3, p4, p5⟩)
        cases i with
        | zero =>
          have hz : ((0 : Nat) : Int) = 0 := rfl
          clear H B hi h1 hc dk c3 b1 b7 hm hgt hn3 hr3 hrc him hl hz
          go_enter Try.func96, Try.ntmps96
          go_wp2_with fail
          refine hcall.out.mono ?_
          clear hcall
          rintro e w' ⟨rfl, hp⟩
          have fin := Lib.hid (fin0.out w' ⟨rfl, hp⟩)
          clear hp fin0
          go_wp2
          go_ret
          exact fin.out
        | succ j =>
          obtain ⟨l, hlc⟩ : ∃ l, t.cs[j]? = some l := ⟨_, List.getElem?_eq_getElem (by omega)⟩
          have l3 : l.ks.length = 3 := by
            have := (B.kid_at hlc).2
            by_cases hh : 3 < l.ks.length
            · exact absurd ⟨by omega, l, by rw [Nat.add_sub_cancel]; exact hlc, hh⟩ hl
            · omega
          obtain ⟨dl, KL, ql, g0⟩ := dk j l hlc
          rw [l3] at g0
          have hcast : ((j + 1 : Nat) : Int) = (j : Int) + 1 := by omega
          rw [hcast] at hcall fin0 himz hi1z hi10 hw1 ht1 ⊢
          have hjz : (j : Int) < (m : Int) + 1 := by omega
          have hjz1 : (j : Int) + 1 < (m : Int) + 1 := by omega
          have hj0 : (0 : Int) < (j : Int) + 1 := by omega
          have hw3 : IntKind.i64.wrap ((j : Int) + 1 - 1) = (j : Int) := by rw [IntKind.wrap_i64]; omega
          have hw0 : IntKind.i64.wrap (j : Int) = (j : Int) := by rw [IntKind.wrap_i64]; omega
          have hw2 : IntKind.i64.wrap ((j : Int) + 2) = (j : Int) + 2 := by rw [IntKind.wrap_i64]; omega
          have hj2 : (j : Int) + 2 < (m : Int) + 1 := by omega
          have hj3 : (0 : Int) ≤ (j : Int) + 2 := by omega
          have ht1' : ((j : Int) + 1).toNat = j + 1 := by omega
          have ht2' : ((j : Int) + 2).toNat = j + 1 + 1 := by omega
          clear H B hi h1 hc dk c3 b1 b7 hm hgt hn3 hr3 hrc him hl hlc l3 hiz hcast
          go_enter Try.func96, Try.ntmps96
          go_wp2_with fail
          refine hcall.out.mono ?_
          clear hcall
          rintro e w' ⟨rfl, hp⟩
          have fin := Lib.hid (fin0.out w' ⟨rfl, hp⟩)
          clear hp fin0
          go_wp2
          go_ret
          exact fin.out
      · rw [hm] at hr
        exact fill_mergeS w h t c i H B hi h1 hc hn3 hl hr

theorem head_kid {h t c} (H : BT (h + 1) t) (hc : t.cs[0]? = some c) (hne : toL h c ≠ []) : (toL (h + 1) t).head? = (toL h c).head? := by
  rw [toL_split H (Nat.zero_le _) hc, Lf_zero, List.nil_append, List.head?_append]
  cases hx : (toL h c).head? with
  | none => exact absurd (List.head?_eq_none_iff.1 hx) hne
  | some p => rfl
theorem head_leafN {t : GT} {k : ByteArray} {v : Value} (hk : t.ks[0]? = some k) (hv : t.vs[0]? = some v) : (toL 0 t).head? = some (k, v) := by
  show t.ps.head? = _
  rw [List.head?_eq_getElem?, GT.ps, List.getElem?_zip_eq_some]; exact ⟨hk, hv⟩

def BegPostS (w : World) (l : List KV) (e : Ending) (w' : World) : Prop :=
  ∃ p : KV, l.head? = some p ∧ e = .returned (.tuple #[.string p.1, p.2]) ∧ Below w.heap.size w w'

set_option maxHeartbeats 1000000 in
theorem begin_S (w : World) (h : Nat) (t : GT) (H : Tre TS w h t) (B : BT h t) (h0 : 0 < t.ks.length) :
    Calls Try.prog 114 #[.pointer (some ⟨t.b, 0, none⟩)] w (BegPostS w (toL h t)) := by
  obtain ⟨l, hl⟩ : ∃ l, l = toL h t := ⟨_, rfl⟩
  rw [← hl]
  have start := Lib.hid (show Tre TS w h t ∧ BT h t ∧ 0 < t.ks.length ∧ (toL h t).head? = l.head? ∧ Below w.heap.size w w from ⟨H, B, h0, by rw [hl], Below.refl _ w⟩)
  clear hl H B h0
  go_enter Try.func114, Try.ntmps114
  go_wp2
  go_loopg [0] h (fun kx s0 wr => ∃ t' : GT, s0 = .pointer (some ⟨t'.b, 0, none⟩) ∧ Hid (Tre TS wr kx t' ∧ BT kx t' ∧ 0 < t'.ks.length ∧ (toL kx t').head? = l.head? ∧ Below w.heap.size w wr))
  case atStart => exact ⟨t, rfl, start⟩
  case round =>
    obtain ⟨t', rfl, hh⟩ := hrel
    cases gk with
    | zero =>
      have t1 := hh.out
      have hleaf := Lib.hid (leafTS wr 0 t' t1.1 t1.2.1)
      have c := celS t1.1 t1.2.1
      obtain ⟨m, hm⟩ : ∃ m, t'.ks.length = m + 1 := ⟨t'.ks.length - 1, by have := t1.2.2.1; omega⟩
      rw [hm] at c
      obtain ⟨KA, kc, d0, d1⟩ := c.key
      obtain ⟨VA, vc, e0, e1⟩ := c.val
      obtain ⟨s, hk⟩ : ∃ s, t'.ks[0]? = some s := ⟨_, List.getElem?_eq_getElem (by omega)⟩
      obtain ⟨v, hv, hp⟩ := vs_get t1.2.1 hk
      obtain ⟨g, rfl, d2⟩ := d1 0 _ hk
      obtain ⟨gv, rfl, e2⟩ := e1 0 _ hv
      obtain ⟨zu, rfl⟩ : StrV v := t1.1.nod.v1 v (List.mem_of_getElem? hv)
      have hfin := Lib.hid (show BegPostS w l (.returned (.tuple #[.string s, Value.string zu])) wr from ⟨(s, Value.string zu), by rw [← t1.2.2.2.1]; exact head_leafN hk hv, rfl, t1.2.2.2.2⟩)
      have hiz : (0 : Int) < (m : Int) + 1 := by omega
      have hib : (m : Int) ≤ 64 := by have := t1.2.1.ks; omega
      clear t1 c d1 e1 hk hv hp hh start
      clear hm
      go_wp2_with (go_at_call 64; refine hleaf.out.mono ?_; rintro e w' ⟨rfl, rfl⟩)
      go_quiet (fail)
      go_wp2
      go_ret2
      obtain ⟨p, e1, e2, e3⟩ := hfin.out
      exact ⟨p, e1, e2, below_drewN' e3 _⟩
    | succ gk =>
      have t1 := hh.out
      have hleaf := Lib.hid (leafTS wr (gk + 1) t' t1.1 t1.2.1)
      have c := celS t1.1 t1.2.1
      have hcs := t1.2.1.1
      obtain ⟨CA, cc, d0, d1⟩ := c.kid
      rw [hcs] at d0
      obtain ⟨d, hd⟩ : ∃ d, t'.cs[0]? = some d := ⟨_, List.getElem?_eq_getElem (by omega)⟩
      obtain ⟨g, rfl, d2⟩ := d1 _ _ hd
      have Bd := t1.2.1.kid (List.mem_of_getElem? hd)
      have hrel2 := Lib.hid (show Tre TS wr gk d ∧ BT gk d ∧ 0 < d.ks.length ∧ (toL gk d).head? = l.head? ∧ Below w.heap.size w wr from
        ⟨t1.1.kid hd, Bd.1, by omega, by rw [← head_kid t1.2.1 hd (toL_ne Bd.1 (by omega))]; exact t1.2.2.2.1, t1.2.2.2.2⟩)
      have hib : t'.ks.length ≤ 64 := by have := t1.2.1.ks; omega
      clear t1 c d1 hd hh start hcs Bd
      generalize t'.ks.length = m at *
      have hiz : (0 : Int) < (m : Int) + 1 := by omega
      go_wp2_with (go_at_call 64; refine hleaf.out.mono ?_; rintro e w' ⟨rfl, rfl⟩)
      go_roundg gk
      case measure => omega
      case rel => exact ⟨d, rfl, hrel2⟩

end Go.Proofs.Ytcidmaeclonilaa
