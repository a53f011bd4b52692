/- split of a full inner node. -/
import Derived.Test.YtcidmaeclonilaaSplit
namespace Go.Proofs.Ytcidmaeclonilaa
open Go Go.RowKit

set_option maxHeartbeats 4000000 in
set_option maxRecDepth 100000 in
theorem split_innerS (L F : List Nat) (w0 w : World) (n c : RN) (i : Nat) (H : Nds TS L F w0 w [n, c]) (hk6 : n.ks.length ≤ 60) (hv6 : n.vs.length = n.ks.length) (hp6 : n.ps.length = n.ks.length + 1) (hi : i < n.ps.length)
    (hci : n.ps[i]? = some (.pointer (some ⟨c.b, 0, none⟩))) (h7 : c.ks.length = 7) (h7v : c.vs.length = 7) (hcp : c.ps.length = 8) :
    Calls Try.prog 61 #[.pointer (some ⟨n.b, 0, none⟩), .int .i64 i] w (SplitPost L F w0 n c i) := by
  have HN := H.nod n (by simp)
  have HC := H.nod c (by simp)
  obtain ⟨b, kv, vv, cv, ks, vs, ps⟩ := n
  obtain ⟨cb, ck, cvv, ccv, cks, cvs, cps⟩ := c
  simp only at hk6 hv6 hp6 hi hci h7 h7v hcp HN HC
  have rc1 : Row w 99 cv ps := HN.cr
  have rk1 : Row w 9 kv ks := HN.kr
  have rv1 : Row w 9 vv vs := HN.vr
  have rk2 : Row w 9 ck cks := HC.kr
  have rv2 : Row w 9 cvv cvs := HC.vr
  have rc2 : Row w 99 ccv cps := HC.cr
  have o1 : ∀ u ∈ ks, StrV u := HN.kS
  have o2 : ∀ u ∈ vs, StrV u := HN.vS
  have o3 : ∀ u ∈ ps, PtrV u := HN.pS
  have o4 : ∀ u ∈ cks, StrV u := HC.kS
  have o5 : ∀ u ∈ cvs, StrV u := HC.vS
  have o6 : ∀ u ∈ cps, PtrV u := HC.pS
  have hB1 : Blk w b 102 #[kv, vv, cv] := HN.blk
  have hB2 : Blk w cb 102 #[ck, cvv, ccv] := HC.blk
  obtain ⟨m, hm⟩ : ∃ m, m = ks.length := ⟨_, rfl⟩
  obtain ⟨CA, cc, rfl, hcc1, hcc2, hcc3, hcc4⟩ := rc1.formN (n := m + 1) (by omega)
  obtain ⟨cg, rfl⟩ := hcc4 (by omega)
  obtain ⟨KA, kvc, rfl, hka1, hka2, -, -⟩ := rk1.formN (n := m) (by omega)
  obtain ⟨VA, vvc, rfl, hva1, hva2, -, -⟩ := rv1.formN (n := m) (by omega)
  obtain ⟨KA1, kc, rfl, hkc1, hkc2, hkc3, hkc4⟩ := rk2.formN h7
  obtain ⟨k1, rfl⟩ := hkc4 (by omega)
  obtain ⟨VA1, vc, rfl, hvc1, hvc2, hvc3, hvc4⟩ := rv2.formN h7v
  obtain ⟨v1, rfl⟩ := hvc4 (by omega)
  obtain ⟨LA, lc, rfl, hlc1, hlc2, -, hlc4⟩ := rc2.formN hcp
  obtain ⟨l1, rfl⟩ := hlc4 (by omega)
  obtain ⟨k3, hk3⟩ : ∃ u, cks[3]? = some u := ⟨_, List.getElem?_eq_getElem (by omega)⟩
  obtain ⟨v3, hv3⟩ : ∃ u, cvs[3]? = some u := ⟨_, List.getElem?_eq_getElem (by omega)⟩
  obtain ⟨s3, rfl⟩ := o4 k3 (List.mem_of_getElem? hk3)
  obtain ⟨z3, rfl⟩ := o5 v3 (List.mem_of_getElem? hv3)
  obtain ⟨_, e1, hci', _⟩ := hcc3 i _ hci
  cases e1
  have h2 : w.cell? ⟨b, 2, none⟩ = some (.slice (some ⟨cg, 0, none⟩) (m + 1) cc) := hB1.cell 2
  have c0 : w.cell? ⟨cb, 0, none⟩ = some (.slice (some ⟨k1, 0, none⟩) 7 kc) := hB2.cell 0
  have c1 : w.cell? ⟨cb, 1, none⟩ = some (.slice (some ⟨v1, 0, none⟩) 7 vc) := hB2.cell 1
  have cl := hB2.lt
  have hiz : (i : Int) < (m : Int) + 1 := by omega
  have hm60 : m ≤ 60 := by omega
  have hkc4 : ¬ (kc = 4) := by omega
  have hvc4 : ¬ (vc = 4) := by omega
  have hkcz : (7 : Int) ≤ (kc : Int) := by omega
  have hvcz : (7 : Int) ≤ (vc : Int) := by omega
  have hw4 : IntKind.i64.wrap 4 = 4 := by decide
  have K1 := Lib.hid rk2
  have V1 := Lib.hid rv2
  have O1 := Lib.hid o1
  have O2 := Lib.hid o2
  have O3 := Lib.hid o3
  have O4 := Lib.hid o4
  have O5 := Lib.hid o5
  have O6 := Lib.hid o6
  have HP := Lib.hid hcp
  have HH := Lib.hid H
  have K3 := Lib.hid hk3
  have V3 := Lib.hid hv3
  have E := Lib.hid (And.intro hm (And.intro hv6 (And.intro hp6 (And.intro h7 h7v))))
  have HB0 := Lib.hid (Below.refl w.heap.size w)
  clear H HN HC rc1 rk1 rv1 rk2 rv2 rc2 hB1 hB2 hcc3 hcc4 hkc3 hvc3 hk3 hv3 o1 o2 o3 o4 o5 o6 hcp hm hv6 hp6 h7 h7v hci hk6 hi
  go_enter Try.func61, Try.ntmps61
  go_wp2_with fail
  go_region_held3 (fun w' => w'.cell? ⟨cb, 0, none⟩ = some (.slice (some ⟨k1, 0, none⟩) 7 kc) ∧ w'.cell? ⟨cb, 1, none⟩ = some (.slice (some ⟨v1, 0, none⟩) 7 vc) ∧ Hid (Below w.heap.size w w'))
    (first
      | exact ⟨c0, c1, HB0.out.drew⟩
      | exact ⟨(hb1.cell (p := ⟨cb, 0, none⟩) cl).trans c0, (hb1.cell (p := ⟨cb, 1, none⟩) cl).trans c1, hb1⟩
      | exact ⟨(hb2.cell (p := ⟨cb, 0, none⟩) cl).trans c0, (hb2.cell (p := ⟨cb, 1, none⟩) cl).trans c1, hb2⟩
      | exact ⟨((hb2.alloc hb2.size _).cell (p := ⟨cb, 0, none⟩) cl).trans c0, ((hb2.alloc hb2.size _).cell (p := ⟨cb, 1, none⟩) cl).trans c1, hb2.alloc hb2.size _⟩
      | go_keep)
    (first
      | (go_at_call 84; refine (cloneFromK HB0.out.drew K1.out (StrV.one O4.out)).mono ?_; rintro e w1 ⟨A1, q1, rfl, hrk, hb1', hrk'⟩; have hb1 : Below w.heap.size w w1 := HB0.out.drew.trans hb1')
      | (go_at_call 84; refine (cloneFromV hb1 V1.out (StrV.one O5.out)).mono ?_; rintro e w2 ⟨A2, q2, rfl, hrv, hb2', hrv'⟩; have hb2 : Below w.heap.size w w2 := hb1.trans (hb2'.mono hb1.size)))
  have HR := newNode HH.out (fun u hu => O4.out u (List.mem_of_mem_drop hu)) (fun u hu => O5.out u (List.mem_of_mem_drop hu)) hb1 hrk hrk' hb2' hrv hrv'
  clear hrk hrk' hrv hrv' hb1 hb1' hb2 hb2' K1 V1 HH HB0 c0 c1 h2 cl hci'
  generalize w2.alloc (.cells #[.slice A1 3 q1, .slice A2 3 q2, .slice none 0 0] 102) = W3 at *
  generalize w2.heap.size = N3 at *
  have HRH := Lib.hid HR
  clear HR
  have n3 := HRH.out.nod ⟨b, .slice KA m kvc, .slice VA m vvc, .slice (some ⟨cg, 0, none⟩) (m + 1) cc, ks, vs, ps⟩ (by simp)
  have q3 := HRH.out.nod ⟨cb, .slice (some ⟨k1, 0, none⟩) 7 kc, .slice (some ⟨v1, 0, none⟩) 7 vc, .slice (some ⟨l1, 0, none⟩) 8 lc, cks, cvs, cps⟩ (by simp)
  have r3 := HRH.out.nod ⟨N3, .slice A1 3 q1, .slice A2 3 q2, .slice none 0 0, cks.drop 4, cvs.drop 4, []⟩ (by simp)
  have HL := Lib.hid (show Blk W3 cb 102 #[.slice (some ⟨k1, 0, none⟩) 7 kc, .slice (some ⟨v1, 0, none⟩) 7 vc, .slice (some ⟨l1, 0, none⟩) 8 lc] from q3.blk)
  have hclo := Lib.hid (cloneFromC q3.cr (PtrV.one O6.out))
  have c2 : W3.cell? ⟨cb, 2, none⟩ = some (.slice (some ⟨l1, 0, none⟩) 8 lc) := q3.blk.cell 2
  have hNc : N3 ≠ cb := fun h => by
    have t := HRH.out
    have h0 := t.sep cb
    simp only [owns_cons, List.count_append, count_own] at h0
    rw [if_pos h] at h0
    simp at h0
    omega
  have hcN : cb ≠ N3 := fun h => hNc h.symm
  have hlcz : (8 : Int) ≤ (lc : Int) := by omega
  have hl4 : (4 : Int) ≤ (lc : Int) := by omega
  have hlc4 : ¬ (lc = 4) := by omega
  clear n3 q3 r3
  go_wp2_with (first
    | (go_at_call 64; refine (leafS W3 cb 8 lc _ _ _ HL.out).mono ?_; rintro e w' ⟨rfl, rfl⟩)
    | (go_at_call 85; refine hclo.out.mono ?_; clear hclo; rintro e w4 ⟨A3, q3, rfl, hrc, hb4, hrc', ho3⟩
       have t3 := HRH.out
       have t4 := t3.below hb4
       have d0 : w4.cell? ⟨N3, 2, none⟩ = some (.slice none 0 0) := ((t4.nod _ (List.mem_cons_self ..)).blk).cell 2
       have d1 : w4.frozen? ⟨N3, 2, none⟩ = false := ((t4.nod _ (List.mem_cons_self ..)).blk).frozen 2
       have d2 : w4.cell? ⟨cb, 2, none⟩ = some (.slice (some ⟨l1, 0, none⟩) 8 lc) := ((t4.nod ⟨cb, .slice (some ⟨k1, 0, none⟩) 7 kc, .slice (some ⟨v1, 0, none⟩) 7 vc, .slice (some ⟨l1, 0, none⟩) 8 lc, cks, cvs, cps⟩ (by simp)).blk).cell 2
       have d3 : w4.frozen? ⟨cb, 2, none⟩ = false := ((t4.nod ⟨cb, .slice (some ⟨k1, 0, none⟩) 7 kc, .slice (some ⟨v1, 0, none⟩) 7 vc, .slice (some ⟨l1, 0, none⟩) 8 lc, cks, cvs, cps⟩ (by simp)).blk).frozen 2
       have hgC : Chg (ob (.slice none 0 0)) W3 w4 := Chg.of_below hb4
       have ok4 : ∀ u ∈ cps.drop 4, PtrV u := fun u hu => O6.out u (List.mem_of_mem_drop hu)
       have t5 := Nds.slotC t3 hgC hrc ok4 ho3
       have HR5 := Lib.hid t5
       clear t3 t4 t5 hgC hrc hb4 hrc' ho3 ok4))
  have t5 := HR5.out
  have t6 := t5.perm (show List.Perm _ _ from (List.Perm.trans (List.Perm.cons _ (List.Perm.swap _ _ _)) (List.Perm.swap _ _ _)))
  have r6 := (t6.nod _ (List.mem_cons_self ..)).cr
  have r6' := Row.pre r6 (d := 4) (c' := 4) (by omega) (by omega) (by omega) (by simp)
  have t7 := Nds.slotC t6 (Chg.refl _ _) r6' (fun u hu => O6.out u (List.mem_of_mem_take hu)) (.inl rfl)
  have t8 := t7.perm (show List.Perm _ _ from (List.Perm.trans (List.Perm.swap _ _ _) (List.Perm.cons _ (List.Perm.swap _ _ _))))
  have HRH' := Lib.hid t8
  clear t5 t6 t7 t8 r6 r6' HR5 d0 d1 d2 d3 c2 HL HRH
  generalize (w4.setCell ⟨N3, 2, none⟩ (.slice A3 4 q3)).setCell ⟨cb, 2, none⟩ (.slice (some ⟨l1, 0, none⟩) 4 4) = W3 at *
  have HRH := HRH'
  clear HRH'
  have N3' := Lib.hid (HRH.out.nod ⟨b, .slice KA m kvc, .slice VA m vvc, .slice (some ⟨cg, 0, none⟩) (m + 1) cc, ks, vs, ps⟩ (by simp))
  have Q3' := Lib.hid (HRH.out.nod ⟨cb, .slice (some ⟨k1, 0, none⟩) 7 kc, .slice (some ⟨v1, 0, none⟩) 7 vc, .slice (some ⟨l1, 0, none⟩) 4 4, cks, cvs, cps.take 4⟩ (by simp))
  -- the keys
  have HR4 := Lib.hid ((HRH.out.perm (List.Perm.swap _ _ _)).drew.alloc (.cells #[.string s3] 9))
  have n4 := Lib.hid (HR4.out.nod _ (List.mem_cons_self ..))
  have q4 := Lib.hid (HR4.out.nod ⟨cb, .slice (some ⟨k1, 0, none⟩) 7 kc, .slice (some ⟨v1, 0, none⟩) 7 vc, .slice (some ⟨l1, 0, none⟩) 4 4, cks, cvs, cps.take 4⟩ (by simp))
  refine wp_region_noPanic ?_
  refine wp_region_late (fun w' => w'.cell? ⟨b, 0, none⟩ = some (.slice KA m kvc) ∧ w'.cell? ⟨cb, 0, none⟩ = some (.slice (some ⟨k1, 0, none⟩) 7 kc) ∧ w'.cell? ⟨k1, 3, none⟩ = some (.string s3)) [17] (by kernel_rfl) ?_
  have hS0 : (fun w' : World => w'.cell? ⟨b, 0, none⟩ = some (.slice KA m kvc) ∧ w'.cell? ⟨cb, 0, none⟩ = some (.slice (some ⟨k1, 0, none⟩) 7 kc) ∧ w'.cell? ⟨k1, 3, none⟩ = some (.string s3)) W3.drew := ⟨N3'.out.blk.cell 0, Q3'.out.blk.cell 0, Q3'.out.kcell K3.out⟩
  have hS1 : (fun w' : World => w'.cell? ⟨b, 0, none⟩ = some (.slice KA m kvc) ∧ w'.cell? ⟨cb, 0, none⟩ = some (.slice (some ⟨k1, 0, none⟩) 7 kc) ∧ w'.cell? ⟨k1, 3, none⟩ = some (.string s3)) (W3.drew.alloc (.cells #[.string s3] 9)) := ⟨n4.out.blk.cell 0, q4.out.blk.cell 0, q4.out.kcell K3.out⟩
  refine wpAnyL_take 0 64 (v := ?_) rfl rfl (by kernel_rfl) (by kernel_rfl) (by kernel_rfl) (by kernel_rfl) (fun _ _ _ h => h) (by rfl) ?_ hS0 ?_
  rotate_left
  · (intro w' hSw; obtain ⟨s1, s2, s3⟩ := hSw; go_simp; try with_reducible rfl)
  simp only [List.setIfInBounds_toArray, List.set_cons_zero, List.set_cons_succ]
  refine wpAnyL_take 1 65 (v := ?_) rfl rfl (by kernel_rfl) (by kernel_rfl) (by kernel_rfl) (by kernel_rfl) (fun _ _ _ h => h) (by rfl) ?_ hS0 ?_
  rotate_left
  · (intro w' hSw; obtain ⟨s1, s2, s3⟩ := hSw; go_simp; try with_reducible rfl)
  simp only [List.setIfInBounds_toArray, List.set_cons_zero, List.set_cons_succ]
  refine wpAnyL_take 2 66 (v := ?_) rfl rfl (by kernel_rfl) (by kernel_rfl) (by kernel_rfl) (by kernel_rfl) (fun _ _ _ h => h) (by rfl) ?_ hS0 ?_
  rotate_left
  · (intro w' hSw; obtain ⟨s1, s2, s3⟩ := hSw; go_simp; try with_reducible rfl)
  simp only [List.setIfInBounds_toArray, List.set_cons_zero, List.set_cons_succ]
  refine wpAnyL_take 3 67 (v := ?_) rfl rfl (by kernel_rfl) (by kernel_rfl) (by kernel_rfl) (by kernel_rfl) (fun _ _ _ h => h) (by rfl) ?_ hS0 ?_
  rotate_left
  · (intro w' hSw; obtain ⟨s1, s2, s3⟩ := hSw; go_simp; try with_reducible rfl)
  simp only [List.setIfInBounds_toArray, List.set_cons_zero, List.set_cons_succ]
  refine wpAnyL_take 4 68 (v := ?_) rfl rfl (by kernel_rfl) (by kernel_rfl) (by kernel_rfl) (by kernel_rfl) (fun _ _ _ h => h) (by rfl) ?_ hS0 ?_
  rotate_left
  · (intro w' hSw; obtain ⟨s1, s2, s3⟩ := hSw; go_simp; try with_reducible rfl)
  simp only [List.setIfInBounds_toArray, List.set_cons_zero, List.set_cons_succ]
  refine wpAnyL_take 5 69 (v := ?_) rfl rfl (by kernel_rfl) (by kernel_rfl) (by kernel_rfl) (by kernel_rfl) (fun _ _ _ h => h) (by rfl) ?_ hS0 ?_
  rotate_left
  · (intro w' hSw; obtain ⟨s1, s2, s3⟩ := hSw; go_simp; try with_reducible rfl)
  simp only [List.setIfInBounds_toArray, List.set_cons_zero, List.set_cons_succ]
  refine wpAnyL_take 6 70 (v := ?_) rfl rfl (by kernel_rfl) (by kernel_rfl) (by kernel_rfl) (by kernel_rfl) (fun _ _ _ h => h) (by rfl) ?_ hS0 ?_
  rotate_left
  · (intro w' hSw; obtain ⟨s1, s2, s3⟩ := hSw; go_simp; try with_reducible rfl)
  simp only [List.setIfInBounds_toArray, List.set_cons_zero, List.set_cons_succ]
  refine wpAnyL_take 7 71 (v := ?_) rfl rfl (by kernel_rfl) (by kernel_rfl) (by kernel_rfl) (by kernel_rfl) (fun _ _ _ h => h) (by rfl) ?_ hS0 ?_
  rotate_left
  · (intro w' hSw; obtain ⟨s1, s2, s3⟩ := hSw; go_simp; try with_reducible rfl)
  simp only [List.setIfInBounds_toArray, List.set_cons_zero, List.set_cons_succ]
  refine wpAnyL_take 8 72 (v := ?_) rfl rfl (by kernel_rfl) (by kernel_rfl) (by kernel_rfl) (by kernel_rfl) (fun _ _ _ h => h) (by rfl) ?_ hS0 ?_
  rotate_left
  · (intro w' hSw; obtain ⟨s1, s2, s3⟩ := hSw; go_simp; try with_reducible rfl)
  simp only [List.setIfInBounds_toArray, List.set_cons_zero, List.set_cons_succ]
  refine wpAnyL_take 9 73 (v := ?_) rfl rfl (by kernel_rfl) (by kernel_rfl) (by kernel_rfl) (by kernel_rfl) (fun _ _ _ h => h) (by rfl) ?_ hS0 ?_
  rotate_left
  · (intro w' hSw; obtain ⟨s1, s2, s3⟩ := hSw; go_simp; try with_reducible rfl)
  simp only [List.setIfInBounds_toArray, List.set_cons_zero, List.set_cons_succ]
  refine wpAnyL_take 10 74 (v := ?_) rfl rfl (by kernel_rfl) (by kernel_rfl) (by kernel_rfl) (by kernel_rfl) (fun _ _ _ h => h) (by rfl) ?_ hS0 ?_
  rotate_left
  · (intro w' hSw; obtain ⟨s1, s2, s3⟩ := hSw; go_simp; try with_reducible rfl)
  simp only [List.setIfInBounds_toArray, List.set_cons_zero, List.set_cons_succ]
  refine wpAnyL_take 11 75 (v := ?_) rfl rfl (by kernel_rfl) (by kernel_rfl) (by kernel_rfl) (by kernel_rfl) (fun _ _ _ h => h) (by rfl) ?_ hS0 ?_
  rotate_left
  · (intro w' hSw; obtain ⟨s1, s2, s3⟩ := hSw; go_simp; try with_reducible rfl)
  simp only [List.setIfInBounds_toArray, List.set_cons_zero, List.set_cons_succ]
  refine wpAnyL_take 12 76 (v := ?_) rfl rfl (by kernel_rfl) (by kernel_rfl) (by kernel_rfl) (by kernel_rfl) (fun _ _ _ h => h) (by rfl) ?_ hS0 ?_
  rotate_left
  · (intro w' hSw; obtain ⟨s1, s2, s3⟩ := hSw; go_simp; try with_reducible rfl)
  simp only [List.setIfInBounds_toArray, List.set_cons_zero, List.set_cons_succ]
  refine wpAnyL_val 13 77 (v := .slice (some ⟨W3.heap.size, 0, none⟩) 1 1) (w' := W3.drew.alloc (.cells #[.string s3] 9)) rfl rfl (by kernel_rfl) (by rfl) (by go_simp; try rfl) (.inr hS1) ?_
  simp only [List.setIfInBounds_toArray, List.set_cons_zero, List.set_cons_succ]
  have hcall : Calls Try.prog 86 #[.slice KA m kvc, .int .i64 i, .slice (some ⟨W3.heap.size, 0, none⟩) 1 1] (W3.drew.alloc (.cells #[.string s3] 9)) (InsPostN (W3.drew.alloc (.cells #[.string s3] 9)) 9 (.slice KA m kvc) (m + 1) (ks.take i ++ .string s3 :: ks.drop i)) :=
    (insertS _ _ ks (.string s3) _ i n4.out.kr (by have := E.out.1; omega) (by have := E.out.1; omega) (Blk.new _ _ _) rfl (StrV.one O1.out) (fun h => by have := N3'.out.kr.lt _ h; exact absurd this (Nat.lt_irrefl _))).mono fun _ _ h => insPostN (by have := E.out.1; simp; omega) h
  refine wpAnyL_call 14 78 (f := 86) (args := #[.slice KA m kvc, .int .i64 i, .slice (some ⟨W3.heap.size, 0, none⟩) 1 1]) rfl rfl (by kernel_rfl) (by rfl) (by go_simp; try rfl) hcall ?_
  clear hcall
  rintro e w4 ⟨KA2, kc2, rfl, hrow, hchg, hown⟩
  have t4 := HR4.out
  have hmid := Nds.mid t4 (.inl rfl) hchg
  have hb4 := hmid.1
  have q5 : NodR TS w4 ⟨cb, .slice (some ⟨k1, 0, none⟩) 7 kc, .slice (some ⟨v1, 0, none⟩) 7 vc, .slice (some ⟨l1, 0, none⟩) 4 4, cks, cvs, cps.take 4⟩ := hmid.2 _ (by simp)
  have hS2 : (fun w' : World => w'.cell? ⟨b, 0, none⟩ = some (.slice KA m kvc) ∧ w'.cell? ⟨cb, 0, none⟩ = some (.slice (some ⟨k1, 0, none⟩) 7 kc) ∧ w'.cell? ⟨k1, 3, none⟩ = some (.string s3)) w4 := ⟨hb4.cell 0, q5.blk.cell 0, q5.kcell K3.out⟩
  have hf4 : w4.frozen? ⟨b, 0, none⟩ = false := hb4.frozen 0
  have hc4 : w4.cell? ⟨b, 0, none⟩ = some (.slice KA m kvc) := hb4.cell 0
  have ok6 := StrV.mid O1.out s3 i
  have h6 := Nds.slotK t4 hchg hrow ok6 hown
  have HR6 := Lib.hid h6
  clear hrow hchg hown hb4 hmid q5 t4 ok6 h6
  refine ⟨_, rfl, .inr hS2, ?_⟩
  simp only [List.setIfInBounds_toArray, List.set_cons_zero, List.set_cons_succ]
  refine wpAnyL_val 15 79 (v := .pointer (some ⟨b, 0, none⟩)) (w' := w4) rfl rfl (by kernel_rfl) (by rfl) (by go_simp; try rfl) (.inr hS2) ?_
  simp only [List.setIfInBounds_toArray, List.set_cons_zero, List.set_cons_succ]
  refine wpAnyL_val 16 80 (v := .pointer (some ⟨b, 0, none⟩)) (w' := w4) rfl rfl (by kernel_rfl) (by rfl) (by go_simp; try rfl) (.inr hS2) ?_
  simp only [List.setIfInBounds_toArray, List.set_cons_zero, List.set_cons_succ]
  refine wpAnyL_skip 17 (w' := w4.setCell ⟨b, 0, none⟩ (.slice KA2 (m + 1) kc2)) rfl rfl (by kernel_rfl) (by rfl) (by go_simp; try rfl) (.inl (by simp)) ?_
  refine wpAnyL_done (by kernel_rfl) ?_ _
  refine NoPanic.normal ?_
  generalize w4.setCell ⟨b, 0, none⟩ (.slice KA2 (m + 1) kc2) = W6 at *
  clear hS0 hS1 hS2 hf4 hc4 HR4 n4 q4 HRH N3' Q3'
  -- the values
  have n6 := Lib.hid (HR6.out.nod _ (List.mem_cons_self ..))
  have q6 := Lib.hid (HR6.out.nod ⟨cb, .slice (some ⟨k1, 0, none⟩) 7 kc, .slice (some ⟨v1, 0, none⟩) 7 vc, .slice (some ⟨l1, 0, none⟩) 4 4, cks, cvs, cps.take 4⟩ (by simp))
  have HR7 := Lib.hid (HR6.out.drew.alloc (.cells #[Value.string z3] 9))
  have n7 := Lib.hid (HR7.out.nod _ (List.mem_cons_self ..))
  have q7 := Lib.hid (HR7.out.nod ⟨cb, .slice (some ⟨k1, 0, none⟩) 7 kc, .slice (some ⟨v1, 0, none⟩) 7 vc, .slice (some ⟨l1, 0, none⟩) 4 4, cks, cvs, cps.take 4⟩ (by simp))
  go_wp2_with fail
  refine wp_region_noPanic ?_
  refine wp_region_late (fun w' => w'.cell? ⟨b, 1, none⟩ = some (.slice VA m vvc) ∧ w'.cell? ⟨cb, 1, none⟩ = some (.slice (some ⟨v1, 0, none⟩) 7 vc) ∧ w'.cell? ⟨v1, 3, none⟩ = some (Value.string z3)) [17] (by kernel_rfl) ?_
  have hS0 : (fun w' : World => w'.cell? ⟨b, 1, none⟩ = some (.slice VA m vvc) ∧ w'.cell? ⟨cb, 1, none⟩ = some (.slice (some ⟨v1, 0, none⟩) 7 vc) ∧ w'.cell? ⟨v1, 3, none⟩ = some (Value.string z3)) W6.drew := ⟨n6.out.blk.cell 1, q6.out.blk.cell 1, q6.out.vcell V3.out⟩
  have hS1 : (fun w' : World => w'.cell? ⟨b, 1, none⟩ = some (.slice VA m vvc) ∧ w'.cell? ⟨cb, 1, none⟩ = some (.slice (some ⟨v1, 0, none⟩) 7 vc) ∧ w'.cell? ⟨v1, 3, none⟩ = some (Value.string z3)) (W6.drew.alloc (.cells #[Value.string z3] 9)) := ⟨n7.out.blk.cell 1, q7.out.blk.cell 1, q7.out.vcell V3.out⟩
  refine wpAnyL_take 0 81 (v := ?_) rfl rfl (by kernel_rfl) (by kernel_rfl) (by kernel_rfl) (by kernel_rfl) (fun _ _ _ h => h) (by rfl) ?_ hS0 ?_
  rotate_left
  · (intro w' hSw; obtain ⟨s1, s2, s3⟩ := hSw; go_simp; try with_reducible rfl)
  simp only [List.setIfInBounds_toArray, List.set_cons_zero, List.set_cons_succ]
  refine wpAnyL_take 1 82 (v := ?_) rfl rfl (by kernel_rfl) (by kernel_rfl) (by kernel_rfl) (by kernel_rfl) (fun _ _ _ h => h) (by rfl) ?_ hS0 ?_
  rotate_left
  · (intro w' hSw; obtain ⟨s1, s2, s3⟩ := hSw; go_simp; try with_reducible rfl)
  simp only [List.setIfInBounds_toArray, List.set_cons_zero, List.set_cons_succ]
  refine wpAnyL_take 2 83 (v := ?_) rfl rfl (by kernel_rfl) (by kernel_rfl) (by kernel_rfl) (by kernel_rfl) (fun _ _ _ h => h) (by rfl) ?_ hS0 ?_
  rotate_left
  · (intro w' hSw; obtain ⟨s1, s2, s3⟩ := hSw; go_simp; try with_reducible rfl)
  simp only [List.setIfInBounds_toArray, List.set_cons_zero, List.set_cons_succ]
  refine wpAnyL_take 3 84 (v := ?_) rfl rfl (by kernel_rfl) (by kernel_rfl) (by kernel_rfl) (by kernel_rfl) (fun _ _ _ h => h) (by rfl) ?_ hS0 ?_
  rotate_left
  · (intro w' hSw; obtain ⟨s1, s2, s3⟩ := hSw; go_simp; try with_reducible rfl)
  simp only [List.setIfInBounds_toArray, List.set_cons_zero, List.set_cons_succ]
  refine wpAnyL_take 4 85 (v := ?_) rfl rfl (by kernel_rfl) (by kernel_rfl) (by kernel_rfl) (by kernel_rfl) (fun _ _ _ h => h) (by rfl) ?_ hS0 ?_
  rotate_left
  · (intro w' hSw; obtain ⟨s1, s2, s3⟩ := hSw; go_simp; try with_reducible rfl)
  simp only [List.setIfInBounds_toArray, List.set_cons_zero, List.set_cons_succ]
  refine wpAnyL_take 5 86 (v := ?_) rfl rfl (by kernel_rfl) (by kernel_rfl) (by kernel_rfl) (by kernel_rfl) (fun _ _ _ h => h) (by rfl) ?_ hS0 ?_
  rotate_left
  · (intro w' hSw; obtain ⟨s1, s2, s3⟩ := hSw; go_simp; try with_reducible rfl)
  simp only [List.setIfInBounds_toArray, List.set_cons_zero, List.set_cons_succ]
  refine wpAnyL_take 6 87 (v := ?_) rfl rfl (by kernel_rfl) (by kernel_rfl) (by kernel_rfl) (by kernel_rfl) (fun _ _ _ h => h) (by rfl) ?_ hS0 ?_
  rotate_left
  · (intro w' hSw; obtain ⟨s1, s2, s3⟩ := hSw; go_simp; try with_reducible rfl)
  simp only [List.setIfInBounds_toArray, List.set_cons_zero, List.set_cons_succ]
  refine wpAnyL_take 7 88 (v := ?_) rfl rfl (by kernel_rfl) (by kernel_rfl) (by kernel_rfl) (by kernel_rfl) (fun _ _ _ h => h) (by rfl) ?_ hS0 ?_
  rotate_left
  · (intro w' hSw; obtain ⟨s1, s2, s3⟩ := hSw; go_simp; try with_reducible rfl)
  simp only [List.setIfInBounds_toArray, List.set_cons_zero, List.set_cons_succ]
  refine wpAnyL_take 8 89 (v := ?_) rfl rfl (by kernel_rfl) (by kernel_rfl) (by kernel_rfl) (by kernel_rfl) (fun _ _ _ h => h) (by rfl) ?_ hS0 ?_
  rotate_left
  · (intro w' hSw; obtain ⟨s1, s2, s3⟩ := hSw; go_simp; try with_reducible rfl)
  simp only [List.setIfInBounds_toArray, List.set_cons_zero, List.set_cons_succ]
  refine wpAnyL_take 9 90 (v := ?_) rfl rfl (by kernel_rfl) (by kernel_rfl) (by kernel_rfl) (by kernel_rfl) (fun _ _ _ h => h) (by rfl) ?_ hS0 ?_
  rotate_left
  · (intro w' hSw; obtain ⟨s1, s2, s3⟩ := hSw; go_simp; try with_reducible rfl)
  simp only [List.setIfInBounds_toArray, List.set_cons_zero, List.set_cons_succ]
  refine wpAnyL_take 10 91 (v := ?_) rfl rfl (by kernel_rfl) (by kernel_rfl) (by kernel_rfl) (by kernel_rfl) (fun _ _ _ h => h) (by rfl) ?_ hS0 ?_
  rotate_left
  · (intro w' hSw; obtain ⟨s1, s2, s3⟩ := hSw; go_simp; try with_reducible rfl)
  simp only [List.setIfInBounds_toArray, List.set_cons_zero, List.set_cons_succ]
  refine wpAnyL_take 11 92 (v := ?_) rfl rfl (by kernel_rfl) (by kernel_rfl) (by kernel_rfl) (by kernel_rfl) (fun _ _ _ h => h) (by rfl) ?_ hS0 ?_
  rotate_left
  · (intro w' hSw; obtain ⟨s1, s2, s3⟩ := hSw; go_simp; try with_reducible rfl)
  simp only [List.setIfInBounds_toArray, List.set_cons_zero, List.set_cons_succ]
  refine wpAnyL_take 12 93 (v := ?_) rfl rfl (by kernel_rfl) (by kernel_rfl) (by kernel_rfl) (by kernel_rfl) (fun _ _ _ h => h) (by rfl) ?_ hS0 ?_
  rotate_left
  · (intro w' hSw; obtain ⟨s1, s2, s3⟩ := hSw; go_simp; try with_reducible rfl)
  simp only [List.setIfInBounds_toArray, List.set_cons_zero, List.set_cons_succ]
  refine wpAnyL_val 13 94 (v := .slice (some ⟨W6.heap.size, 0, none⟩) 1 1) (w' := W6.drew.alloc (.cells #[Value.string z3] 9)) rfl rfl (by kernel_rfl) (by rfl) (by go_simp; try rfl) (.inr hS1) ?_
  simp only [List.setIfInBounds_toArray, List.set_cons_zero, List.set_cons_succ]
  have hcall : Calls Try.prog 86 #[.slice VA m vvc, .int .i64 i, .slice (some ⟨W6.heap.size, 0, none⟩) 1 1] (W6.drew.alloc (.cells #[Value.string z3] 9)) (InsPostN (W6.drew.alloc (.cells #[Value.string z3] 9)) 9 (.slice VA m vvc) (m + 1) (vs.take i ++ Value.string z3 :: vs.drop i)) :=
    (insertS _ _ vs (Value.string z3) _ i n7.out.vr (by have := E.out.1; have := E.out.2.1; omega) (by have := E.out.1; have := E.out.2.1; omega) (Blk.new _ _ _) rfl (StrV.one O2.out) (fun h => by have := n6.out.vr.lt _ h; exact absurd this (Nat.lt_irrefl _))).mono fun _ _ h => insPostN (by have := E.out.1; have := E.out.2.1; simp; omega) h
  refine wpAnyL_call 14 95 (f := 86) (args := #[.slice VA m vvc, .int .i64 i, .slice (some ⟨W6.heap.size, 0, none⟩) 1 1]) rfl rfl (by kernel_rfl) (by rfl) (by go_simp; try rfl) hcall ?_
  clear hcall
  rintro e w4 ⟨VA2, vc2, rfl, hrow, hchg, hown⟩
  have t4 := HR7.out
  have hmid := Nds.mid t4 (.inr (.inl rfl)) hchg
  have hb4 := hmid.1
  have q5 : NodR TS w4 ⟨cb, .slice (some ⟨k1, 0, none⟩) 7 kc, .slice (some ⟨v1, 0, none⟩) 7 vc, .slice (some ⟨l1, 0, none⟩) 4 4, cks, cvs, cps.take 4⟩ := hmid.2 _ (by simp)
  have hS2 : (fun w' : World => w'.cell? ⟨b, 1, none⟩ = some (.slice VA m vvc) ∧ w'.cell? ⟨cb, 1, none⟩ = some (.slice (some ⟨v1, 0, none⟩) 7 vc) ∧ w'.cell? ⟨v1, 3, none⟩ = some (Value.string z3)) w4 := ⟨hb4.cell 1, q5.blk.cell 1, q5.vcell V3.out⟩
  have hf4 : w4.frozen? ⟨b, 1, none⟩ = false := hb4.frozen 1
  have hc4 : w4.cell? ⟨b, 1, none⟩ = some (.slice VA m vvc) := hb4.cell 1
  have ok6 := StrV.mid O2.out z3 i
  have h6 := Nds.slotV t4 hchg hrow ok6 hown
  have HR8 := Lib.hid h6
  clear hrow hchg hown hb4 hmid q5 t4 ok6 h6
  refine ⟨_, rfl, .inr hS2, ?_⟩
  simp only [List.setIfInBounds_toArray, List.set_cons_zero, List.set_cons_succ]
  refine wpAnyL_val 15 96 (v := .pointer (some ⟨b, 0, none⟩)) (w' := w4) rfl rfl (by kernel_rfl) (by rfl) (by go_simp; try rfl) (.inr hS2) ?_
  simp only [List.setIfInBounds_toArray, List.set_cons_zero, List.set_cons_succ]
  refine wpAnyL_val 16 97 (v := .pointer (some ⟨b, 1, none⟩)) (w' := w4) rfl rfl (by kernel_rfl) (by rfl) (by go_simp; try rfl) (.inr hS2) ?_
  simp only [List.setIfInBounds_toArray, List.set_cons_zero, List.set_cons_succ]
  refine wpAnyL_skip 17 (w' := w4.setCell ⟨b, 1, none⟩ (.slice VA2 (m + 1) vc2)) rfl rfl (by kernel_rfl) (by rfl) (by go_simp; try rfl) (.inl (by simp)) ?_
  refine wpAnyL_done (by kernel_rfl) ?_ _
  refine NoPanic.normal ?_
  generalize w4.setCell ⟨b, 1, none⟩ (.slice VA2 (m + 1) vc2) = W8 at *
  clear hS0 hS1 hS2 hf4 hc4 HR6 HR7 n6 q6 n7 q7
  -- the children
  have n8 := Lib.hid (HR8.out.nod _ (List.mem_cons_self ..))
  have HR9 := Lib.hid (HR8.out.alloc (.cells #[.pointer (some ⟨N3, 0, none⟩)] 99))
  have n9 := Lib.hid (HR9.out.nod _ (List.mem_cons_self ..))
  have c8 : W8.cell? ⟨b, 2, none⟩ = some (.slice (some ⟨cg, 0, none⟩) (m + 1) cc) := n8.out.blk.cell 2
  have hcall : Hid (Calls Try.prog 87 #[.slice (some ⟨cg, 0, none⟩) (m + 1) cc, .int .i64 ((i : Int) + 1), .slice (some ⟨W8.heap.size, 0, none⟩) 1 1] (W8.alloc (.cells #[.pointer (some ⟨N3, 0, none⟩)] 99)) (InsPostN (W8.alloc (.cells #[.pointer (some ⟨N3, 0, none⟩)] 99)) 99 (.slice (some ⟨cg, 0, none⟩) (m + 1) cc) (m + 2) (ps.take (i + 1) ++ .pointer (some ⟨N3, 0, none⟩) :: ps.drop (i + 1)))) :=
    Lib.hid ((insertN _ _ ps (.pointer (some ⟨N3, 0, none⟩)) _ (i + 1) n9.out.cr (by have := E.out.1; have := E.out.2.2.1; omega) (by have := E.out.1; have := E.out.2.2.1; omega) (Blk.new _ _ _) rfl (PtrV.one O3.out) (fun h => by have := n8.out.cr.lt _ h; exact absurd this (Nat.lt_irrefl _))).mono fun _ _ h => insPostN (by have := E.out.1; have := E.out.2.2.1; simp; omega) h)
  have hw1 : IntKind.i64.wrap ((i : Int) + 1) = (i : Int) + 1 := by rw [IntKind.wrap_i64]; omega
  have hbc : cb ≠ b := fun h => by
    have t := HR9.out
    have h0 := t.sep b
    simp only [owns_cons, List.count_append, count_own] at h0
    rw [if_pos h] at h0
    simp at h0
    omega
  go_wp2_with fail
  refine hcall.out.mono ?_
  clear hcall
  rintro e w9 ⟨CA2, cc2, rfl, hrow, hchg, hown⟩
  have t4 := HR9.out
  have hmid := Nds.mid t4 (.inr (.inr rfl)) hchg
  have hb4 := hmid.1
  have q5 : NodR TS w9 ⟨cb, .slice (some ⟨k1, 0, none⟩) 7 kc, .slice (some ⟨v1, 0, none⟩) 7 vc, .slice (some ⟨l1, 0, none⟩) 4 4, cks, cvs, cps.take 4⟩ := hmid.2 _ (by simp)
  have d0 : w9.cell? ⟨b, 2, none⟩ = some (.slice (some ⟨cg, 0, none⟩) (m + 1) cc) := hb4.cell 2
  have d1 : w9.frozen? ⟨b, 2, none⟩ = false := hb4.frozen 2
  have d2 : w9.cell? ⟨cb, 0, none⟩ = some (.slice (some ⟨k1, 0, none⟩) 7 kc) := q5.blk.cell 0
  have d3 : w9.cell? ⟨cb, 1, none⟩ = some (.slice (some ⟨v1, 0, none⟩) 7 vc) := q5.blk.cell 1
  have d4 : w9.frozen? ⟨cb, 0, none⟩ = false := q5.blk.frozen 0
  have d5 : w9.frozen? ⟨cb, 1, none⟩ = false := q5.blk.frozen 1
  have ok6 := PtrV.mid O3.out N3 (i + 1)
  have h6 := Nds.slotC t4 hchg hrow ok6 hown
  have HR10 := Lib.hid h6
  have hbc2 : b ≠ cb := fun h => hbc h.symm
  have hk3 : (3 : Int) ≤ (kc : Int) := by omega
  have hv3 : (3 : Int) ≤ (vc : Int) := by omega
  clear hrow hchg hown hb4 hmid q5 t4 ok6 h6 c8 n8 n9 HR8 HR9
  go_wp2
  go_end0
  have t10 := HR10.out
  have t11 := t10.perm (show List.Perm _ _ from (List.Perm.trans (List.Perm.cons _ (List.Perm.swap _ _ _)) (List.Perm.swap _ _ _)))
  have r1 := (t11.nod _ (List.mem_cons_self ..)).kr
  have r1' := Row.pre r1 (d := 3) (c' := 3) (by omega) (by omega) (by omega) (by simp)
  have t12 := Nds.slotK t11 (Chg.refl _ _) r1' (fun u hu => O4.out u (List.mem_of_mem_take hu)) (.inl rfl)
  have r2 := (t12.nod _ (List.mem_cons_self ..)).vr
  have r2' := Row.pre r2 (d := 3) (c' := 3) (by omega) (by omega) (by omega) (by simp)
  have t13 := Nds.slotV t12 (Chg.refl _ _) r2' (fun u hu => O5.out u (List.mem_of_mem_take hu)) (.inl rfl)
  have t14 := t13.perm (show List.Perm _ _ from List.Perm.swap _ _ _)
  have g3 : cks.getD 3 undef = .string s3 := by rw [List.getD_eq_getElem?_getD, K3.out]; rfl
  have g4 : cvs.getD 3 undef = Value.string z3 := by rw [List.getD_eq_getElem?_getD, V3.out]; rfl
  refine ⟨rfl, _, _, _, t14, rfl, rfl, ?_, ?_, rfl, rfl, rfl, rfl, rfl, rfl, rfl⟩
  · show _ = List.take i ks ++ cks.getD 3 undef :: List.drop i ks
    rw [g3]
  · show _ = List.take i vs ++ cvs.getD 3 undef :: List.drop i vs
    rw [g4]

end Go.Proofs.Ytcidmaeclonilaa
