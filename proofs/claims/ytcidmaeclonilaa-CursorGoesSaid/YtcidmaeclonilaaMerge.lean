/- merge: two children and the pair between become one. -/
import Derived.Test.YtcidmaeclonilaaSplitB
import Derived.Test.YtcidmaeclonilaaMemA
import Derived.Deep.CutRange
import Derived.BigQuiet
namespace Go.Proofs.Ytcidmaeclonilaa
open Go Go.RowKit

/-- what merge leaves -/
def MergePostS (L F : List Nat) (w0 : World) (n a b : RN) (i : Nat) (e : Ending) (w' : World) : Prop :=
  e = .returned (.tuple #[]) ∧ ∃ n' a', Nds TS L F w0 w' [n', a'] ∧ n'.b = n.b ∧ a'.b = a.b ∧ n'.ks = n.ks.take i ++ n.ks.drop (i + 1) ∧ n'.vs = n.vs.take i ++ n.vs.drop (i + 1) ∧ n'.ps = n.ps.take (i + 1) ++ n.ps.drop (i + 2) ∧
    a'.ks = a.ks ++ n.ks.getD i undef :: b.ks ∧ a'.vs = a.vs ++ n.vs.getD i undef :: b.vs ∧ a'.ps = a.ps ++ b.ps

set_option maxHeartbeats 16000000 in
set_option maxRecDepth 100000 in
theorem mergeS (L F : List Nat) (w0 w : World) (n a c : RN) (i m q : Nat) (H : Nds TS L F w0 w [n, a, c]) (hm : n.ks.length = m) (hm7 : m ≤ 7) (hv : n.vs.length = m) (hp : n.ps.length = m + 1) (hi : i < m)
    (ha : n.ps[i]? = some (.pointer (some ⟨a.b, 0, none⟩))) (hb : n.ps[i + 1]? = some (.pointer (some ⟨c.b, 0, none⟩))) (a3 : a.ks.length = 3) (a3v : a.vs.length = 3) (b3 : c.ks.length = 3) (b3v : c.vs.length = 3)
    (pa : a.ps.length = q) (pb : c.ps.length = q) (hq : q ≤ 8) :
    Calls Try.prog 115 #[.pointer (some ⟨n.b, 0, none⟩), .int .i64 i] w (MergePostS L F w0 n a c i) := by
  have HN := H.nod n (by simp)
  have HA := H.nod a (by simp)
  have HC := H.nod c (by simp)
  obtain ⟨b, kv, vv, cv, ks, vs, ps⟩ := n
  obtain ⟨ab, akv, avv, acv, aks, avs, aps⟩ := a
  obtain ⟨bb, bkv, bvv, bcv, bks, bvs, bps⟩ := c
  simp only at hm hv hp ha hb a3 a3v b3 b3v pa pb HN HA HC
  obtain ⟨CA, cc, rfl, hcc1, hcc2, hcc3, hcc4⟩ := (show Row w 99 cv ps from HN.cr).formN hp
  obtain ⟨cg, rfl⟩ := hcc4 (by omega)
  obtain ⟨KA, kvc, rfl, hka1, hka2, -, hka4⟩ := (show Row w 9 kv ks from HN.kr).formN hm
  obtain ⟨kg, rfl⟩ := hka4 (by omega)
  obtain ⟨VA, vvc, rfl, hva1, hva2, -, hva4⟩ := (show Row w 9 vv vs from HN.vr).formN hv
  obtain ⟨vg, rfl⟩ := hva4 (by omega)
  obtain ⟨KA1, ac, rfl, hac1, hac2, -, hac4⟩ := (show Row w 9 akv aks from HA.kr).formN a3
  obtain ⟨ak, rfl⟩ := hac4 (by omega)
  obtain ⟨VA1, av, rfl, hav1, hav2, -, hav4⟩ := (show Row w 9 avv avs from HA.vr).formN a3v
  obtain ⟨avg, rfl⟩ := hav4 (by omega)
  obtain ⟨CA1, aq, rfl, haq1, haq2, -, -⟩ := (show Row w 99 acv aps from HA.cr).formN pa
  obtain ⟨KB1, bc, rfl, hbc1, hbc2, -, hbc4⟩ := (show Row w 9 bkv bks from HC.kr).formN b3
  obtain ⟨bk, rfl⟩ := hbc4 (by omega)
  obtain ⟨VB1, bv, rfl, hbv1, hbv2, -, hbv4⟩ := (show Row w 9 bvv bvs from HC.vr).formN b3v
  obtain ⟨bvg, rfl⟩ := hbv4 (by omega)
  obtain ⟨CB1, bq, rfl, hbq1, hbq2, -, -⟩ := (show Row w 99 bcv bps from HC.cr).formN pb
  obtain ⟨k3, hk3⟩ : ∃ u, ks[i]? = some u := ⟨_, List.getElem?_eq_getElem (by omega)⟩
  obtain ⟨v3, hv3⟩ : ∃ u, vs[i]? = some u := ⟨_, List.getElem?_eq_getElem (by omega)⟩
  obtain ⟨s3, rfl⟩ := HN.kS k3 (List.mem_of_getElem? hk3)
  obtain ⟨z3, rfl⟩ := HN.vS v3 (List.mem_of_getElem? hv3)
  obtain ⟨_, e1, hci, -⟩ := hcc3 i _ ha
  cases e1
  obtain ⟨_, e1, hci1, -⟩ := hcc3 (i + 1) _ hb
  cases e1
  have h2 : w.cell? ⟨b, 2, none⟩ = some (.slice (some ⟨cg, 0, none⟩) (m + 1) cc) := HN.blk.cell 2
  have hiz : (i : Int) < (m : Int) + 1 := by omega
  have him : (i : Int) < (m : Int) := by omega
  have hi1z : (i : Int) + 1 < (m : Int) + 1 := by omega
  have hi0 : (0 : Int) ≤ (i : Int) + 1 := by omega
  have hw1 : IntKind.i64.wrap ((i : Int) + 1) = (i : Int) + 1 := by rw [IntKind.wrap_i64]; omega
  have hw2 : IntKind.i64.wrap ((i : Int) + 2) = (i : Int) + 2 := by rw [IntKind.wrap_i64]; omega
  have ht1 : ((i : Int) + 1).toNat = i + 1 := by omega
  have K3 := Lib.hid hk3
  have V3 := Lib.hid hv3
  have OK := Lib.hid (And.intro HN.kS (And.intro HN.vS HN.pS))
  have OA := Lib.hid (And.intro HA.kS (And.intro HA.vS HA.pS))
  have OB := Lib.hid (And.intro HC.kS (And.intro HC.vS HC.pS))
  have E := Lib.hid (And.intro hm (And.intro hv (And.intro hp (And.intro hi hm7))))
  have EQ := Lib.hid hq
  have HH := Lib.hid H
  have LP := Lib.hid (And.intro pa pb)
  have hnA : b ≠ ab := fun h => by
    have h0 := H.sep ab
    simp only [owns_cons, List.count_append, count_own] at h0
    rw [if_pos h] at h0
    simp at h0
    omega
  have hbA : bb ≠ ab := fun h => by
    have h0 := H.sep ab
    simp only [owns_cons, List.count_append, count_own] at h0
    rw [if_pos h] at h0
    simp at h0
    omega
  clear H HN HA HC hcc3 hcc4 hka4 hva4 hac4 hav4 hbc4 hbv4 hk3 hv3 ha hb a3 a3v b3 b3v pa pb hm hv hp hi hm7 hq
  go_enter Try.func115, Try.ntmps115
  go_upto_region 0 with fail
  go_cut [4, 5] from 6 (fun s4 s5 wc => s4 = .pointer (some ⟨ab, 0, none⟩) ∧ s5 = .pointer (some ⟨bb, 0, none⟩) ∧ Hid (Nds TS L F w0 wc [⟨b, .slice (some ⟨kg, 0, none⟩) m kvc, .slice (some ⟨vg, 0, none⟩) m vvc, .slice (some ⟨cg, 0, none⟩) (m + 1) cc, ks, vs, ps⟩, ⟨ab, .slice (some ⟨ak, 0, none⟩) 3 ac, .slice (some ⟨avg, 0, none⟩) 3 av, .slice CA1 q aq, aks, avs, aps⟩, ⟨bb, .slice (some ⟨bk, 0, none⟩) 3 bc, .slice (some ⟨bvg, 0, none⟩) 3 bv, .slice CB1 q bq, bks, bvs, bps⟩]))
  case first =>
    go_quiet (fail)
    go_wp2_with fail
    go_meet
    case rel => exact ⟨rfl, rfl, Lib.hid (HH.out.drewN _)⟩
  case rest =>
    obtain ⟨rfl, rfl, HR⟩ := hcut
    clear hci hci1 h2 HH
    have HRa := Lib.hid (HR.out.perm (List.Perm.swap _ _ _))
    clear HR
    -- K
    go_wp2_with fail
    refine wp_region_noPanic ?_
    refine wp_region_late (fun w' : World => w'.cell? ⟨ab, 0, none⟩ = some (.slice (some ⟨ak, 0, none⟩) 3 ac) ∧ w'.cell? ⟨b, 0, none⟩ = some (.slice (some ⟨kg, 0, none⟩) m kvc) ∧ w'.cell? ⟨kg, i, none⟩ = some (Value.string s3) ∧ w'.cell? ⟨bb, 0, none⟩ = some (.slice (some ⟨bk, 0, none⟩) 3 bc)) [21] (by kernel_rfl) ?_
    have n1 := Lib.hid (HRa.out.nod ⟨b, .slice (some ⟨kg, 0, none⟩) m kvc, .slice (some ⟨vg, 0, none⟩) m vvc, .slice (some ⟨cg, 0, none⟩) (m + 1) cc, ks, vs, ps⟩ (by simp))
    have a1 := Lib.hid (HRa.out.nod ⟨ab, .slice (some ⟨ak, 0, none⟩) 3 ac, .slice (some ⟨avg, 0, none⟩) 3 av, .slice CA1 q aq, aks, avs, aps⟩ (by simp))
    have b1 := Lib.hid (HRa.out.nod ⟨bb, .slice (some ⟨bk, 0, none⟩) 3 bc, .slice (some ⟨bvg, 0, none⟩) 3 bv, .slice CB1 q bq, bks, bvs, bps⟩ (by simp))
    have hS0 : (fun w' : World => w'.cell? ⟨ab, 0, none⟩ = some (.slice (some ⟨ak, 0, none⟩) 3 ac) ∧ w'.cell? ⟨b, 0, none⟩ = some (.slice (some ⟨kg, 0, none⟩) m kvc) ∧ w'.cell? ⟨kg, i, none⟩ = some (Value.string s3) ∧ w'.cell? ⟨bb, 0, none⟩ = some (.slice (some ⟨bk, 0, none⟩) 3 bc)) wc.drew := ⟨a1.out.blk.cell 0, n1.out.blk.cell 0, n1.out.kcell K3.out, b1.out.blk.cell 0⟩
    refine wpAnyL_take 0 21 (v := ?_) rfl rfl (by kernel_rfl) (by kernel_rfl) (by kernel_rfl) (by kernel_rfl) (fun _ _ _ h => h) (by rfl) ?_ hS0 ?_
    rotate_left
    · (intro w' hSw; obtain ⟨s1, s2, s3, s4⟩ := hSw; go_simp; try with_reducible rfl)
    simp only [List.setIfInBounds_toArray, List.set_cons_zero, List.set_cons_succ]
    refine wpAnyL_take 1 22 (v := ?_) rfl rfl (by kernel_rfl) (by kernel_rfl) (by kernel_rfl) (by kernel_rfl) (fun _ _ _ h => h) (by rfl) ?_ hS0 ?_
    rotate_left
    · (intro w' hSw; obtain ⟨s1, s2, s3, s4⟩ := hSw; go_simp; try with_reducible rfl)
    simp only [List.setIfInBounds_toArray, List.set_cons_zero, List.set_cons_succ]
    refine wpAnyL_take 2 23 (v := ?_) rfl rfl (by kernel_rfl) (by kernel_rfl) (by kernel_rfl) (by kernel_rfl) (fun _ _ _ h => h) (by rfl) ?_ hS0 ?_
    rotate_left
    · (intro w' hSw; obtain ⟨s1, s2, s3, s4⟩ := hSw; go_simp; try with_reducible rfl)
    simp only [List.setIfInBounds_toArray, List.set_cons_zero, List.set_cons_succ]
    refine wpAnyL_take 3 24 (v := ?_) rfl rfl (by kernel_rfl) (by kernel_rfl) (by kernel_rfl) (by kernel_rfl) (fun _ _ _ h => h) (by rfl) ?_ hS0 ?_
    rotate_left
    · (intro w' hSw; obtain ⟨s1, s2, s3, s4⟩ := hSw; go_simp; try with_reducible rfl)
    simp only [List.setIfInBounds_toArray, List.set_cons_zero, List.set_cons_succ]
    refine wpAnyL_take 4 25 (v := ?_) rfl rfl (by kernel_rfl) (by kernel_rfl) (by kernel_rfl) (by kernel_rfl) (fun _ _ _ h => h) (by rfl) ?_ hS0 ?_
    rotate_left
    · (intro w' hSw; obtain ⟨s1, s2, s3, s4⟩ := hSw; go_simp; try with_reducible rfl)
    simp only [List.setIfInBounds_toArray, List.set_cons_zero, List.set_cons_succ]
    refine wpAnyL_take 5 26 (v := ?_) rfl rfl (by kernel_rfl) (by kernel_rfl) (by kernel_rfl) (by kernel_rfl) (fun _ _ _ h => h) (by rfl) ?_ hS0 ?_
    rotate_left
    · (intro w' hSw; obtain ⟨s1, s2, s3, s4⟩ := hSw; go_simp; try with_reducible rfl)
    simp only [List.setIfInBounds_toArray, List.set_cons_zero, List.set_cons_succ]
    refine wpAnyL_take 6 27 (v := ?_) rfl rfl (by kernel_rfl) (by kernel_rfl) (by kernel_rfl) (by kernel_rfl) (fun _ _ _ h => h) (by rfl) ?_ hS0 ?_
    rotate_left
    · (intro w' hSw; obtain ⟨s1, s2, s3, s4⟩ := hSw; go_simp; try with_reducible rfl)
    simp only [List.setIfInBounds_toArray, List.set_cons_zero, List.set_cons_succ]
    refine wpAnyL_take 7 28 (v := ?_) rfl rfl (by kernel_rfl) (by kernel_rfl) (by kernel_rfl) (by kernel_rfl) (fun _ _ _ h => h) (by rfl) ?_ hS0 ?_
    rotate_left
    · (intro w' hSw; obtain ⟨s1, s2, s3, s4⟩ := hSw; go_simp; try with_reducible rfl)
    simp only [List.setIfInBounds_toArray, List.set_cons_zero, List.set_cons_succ]
    refine wpAnyL_take 8 29 (v := ?_) rfl rfl (by kernel_rfl) (by kernel_rfl) (by kernel_rfl) (by kernel_rfl) (fun _ _ _ h => h) (by rfl) ?_ hS0 ?_
    rotate_left
    · (intro w' hSw; obtain ⟨s1, s2, s3, s4⟩ := hSw; go_simp; try with_reducible rfl)
    simp only [List.setIfInBounds_toArray, List.set_cons_zero, List.set_cons_succ]
    refine wpAnyL_take 9 30 (v := ?_) rfl rfl (by kernel_rfl) (by kernel_rfl) (by kernel_rfl) (by kernel_rfl) (fun _ _ _ h => h) (by rfl) ?_ hS0 ?_
    rotate_left
    · (intro w' hSw; obtain ⟨s1, s2, s3, s4⟩ := hSw; go_simp; try with_reducible rfl)
    simp only [List.setIfInBounds_toArray, List.set_cons_zero, List.set_cons_succ]
    refine wpAnyL_take 10 31 (v := ?_) rfl rfl (by kernel_rfl) (by kernel_rfl) (by kernel_rfl) (by kernel_rfl) (fun _ _ _ h => h) (by rfl) ?_ hS0 ?_
    rotate_left
    · (intro w' hSw; obtain ⟨s1, s2, s3, s4⟩ := hSw; go_simp; try with_reducible rfl)
    simp only [List.setIfInBounds_toArray, List.set_cons_zero, List.set_cons_succ]
    refine wpAnyL_take 11 32 (v := ?_) rfl rfl (by kernel_rfl) (by kernel_rfl) (by kernel_rfl) (by kernel_rfl) (fun _ _ _ h => h) (by rfl) ?_ hS0 ?_
    rotate_left
    · (intro w' hSw; obtain ⟨s1, s2, s3, s4⟩ := hSw; go_simp; try with_reducible rfl)
    simp only [List.setIfInBounds_toArray, List.set_cons_zero, List.set_cons_succ]
    refine wpAnyL_take 14 35 (v := ?_) rfl rfl (by kernel_rfl) (by kernel_rfl) (by kernel_rfl) (by kernel_rfl) (fun _ _ _ h => h) (by rfl) ?_ hS0 ?_
    rotate_left
    · (intro w' hSw; obtain ⟨s1, s2, s3, s4⟩ := hSw; go_simp; try with_reducible rfl)
    simp only [List.setIfInBounds_toArray, List.set_cons_zero, List.set_cons_succ]
    refine wpAnyL_take 15 36 (v := ?_) rfl rfl (by kernel_rfl) (by kernel_rfl) (by kernel_rfl) (by kernel_rfl) (fun _ _ _ h => h) (by rfl) ?_ hS0 ?_
    rotate_left
    · (intro w' hSw; obtain ⟨s1, s2, s3, s4⟩ := hSw; go_simp; try with_reducible rfl)
    simp only [List.setIfInBounds_toArray, List.set_cons_zero, List.set_cons_succ]
    refine wpAnyL_take 16 37 (v := ?_) rfl rfl (by kernel_rfl) (by kernel_rfl) (by kernel_rfl) (by kernel_rfl) (fun _ _ _ h => h) (by rfl) ?_ hS0 ?_
    rotate_left
    · (intro w' hSw; obtain ⟨s1, s2, s3, s4⟩ := hSw; go_simp; try with_reducible rfl)
    simp only [List.setIfInBounds_toArray, List.set_cons_zero, List.set_cons_succ]
    refine wpAnyL_take 17 38 (v := ?_) rfl rfl (by kernel_rfl) (by kernel_rfl) (by kernel_rfl) (by kernel_rfl) (fun _ _ _ h => h) (by rfl) ?_ hS0 ?_
    rotate_left
    · (intro w' hSw; obtain ⟨s1, s2, s3, s4⟩ := hSw; go_simp; try with_reducible rfl)
    simp only [List.setIfInBounds_toArray, List.set_cons_zero, List.set_cons_succ]
    have HRb := Lib.hid (HRa.out.drew.alloc (.cells #[Value.string s3] 9))
    have n2 := Lib.hid (HRb.out.nod ⟨b, .slice (some ⟨kg, 0, none⟩) m kvc, .slice (some ⟨vg, 0, none⟩) m vvc, .slice (some ⟨cg, 0, none⟩) (m + 1) cc, ks, vs, ps⟩ (by simp))
    have a2 := Lib.hid (HRb.out.nod ⟨ab, .slice (some ⟨ak, 0, none⟩) 3 ac, .slice (some ⟨avg, 0, none⟩) 3 av, .slice CA1 q aq, aks, avs, aps⟩ (by simp))
    have b2 := Lib.hid (HRb.out.nod ⟨bb, .slice (some ⟨bk, 0, none⟩) 3 bc, .slice (some ⟨bvg, 0, none⟩) 3 bv, .slice CB1 q bq, bks, bvs, bps⟩ (by simp))
    have hS1 : (fun w' : World => w'.cell? ⟨ab, 0, none⟩ = some (.slice (some ⟨ak, 0, none⟩) 3 ac) ∧ w'.cell? ⟨b, 0, none⟩ = some (.slice (some ⟨kg, 0, none⟩) m kvc) ∧ w'.cell? ⟨kg, i, none⟩ = some (Value.string s3) ∧ w'.cell? ⟨bb, 0, none⟩ = some (.slice (some ⟨bk, 0, none⟩) 3 bc)) (wc.drew.alloc (.cells #[Value.string s3] 9)) := ⟨a2.out.blk.cell 0, n2.out.blk.cell 0, n2.out.kcell K3.out, b2.out.blk.cell 0⟩
    refine wpAnyL_val 12 33 (v := .slice (some ⟨wc.heap.size, 0, none⟩) 1 1) (w' := (wc.drew.alloc (.cells #[Value.string s3] 9))) rfl rfl (by kernel_rfl) (by rfl) (by go_simp; try rfl) (.inr hS1) ?_
    simp only [List.setIfInBounds_toArray, List.set_cons_zero, List.set_cons_succ]
    have one1 : ∀ u ∈ [Value.string s3], u.oneCell' = true := fun u hu => by rw [List.mem_singleton.1 hu]; rfl
    obtain ⟨A1, q1, W1, hr1, row1, chg1, own1⟩ := run_append_N (P := Try.prog) slTyS 37 (show Row (wc.drew.alloc (.cells #[Value.string s3] 9)) 9 (.slice (some ⟨ak, 0, none⟩) 3 ac) aks from a2.out.kr) (Row.new1 wc.drew 9 (Value.string s3)) one1 (by omega)
    have hmid := Lib.hid (Nds.mid HRb.out (v := .slice (some ⟨ak, 0, none⟩) 3 ac) (.inl rfl) chg1)
    have n3 : NodR TS W1 ⟨b, .slice (some ⟨kg, 0, none⟩) m kvc, .slice (some ⟨vg, 0, none⟩) m vvc, .slice (some ⟨cg, 0, none⟩) (m + 1) cc, ks, vs, ps⟩ := hmid.out.2 _ (by simp)
    have b3 : NodR TS W1 ⟨bb, .slice (some ⟨bk, 0, none⟩) 3 bc, .slice (some ⟨bvg, 0, none⟩) 3 bv, .slice CB1 q bq, bks, bvs, bps⟩ := hmid.out.2 _ (by simp)
    have hS2 : (fun w' : World => w'.cell? ⟨ab, 0, none⟩ = some (.slice (some ⟨ak, 0, none⟩) 3 ac) ∧ w'.cell? ⟨b, 0, none⟩ = some (.slice (some ⟨kg, 0, none⟩) m kvc) ∧ w'.cell? ⟨kg, i, none⟩ = some (Value.string s3) ∧ w'.cell? ⟨bb, 0, none⟩ = some (.slice (some ⟨bk, 0, none⟩) 3 bc)) W1 := ⟨hmid.out.1.cell 0, n3.blk.cell 0, n3.kcell K3.out, b3.blk.cell 0⟩
    refine wpAnyL_val 13 34 (v := .slice A1 (3 + 1) q1) (w' := W1) rfl rfl (by kernel_rfl) (by rfl) (run_append_op (.tmp 25) (.tmp 33) 37 37 rfl rfl rfl hr1) (.inr hS2) ?_
    simp only [List.setIfInBounds_toArray, List.set_cons_zero, List.set_cons_succ]
    obtain ⟨A2, q2, W2, hr2, row2, chg2, own2⟩ := run_append_N (P := Try.prog) slTyS 37 row1 (show Row W1 9 (.slice (some ⟨bk, 0, none⟩) 3 bc) bks from b3.kr) (StrV.one OB.out.1) (by omega)
    have chg3 := chg1.own2 chg2 own1
    have own3 := own1.trans own2 chg1.size
    have hmid2 := Lib.hid (Nds.mid HRb.out (v := .slice (some ⟨ak, 0, none⟩) 3 ac) (.inl rfl) chg3)
    have n4 : NodR TS W2 ⟨b, .slice (some ⟨kg, 0, none⟩) m kvc, .slice (some ⟨vg, 0, none⟩) m vvc, .slice (some ⟨cg, 0, none⟩) (m + 1) cc, ks, vs, ps⟩ := hmid2.out.2 _ (by simp)
    have b4 : NodR TS W2 ⟨bb, .slice (some ⟨bk, 0, none⟩) 3 bc, .slice (some ⟨bvg, 0, none⟩) 3 bv, .slice CB1 q bq, bks, bvs, bps⟩ := hmid2.out.2 _ (by simp)
    have hS3 : (fun w' : World => w'.cell? ⟨ab, 0, none⟩ = some (.slice (some ⟨ak, 0, none⟩) 3 ac) ∧ w'.cell? ⟨b, 0, none⟩ = some (.slice (some ⟨kg, 0, none⟩) m kvc) ∧ w'.cell? ⟨kg, i, none⟩ = some (Value.string s3) ∧ w'.cell? ⟨bb, 0, none⟩ = some (.slice (some ⟨bk, 0, none⟩) 3 bc)) W2 := ⟨hmid2.out.1.cell 0, n4.blk.cell 0, n4.kcell K3.out, b4.blk.cell 0⟩
    refine wpAnyL_val 18 39 (v := .slice A2 (3 + 1 + 3) q2) (w' := W2) rfl rfl (by kernel_rfl) (by rfl) (run_append_op (.tmp 34) (.tmp 38) 37 37 rfl rfl rfl hr2) (.inr hS3) ?_
    simp only [List.setIfInBounds_toArray, List.set_cons_zero, List.set_cons_succ]
    refine wpAnyL_val 19 40 (v := .pointer (some ⟨ab, 0, none⟩)) (w' := W2) rfl rfl (by kernel_rfl) (by rfl) (by go_simp; try rfl) (.inr hS3) ?_
    simp only [List.setIfInBounds_toArray, List.set_cons_zero, List.set_cons_succ]
    refine wpAnyL_val 20 41 (v := .pointer (some ⟨ab, 0, none⟩)) (w' := W2) rfl rfl (by kernel_rfl) (by rfl) (by go_simp; try rfl) (.inr hS3) ?_
    simp only [List.setIfInBounds_toArray, List.set_cons_zero, List.set_cons_succ]
    have ok6 : ∀ u ∈ (aks ++ [Value.string s3]) ++ bks, StrV u := fun u hu => by
      rcases List.mem_append.1 hu with hu | hu
      · rcases List.mem_append.1 hu with hu | hu
        · exact OA.out.1 u hu
        · obtain rfl : u = Value.string s3 := by simpa using hu
          exact ⟨_, rfl⟩
      · exact OB.out.1 u hu
    have h6 := Nds.slotK HRb.out chg3 row2 ok6 own3
    have HRc := Lib.hid h6
    have hc4 : W2.cell? ⟨ab, 0, none⟩ = some (.slice (some ⟨ak, 0, none⟩) 3 ac) := hmid2.out.1.cell 0
    have hf4 : W2.frozen? ⟨ab, 0, none⟩ = false := hmid2.out.1.frozen 0
    clear h6 ok6 hr1 hr2 row1 row2 chg1 chg2 chg3 own1 own2 own3 hmid hmid2 n3 b3 n4 b4
    refine wpAnyL_skip 21 (w' := W2.setCell ⟨ab, 0, none⟩ (.slice A2 (3 + 1 + 3) q2)) rfl rfl (by kernel_rfl) (by rfl) (by go_simp; try rfl) (.inl (by simp)) ?_
    refine wpAnyL_done (by kernel_rfl) ?_ _
    refine NoPanic.normal ?_
    generalize W2.setCell ⟨ab, 0, none⟩ (.slice A2 (3 + 1 + 3) q2) = W3 at *
    clear hS0 hS1 hS2 hS3 hc4 hf4 HRa HRb n1 a1 b1 n2 a2 b2
    have HRa := HRc
    clear HRc
    obtain ⟨A2K, hA2⟩ : ∃ A, A = A2 := ⟨_, rfl⟩
    obtain ⟨q2K, hq2⟩ : ∃ q, q = q2 := ⟨_, rfl⟩
    rw [← hA2, ← hq2] at HRa
    clear hA2 hq2
    -- V
    go_wp2_with fail
    refine wp_region_noPanic ?_
    refine wp_region_late (fun w' : World => w'.cell? ⟨ab, 1, none⟩ = some (.slice (some ⟨avg, 0, none⟩) 3 av) ∧ w'.cell? ⟨b, 1, none⟩ = some (.slice (some ⟨vg, 0, none⟩) m vvc) ∧ w'.cell? ⟨vg, i, none⟩ = some (Value.string z3) ∧ w'.cell? ⟨bb, 1, none⟩ = some (.slice (some ⟨bvg, 0, none⟩) 3 bv)) [21] (by kernel_rfl) ?_
    have n1 := Lib.hid (HRa.out.nod ⟨b, .slice (some ⟨kg, 0, none⟩) m kvc, .slice (some ⟨vg, 0, none⟩) m vvc, .slice (some ⟨cg, 0, none⟩) (m + 1) cc, ks, vs, ps⟩ (by simp))
    have a1 := Lib.hid (HRa.out.nod ⟨ab, .slice A2K (3 + 1 + 3) q2K, .slice (some ⟨avg, 0, none⟩) 3 av, .slice CA1 q aq, (aks ++ [Value.string s3]) ++ bks, avs, aps⟩ (by simp))
    have b1 := Lib.hid (HRa.out.nod ⟨bb, .slice (some ⟨bk, 0, none⟩) 3 bc, .slice (some ⟨bvg, 0, none⟩) 3 bv, .slice CB1 q bq, bks, bvs, bps⟩ (by simp))
    have hS0 : (fun w' : World => w'.cell? ⟨ab, 1, none⟩ = some (.slice (some ⟨avg, 0, none⟩) 3 av) ∧ w'.cell? ⟨b, 1, none⟩ = some (.slice (some ⟨vg, 0, none⟩) m vvc) ∧ w'.cell? ⟨vg, i, none⟩ = some (Value.string z3) ∧ w'.cell? ⟨bb, 1, none⟩ = some (.slice (some ⟨bvg, 0, none⟩) 3 bv)) W3.drew := ⟨a1.out.blk.cell 1, n1.out.blk.cell 1, n1.out.vcell V3.out, b1.out.blk.cell 1⟩
    refine wpAnyL_take 0 42 (v := ?_) rfl rfl (by kernel_rfl) (by kernel_rfl) (by kernel_rfl) (by kernel_rfl) (fun _ _ _ h => h) (by rfl) ?_ hS0 ?_
    rotate_left
    · (intro w' hSw; obtain ⟨s1, s2, s3, s4⟩ := hSw; go_simp; try with_reducible rfl)
    simp only [List.setIfInBounds_toArray, List.set_cons_zero, List.set_cons_succ]
    refine wpAnyL_take 1 43 (v := ?_) rfl rfl (by kernel_rfl) (by kernel_rfl) (by kernel_rfl) (by kernel_rfl) (fun _ _ _ h => h) (by rfl) ?_ hS0 ?_
    rotate_left
    · (intro w' hSw; obtain ⟨s1, s2, s3, s4⟩ := hSw; go_simp; try with_reducible rfl)
    simp only [List.setIfInBounds_toArray, List.set_cons_zero, List.set_cons_succ]
    refine wpAnyL_take 2 44 (v := ?_) rfl rfl (by kernel_rfl) (by kernel_rfl) (by kernel_rfl) (by kernel_rfl) (fun _ _ _ h => h) (by rfl) ?_ hS0 ?_
    rotate_left
    · (intro w' hSw; obtain ⟨s1, s2, s3, s4⟩ := hSw; go_simp; try with_reducible rfl)
    simp only [List.setIfInBounds_toArray, List.set_cons_zero, List.set_cons_succ]
    refine wpAnyL_take 3 45 (v := ?_) rfl rfl (by kernel_rfl) (by kernel_rfl) (by kernel_rfl) (by kernel_rfl) (fun _ _ _ h => h) (by rfl) ?_ hS0 ?_
    rotate_left
    · (intro w' hSw; obtain ⟨s1, s2, s3, s4⟩ := hSw; go_simp; try with_reducible rfl)
    simp only [List.setIfInBounds_toArray, List.set_cons_zero, List.set_cons_succ]
    refine wpAnyL_take 4 46 (v := ?_) rfl rfl (by kernel_rfl) (by kernel_rfl) (by kernel_rfl) (by kernel_rfl) (fun _ _ _ h => h) (by rfl) ?_ hS0 ?_
    rotate_left
    · (intro w' hSw; obtain ⟨s1, s2, s3, s4⟩ := hSw; go_simp; try with_reducible rfl)
    simp only [List.setIfInBounds_toArray, List.set_cons_zero, List.set_cons_succ]
    refine wpAnyL_take 5 47 (v := ?_) rfl rfl (by kernel_rfl) (by kernel_rfl) (by kernel_rfl) (by kernel_rfl) (fun _ _ _ h => h) (by rfl) ?_ hS0 ?_
    rotate_left
    · (intro w' hSw; obtain ⟨s1, s2, s3, s4⟩ := hSw; go_simp; try with_reducible rfl)
    simp only [List.setIfInBounds_toArray, List.set_cons_zero, List.set_cons_succ]
    refine wpAnyL_take 6 48 (v := ?_) rfl rfl (by kernel_rfl) (by kernel_rfl) (by kernel_rfl) (by kernel_rfl) (fun _ _ _ h => h) (by rfl) ?_ hS0 ?_
    rotate_left
    · (intro w' hSw; obtain ⟨s1, s2, s3, s4⟩ := hSw; go_simp; try with_reducible rfl)
    simp only [List.setIfInBounds_toArray, List.set_cons_zero, List.set_cons_succ]
    refine wpAnyL_take 7 49 (v := ?_) rfl rfl (by kernel_rfl) (by kernel_rfl) (by kernel_rfl) (by kernel_rfl) (fun _ _ _ h => h) (by rfl) ?_ hS0 ?_
    rotate_left
    · (intro w' hSw; obtain ⟨s1, s2, s3, s4⟩ := hSw; go_simp; try with_reducible rfl)
    simp only [List.setIfInBounds_toArray, List.set_cons_zero, List.set_cons_succ]
    refine wpAnyL_take 8 50 (v := ?_) rfl rfl (by kernel_rfl) (by kernel_rfl) (by kernel_rfl) (by kernel_rfl) (fun _ _ _ h => h) (by rfl) ?_ hS0 ?_
    rotate_left
    · (intro w' hSw; obtain ⟨s1, s2, s3, s4⟩ := hSw; go_simp; try with_reducible rfl)
    simp only [List.setIfInBounds_toArray, List.set_cons_zero, List.set_cons_succ]
    refine wpAnyL_take 9 51 (v := ?_) rfl rfl (by kernel_rfl) (by kernel_rfl) (by kernel_rfl) (by kernel_rfl) (fun _ _ _ h => h) (by rfl) ?_ hS0 ?_
    rotate_left
    · (intro w' hSw; obtain ⟨s1, s2, s3, s4⟩ := hSw; go_simp; try with_reducible rfl)
    simp only [List.setIfInBounds_toArray, List.set_cons_zero, List.set_cons_succ]
    refine wpAnyL_take 10 52 (v := ?_) rfl rfl (by kernel_rfl) (by kernel_rfl) (by kernel_rfl) (by kernel_rfl) (fun _ _ _ h => h) (by rfl) ?_ hS0 ?_
    rotate_left
    · (intro w' hSw; obtain ⟨s1, s2, s3, s4⟩ := hSw; go_simp; try with_reducible rfl)
    simp only [List.setIfInBounds_toArray, List.set_cons_zero, List.set_cons_succ]
    refine wpAnyL_take 11 53 (v := ?_) rfl rfl (by kernel_rfl) (by kernel_rfl) (by kernel_rfl) (by kernel_rfl) (fun _ _ _ h => h) (by rfl) ?_ hS0 ?_
    rotate_left
    · (intro w' hSw; obtain ⟨s1, s2, s3, s4⟩ := hSw; go_simp; try with_reducible rfl)
    simp only [List.setIfInBounds_toArray, List.set_cons_zero, List.set_cons_succ]
    refine wpAnyL_take 14 56 (v := ?_) rfl rfl (by kernel_rfl) (by kernel_rfl) (by kernel_rfl) (by kernel_rfl) (fun _ _ _ h => h) (by rfl) ?_ hS0 ?_
    rotate_left
    · (intro w' hSw; obtain ⟨s1, s2, s3, s4⟩ := hSw; go_simp; try with_reducible rfl)
    simp only [List.setIfInBounds_toArray, List.set_cons_zero, List.set_cons_succ]
    refine wpAnyL_take 15 57 (v := ?_) rfl rfl (by kernel_rfl) (by kernel_rfl) (by kernel_rfl) (by kernel_rfl) (fun _ _ _ h => h) (by rfl) ?_ hS0 ?_
    rotate_left
    · (intro w' hSw; obtain ⟨s1, s2, s3, s4⟩ := hSw; go_simp; try with_reducible rfl)
    simp only [List.setIfInBounds_toArray, List.set_cons_zero, List.set_cons_succ]
    refine wpAnyL_take 16 58 (v := ?_) rfl rfl (by kernel_rfl) (by kernel_rfl) (by kernel_rfl) (by kernel_rfl) (fun _ _ _ h => h) (by rfl) ?_ hS0 ?_
    rotate_left
    · (intro w' hSw; obtain ⟨s1, s2, s3, s4⟩ := hSw; go_simp; try with_reducible rfl)
    simp only [List.setIfInBounds_toArray, List.set_cons_zero, List.set_cons_succ]
    refine wpAnyL_take 17 59 (v := ?_) rfl rfl (by kernel_rfl) (by kernel_rfl) (by kernel_rfl) (by kernel_rfl) (fun _ _ _ h => h) (by rfl) ?_ hS0 ?_
    rotate_left
    · (intro w' hSw; obtain ⟨s1, s2, s3, s4⟩ := hSw; go_simp; try with_reducible rfl)
    simp only [List.setIfInBounds_toArray, List.set_cons_zero, List.set_cons_succ]
    have HRb := Lib.hid (HRa.out.drew.alloc (.cells #[Value.string z3] 9))
    have n2 := Lib.hid (HRb.out.nod ⟨b, .slice (some ⟨kg, 0, none⟩) m kvc, .slice (some ⟨vg, 0, none⟩) m vvc, .slice (some ⟨cg, 0, none⟩) (m + 1) cc, ks, vs, ps⟩ (by simp))
    have a2 := Lib.hid (HRb.out.nod ⟨ab, .slice A2K (3 + 1 + 3) q2K, .slice (some ⟨avg, 0, none⟩) 3 av, .slice CA1 q aq, (aks ++ [Value.string s3]) ++ bks, avs, aps⟩ (by simp))
    have b2 := Lib.hid (HRb.out.nod ⟨bb, .slice (some ⟨bk, 0, none⟩) 3 bc, .slice (some ⟨bvg, 0, none⟩) 3 bv, .slice CB1 q bq, bks, bvs, bps⟩ (by simp))
    have hS1 : (fun w' : World => w'.cell? ⟨ab, 1, none⟩ = some (.slice (some ⟨avg, 0, none⟩) 3 av) ∧ w'.cell? ⟨b, 1, none⟩ = some (.slice (some ⟨vg, 0, none⟩) m vvc) ∧ w'.cell? ⟨vg, i, none⟩ = some (Value.string z3) ∧ w'.cell? ⟨bb, 1, none⟩ = some (.slice (some ⟨bvg, 0, none⟩) 3 bv)) (W3.drew.alloc (.cells #[Value.string z3] 9)) := ⟨a2.out.blk.cell 1, n2.out.blk.cell 1, n2.out.vcell V3.out, b2.out.blk.cell 1⟩
    refine wpAnyL_val 12 54 (v := .slice (some ⟨W3.heap.size, 0, none⟩) 1 1) (w' := (W3.drew.alloc (.cells #[Value.string z3] 9))) rfl rfl (by kernel_rfl) (by rfl) (by go_simp; try rfl) (.inr hS1) ?_
    simp only [List.setIfInBounds_toArray, List.set_cons_zero, List.set_cons_succ]
    have one1 : ∀ u ∈ [Value.string z3], u.oneCell' = true := fun u hu => by rw [List.mem_singleton.1 hu]; rfl
    obtain ⟨A1, q1, W1, hr1, row1, chg1, own1⟩ := run_append_N (P := Try.prog) slTyS 37 (show Row (W3.drew.alloc (.cells #[Value.string z3] 9)) 9 (.slice (some ⟨avg, 0, none⟩) 3 av) avs from a2.out.vr) (Row.new1 W3.drew 9 (Value.string z3)) one1 (by omega)
    have hmid := Lib.hid (Nds.mid HRb.out (v := .slice (some ⟨avg, 0, none⟩) 3 av) (.inr (.inl rfl)) chg1)
    have n3 : NodR TS W1 ⟨b, .slice (some ⟨kg, 0, none⟩) m kvc, .slice (some ⟨vg, 0, none⟩) m vvc, .slice (some ⟨cg, 0, none⟩) (m + 1) cc, ks, vs, ps⟩ := hmid.out.2 _ (by simp)
    have b3 : NodR TS W1 ⟨bb, .slice (some ⟨bk, 0, none⟩) 3 bc, .slice (some ⟨bvg, 0, none⟩) 3 bv, .slice CB1 q bq, bks, bvs, bps⟩ := hmid.out.2 _ (by simp)
    have hS2 : (fun w' : World => w'.cell? ⟨ab, 1, none⟩ = some (.slice (some ⟨avg, 0, none⟩) 3 av) ∧ w'.cell? ⟨b, 1, none⟩ = some (.slice (some ⟨vg, 0, none⟩) m vvc) ∧ w'.cell? ⟨vg, i, none⟩ = some (Value.string z3) ∧ w'.cell? ⟨bb, 1, none⟩ = some (.slice (some ⟨bvg, 0, none⟩) 3 bv)) W1 := ⟨hmid.out.1.cell 1, n3.blk.cell 1, n3.vcell V3.out, b3.blk.cell 1⟩
    refine wpAnyL_val 13 55 (v := .slice A1 (3 + 1) q1) (w' := W1) rfl rfl (by kernel_rfl) (by rfl) (run_append_op (.tmp 46) (.tmp 54) 37 37 rfl rfl rfl hr1) (.inr hS2) ?_
    simp only [List.setIfInBounds_toArray, List.set_cons_zero, List.set_cons_succ]
    obtain ⟨A2, q2, W2, hr2, row2, chg2, own2⟩ := run_append_N (P := Try.prog) slTyS 37 row1 (show Row W1 9 (.slice (some ⟨bvg, 0, none⟩) 3 bv) bvs from b3.vr) (StrV.one OB.out.2.1) (by omega)
    have chg3 := chg1.own2 chg2 own1
    have own3 := own1.trans own2 chg1.size
    have hmid2 := Lib.hid (Nds.mid HRb.out (v := .slice (some ⟨avg, 0, none⟩) 3 av) (.inr (.inl rfl)) chg3)
    have n4 : NodR TS W2 ⟨b, .slice (some ⟨kg, 0, none⟩) m kvc, .slice (some ⟨vg, 0, none⟩) m vvc, .slice (some ⟨cg, 0, none⟩) (m + 1) cc, ks, vs, ps⟩ := hmid2.out.2 _ (by simp)
    have b4 : NodR TS W2 ⟨bb, .slice (some ⟨bk, 0, none⟩) 3 bc, .slice (some ⟨bvg, 0, none⟩) 3 bv, .slice CB1 q bq, bks, bvs, bps⟩ := hmid2.out.2 _ (by simp)
    have hS3 : (fun w' : World => w'.cell? ⟨ab, 1, none⟩ = some (.slice (some ⟨avg, 0, none⟩) 3 av) ∧ w'.cell? ⟨b, 1, none⟩ = some (.slice (some ⟨vg, 0, none⟩) m vvc) ∧ w'.cell? ⟨vg, i, none⟩ = some (Value.string z3) ∧ w'.cell? ⟨bb, 1, none⟩ = some (.slice (some ⟨bvg, 0, none⟩) 3 bv)) W2 := ⟨hmid2.out.1.cell 1, n4.blk.cell 1, n4.vcell V3.out, b4.blk.cell 1⟩
    refine wpAnyL_val 18 60 (v := .slice A2 (3 + 1 + 3) q2) (w' := W2) rfl rfl (by kernel_rfl) (by rfl) (run_append_op (.tmp 55) (.tmp 59) 37 37 rfl rfl rfl hr2) (.inr hS3) ?_
    simp only [List.setIfInBounds_toArray, List.set_cons_zero, List.set_cons_succ]
    refine wpAnyL_val 19 61 (v := .pointer (some ⟨ab, 0, none⟩)) (w' := W2) rfl rfl (by kernel_rfl) (by rfl) (by go_simp; try rfl) (.inr hS3) ?_
    simp only [List.setIfInBounds_toArray, List.set_cons_zero, List.set_cons_succ]
    refine wpAnyL_val 20 62 (v := .pointer (some ⟨ab, 1, none⟩)) (w' := W2) rfl rfl (by kernel_rfl) (by rfl) (by go_simp; try rfl) (.inr hS3) ?_
    simp only [List.setIfInBounds_toArray, List.set_cons_zero, List.set_cons_succ]
    have ok6 : ∀ u ∈ (avs ++ [Value.string z3]) ++ bvs, StrV u := fun u hu => by
      rcases List.mem_append.1 hu with hu | hu
      · rcases List.mem_append.1 hu with hu | hu
        · exact OA.out.2.1 u hu
        · obtain rfl : u = Value.string z3 := by simpa using hu
          exact ⟨z3, rfl⟩
      · exact OB.out.2.1 u hu
    have h6 := Nds.slotV HRb.out chg3 row2 ok6 own3
    have HRc := Lib.hid h6
    have hc4 : W2.cell? ⟨ab, 1, none⟩ = some (.slice (some ⟨avg, 0, none⟩) 3 av) := hmid2.out.1.cell 1
    have hf4 : W2.frozen? ⟨ab, 1, none⟩ = false := hmid2.out.1.frozen 1
    clear h6 ok6 hr1 hr2 row1 row2 chg1 chg2 chg3 own1 own2 own3 hmid hmid2 n3 b3 n4 b4
    refine wpAnyL_skip 21 (w' := W2.setCell ⟨ab, 1, none⟩ (.slice A2 (3 + 1 + 3) q2)) rfl rfl (by kernel_rfl) (by rfl) (by go_simp; try rfl) (.inl (by simp)) ?_
    refine wpAnyL_done (by kernel_rfl) ?_ _
    refine NoPanic.normal ?_
    generalize W2.setCell ⟨ab, 1, none⟩ (.slice A2 (3 + 1 + 3) q2) = W4 at *
    clear hS0 hS1 hS2 hS3 hc4 hf4 HRa HRb n1 a1 b1 n2 a2 b2
    have HRa := HRc
    clear HRc
    obtain ⟨A2V, hA2⟩ : ∃ A, A = A2 := ⟨_, rfl⟩
    obtain ⟨q2V, hq2⟩ : ∃ q, q = q2 := ⟨_, rfl⟩
    rw [← hA2, ← hq2] at HRa
    clear hA2 hq2
    -- the children
    go_wp2_with fail
    refine wp_region_noPanic ?_
    refine wp_region_late (fun w' : World => w'.cell? ⟨ab, 2, none⟩ = some (.slice CA1 q aq) ∧ w'.cell? ⟨bb, 2, none⟩ = some (.slice CB1 q bq)) [12] (by kernel_rfl) ?_
    have a1 := Lib.hid (HRa.out.nod ⟨ab, .slice A2K (3 + 1 + 3) q2K, .slice A2V (3 + 1 + 3) q2V, .slice CA1 q aq, (aks ++ [Value.string s3]) ++ bks, (avs ++ [Value.string z3]) ++ bvs, aps⟩ (by simp))
    have b1 := Lib.hid (HRa.out.nod ⟨bb, .slice (some ⟨bk, 0, none⟩) 3 bc, .slice (some ⟨bvg, 0, none⟩) 3 bv, .slice CB1 q bq, bks, bvs, bps⟩ (by simp))
    have HRb := Lib.hid HRa.out.drew
    have hS0 : (fun w' : World => w'.cell? ⟨ab, 2, none⟩ = some (.slice CA1 q aq) ∧ w'.cell? ⟨bb, 2, none⟩ = some (.slice CB1 q bq)) W4.drew := ⟨a1.out.blk.cell 2, b1.out.blk.cell 2⟩
    refine wpAnyL_take 0 63 (v := ?_) rfl rfl (by kernel_rfl) (by kernel_rfl) (by kernel_rfl) (by kernel_rfl) (fun _ _ _ h => h) (by rfl) ?_ hS0 ?_
    rotate_left
    · (intro w' hSw; obtain ⟨s1, s2⟩ := hSw; go_simp; try with_reducible rfl)
    simp only [List.setIfInBounds_toArray, List.set_cons_zero, List.set_cons_succ]
    refine wpAnyL_take 1 64 (v := ?_) rfl rfl (by kernel_rfl) (by kernel_rfl) (by kernel_rfl) (by kernel_rfl) (fun _ _ _ h => h) (by rfl) ?_ hS0 ?_
    rotate_left
    · (intro w' hSw; obtain ⟨s1, s2⟩ := hSw; go_simp; try with_reducible rfl)
    simp only [List.setIfInBounds_toArray, List.set_cons_zero, List.set_cons_succ]
    refine wpAnyL_take 2 65 (v := ?_) rfl rfl (by kernel_rfl) (by kernel_rfl) (by kernel_rfl) (by kernel_rfl) (fun _ _ _ h => h) (by rfl) ?_ hS0 ?_
    rotate_left
    · (intro w' hSw; obtain ⟨s1, s2⟩ := hSw; go_simp; try with_reducible rfl)
    simp only [List.setIfInBounds_toArray, List.set_cons_zero, List.set_cons_succ]
    refine wpAnyL_take 3 66 (v := ?_) rfl rfl (by kernel_rfl) (by kernel_rfl) (by kernel_rfl) (by kernel_rfl) (fun _ _ _ h => h) (by rfl) ?_ hS0 ?_
    rotate_left
    · (intro w' hSw; obtain ⟨s1, s2⟩ := hSw; go_simp; try with_reducible rfl)
    simp only [List.setIfInBounds_toArray, List.set_cons_zero, List.set_cons_succ]
    refine wpAnyL_take 4 67 (v := ?_) rfl rfl (by kernel_rfl) (by kernel_rfl) (by kernel_rfl) (by kernel_rfl) (fun _ _ _ h => h) (by rfl) ?_ hS0 ?_
    rotate_left
    · (intro w' hSw; obtain ⟨s1, s2⟩ := hSw; go_simp; try with_reducible rfl)
    simp only [List.setIfInBounds_toArray, List.set_cons_zero, List.set_cons_succ]
    refine wpAnyL_take 5 68 (v := ?_) rfl rfl (by kernel_rfl) (by kernel_rfl) (by kernel_rfl) (by kernel_rfl) (fun _ _ _ h => h) (by rfl) ?_ hS0 ?_
    rotate_left
    · (intro w' hSw; obtain ⟨s1, s2⟩ := hSw; go_simp; try with_reducible rfl)
    simp only [List.setIfInBounds_toArray, List.set_cons_zero, List.set_cons_succ]
    refine wpAnyL_take 6 69 (v := ?_) rfl rfl (by kernel_rfl) (by kernel_rfl) (by kernel_rfl) (by kernel_rfl) (fun _ _ _ h => h) (by rfl) ?_ hS0 ?_
    rotate_left
    · (intro w' hSw; obtain ⟨s1, s2⟩ := hSw; go_simp; try with_reducible rfl)
    simp only [List.setIfInBounds_toArray, List.set_cons_zero, List.set_cons_succ]
    refine wpAnyL_take 7 70 (v := ?_) rfl rfl (by kernel_rfl) (by kernel_rfl) (by kernel_rfl) (by kernel_rfl) (fun _ _ _ h => h) (by rfl) ?_ hS0 ?_
    rotate_left
    · (intro w' hSw; obtain ⟨s1, s2⟩ := hSw; go_simp; try with_reducible rfl)
    simp only [List.setIfInBounds_toArray, List.set_cons_zero, List.set_cons_succ]
    refine wpAnyL_take 8 71 (v := ?_) rfl rfl (by kernel_rfl) (by kernel_rfl) (by kernel_rfl) (by kernel_rfl) (fun _ _ _ h => h) (by rfl) ?_ hS0 ?_
    rotate_left
    · (intro w' hSw; obtain ⟨s1, s2⟩ := hSw; go_simp; try with_reducible rfl)
    simp only [List.setIfInBounds_toArray, List.set_cons_zero, List.set_cons_succ]
    obtain ⟨A1, q1, W1, hr1, row1, chg1, own1⟩ := run_append_N (P := Try.prog) slTyN 100 (show Row W4.drew 99 (.slice CA1 q aq) aps from a1.out.cr) (show Row W4.drew 99 (.slice CB1 q bq) bps from b1.out.cr) (PtrV.one OB.out.2.2) (by have := EQ.out; omega)
    have hmid := Lib.hid (Nds.mid HRb.out (v := .slice CA1 q aq) (.inr (.inr rfl)) chg1)
    have b3 : NodR TS W1 ⟨bb, .slice (some ⟨bk, 0, none⟩) 3 bc, .slice (some ⟨bvg, 0, none⟩) 3 bv, .slice CB1 q bq, bks, bvs, bps⟩ := hmid.out.2 _ (by simp)
    have hS2 : (fun w' : World => w'.cell? ⟨ab, 2, none⟩ = some (.slice CA1 q aq) ∧ w'.cell? ⟨bb, 2, none⟩ = some (.slice CB1 q bq)) W1 := ⟨hmid.out.1.cell 2, b3.blk.cell 2⟩
    refine wpAnyL_val 9 72 (v := .slice A1 (q + q) q1) (w' := W1) rfl rfl (by kernel_rfl) (by rfl) (run_append_op (.tmp 67) (.tmp 71) 100 100 rfl rfl rfl hr1) (.inr hS2) ?_
    simp only [List.setIfInBounds_toArray, List.set_cons_zero, List.set_cons_succ]
    refine wpAnyL_val 10 73 (v := .pointer (some ⟨ab, 0, none⟩)) (w' := W1) rfl rfl (by kernel_rfl) (by rfl) (by go_simp; try rfl) (.inr hS2) ?_
    simp only [List.setIfInBounds_toArray, List.set_cons_zero, List.set_cons_succ]
    refine wpAnyL_val 11 74 (v := .pointer (some ⟨ab, 2, none⟩)) (w' := W1) rfl rfl (by kernel_rfl) (by rfl) (by go_simp; try rfl) (.inr hS2) ?_
    simp only [List.setIfInBounds_toArray, List.set_cons_zero, List.set_cons_succ]
    have ok6 : ∀ u ∈ aps ++ bps, PtrV u := fun u hu => (List.mem_append.1 hu).elim (OA.out.2.2 u) (OB.out.2.2 u)
    have h6 := Nds.slotC HRb.out chg1 row1 ok6 own1
    have HRc := Lib.hid h6
    have hc4 : W1.cell? ⟨ab, 2, none⟩ = some (.slice CA1 q aq) := hmid.out.1.cell 2
    have hf4 : W1.frozen? ⟨ab, 2, none⟩ = false := hmid.out.1.frozen 2
    clear h6 ok6 hr1 row1 chg1 own1 hmid b3
    refine wpAnyL_skip 12 (w' := W1.setCell ⟨ab, 2, none⟩ (.slice A1 (q + q) q1)) rfl rfl (by kernel_rfl) (by rfl) (by go_simp; try rfl) (.inl (by simp)) ?_
    refine wpAnyL_done (by kernel_rfl) ?_ _
    refine NoPanic.normal ?_
    generalize W1.setCell ⟨ab, 2, none⟩ (.slice A1 (q + q) q1) = W5 at *
    clear hS0 hS2 hc4 hf4 HRa HRb a1 b1
    have HRn := Lib.hid ((HRc.out.perm (show List.Perm _ [⟨bb, .slice (some ⟨bk, 0, none⟩) 3 bc, .slice (some ⟨bvg, 0, none⟩) 3 bv, .slice CB1 q bq, bks, bvs, bps⟩, ⟨b, .slice (some ⟨kg, 0, none⟩) m kvc, .slice (some ⟨vg, 0, none⟩) m vvc, .slice (some ⟨cg, 0, none⟩) (m + 1) cc, ks, vs, ps⟩, ⟨ab, .slice A2K (3 + 1 + 3) q2K, .slice A2V (3 + 1 + 3) q2V, .slice A1 (q + q) q1, (aks ++ [Value.string s3]) ++ bks, (avs ++ [Value.string z3]) ++ bvs, aps ++ bps⟩] from (List.Perm.trans (List.Perm.cons _ (List.Perm.swap _ _ _)) (List.Perm.trans (List.Perm.swap _ _ _) (List.Perm.cons _ (List.Perm.swap _ _ _)))))).forget)
    clear HRc
    -- delete K
    have n1 := Lib.hid (HRn.out.nod _ (List.mem_cons_self ..))
    have c0 : W5.cell? ⟨b, 0, none⟩ = some (.slice (some ⟨kg, 0, none⟩) m kvc) := n1.out.blk.cell 0
    have hdel := Lib.hid (show Calls Try.prog 94 #[.slice (some ⟨kg, 0, none⟩) m kvc, .int .i64 i, .int .i64 ((i : Int) + 1)] W5 (DelPostN W5 9 (.slice (some ⟨kg, 0, none⟩) m kvc) (m - 1) (ks.take i ++ ks.drop (i + 1))) from by
      have h := deleteS W5 (.slice (some ⟨kg, 0, none⟩) m kvc) ks i n1.out.kr (by have := E.out; omega) (by have := E.out; omega) (StrV.one OK.out.1)
      exact h.mono fun _ _ h => delPostN (by have := E.out; simp; omega) h)
    go_wp2_with fail
    refine hdel.out.mono ?_
    clear hdel
    rintro e w6 ⟨A3K, q3K, rfl, hrow, hchg, hown⟩
    have hmid := Nds.mid HRn.out (v := .slice (some ⟨kg, 0, none⟩) m kvc) (.inl rfl) hchg
    have hb4 := hmid.1
    have d0 : w6.cell? ⟨b, 0, none⟩ = some (.slice (some ⟨kg, 0, none⟩) m kvc) := hb4.cell 0
    have d1 : w6.frozen? ⟨b, 0, none⟩ = false := hb4.frozen 0
    have ok6 : ∀ u ∈ (ks.take i ++ ks.drop (i + 1)), StrV u := fun u hu => (List.mem_append.1 hu).elim (fun hu => OK.out.1 u (List.mem_of_mem_take hu)) (fun hu => OK.out.1 u (List.mem_of_mem_drop hu))
    have h6 := Nds.slotK HRn.out hchg hrow ok6 hown
    have HRm := Lib.hid h6
    clear hrow hchg hown hmid hb4 ok6 h6 c0 n1 HRn
    have HRn := HRm
    clear HRm
    go_upto_region 5 with fail
    generalize w6.setCell ⟨b, 0, none⟩ (.slice A3K (m - 1) q3K) = Z0 at *
    clear d0 d1
    -- delete V
    have n1 := Lib.hid (HRn.out.nod _ (List.mem_cons_self ..))
    have c0 : Z0.cell? ⟨b, 1, none⟩ = some (.slice (some ⟨vg, 0, none⟩) m vvc) := n1.out.blk.cell 1
    have hdel := Lib.hid (show Calls Try.prog 94 #[.slice (some ⟨vg, 0, none⟩) m vvc, .int .i64 i, .int .i64 ((i : Int) + 1)] Z0 (DelPostN Z0 9 (.slice (some ⟨vg, 0, none⟩) m vvc) (m - 1) (vs.take i ++ vs.drop (i + 1))) from by
      have h := deleteS Z0 (.slice (some ⟨vg, 0, none⟩) m vvc) vs i n1.out.vr (by have := E.out; omega) (by have := E.out; omega) (StrV.one OK.out.2.1)
      exact h.mono fun _ _ h => delPostN (by have := E.out; simp; omega) h)
    go_wp2_with fail
    refine hdel.out.mono ?_
    clear hdel
    rintro e w7 ⟨A3V, q3V, rfl, hrow, hchg, hown⟩
    have hmid := Nds.mid HRn.out (v := .slice (some ⟨vg, 0, none⟩) m vvc) (.inr (.inl rfl)) hchg
    have hb4 := hmid.1
    have d0 : w7.cell? ⟨b, 1, none⟩ = some (.slice (some ⟨vg, 0, none⟩) m vvc) := hb4.cell 1
    have d1 : w7.frozen? ⟨b, 1, none⟩ = false := hb4.frozen 1
    have ok6 : ∀ u ∈ (vs.take i ++ vs.drop (i + 1)), StrV u := fun u hu => (List.mem_append.1 hu).elim (fun hu => OK.out.2.1 u (List.mem_of_mem_take hu)) (fun hu => OK.out.2.1 u (List.mem_of_mem_drop hu))
    have h6 := Nds.slotV HRn.out hchg hrow ok6 hown
    have HRm := Lib.hid h6
    clear hrow hchg hown hmid hb4 ok6 h6 c0 n1 HRn
    have HRn := HRm
    clear HRm
    go_upto_region 6 with fail
    generalize w7.setCell ⟨b, 1, none⟩ (.slice A3V (m - 1) q3V) = Z1 at *
    clear d0 d1
    -- delete C
    have n1 := Lib.hid (HRn.out.nod _ (List.mem_cons_self ..))
    have c0 : Z1.cell? ⟨b, 2, none⟩ = some (.slice (some ⟨cg, 0, none⟩) (m + 1) cc) := n1.out.blk.cell 2
    have hdel := Lib.hid (show Calls Try.prog 124 #[.slice (some ⟨cg, 0, none⟩) (m + 1) cc, .int .i64 ((i : Int) + 1), .int .i64 ((i : Int) + 2)] Z1 (DelPostN Z1 99 (.slice (some ⟨cg, 0, none⟩) (m + 1) cc) (m) (ps.take (i + 1) ++ ps.drop (i + 1 + 1))) from by
      have h := deleteN Z1 (.slice (some ⟨cg, 0, none⟩) (m + 1) cc) ps (i + 1) n1.out.cr (by have := E.out; omega) (by have := E.out; omega) (PtrV.one OK.out.2.2)
      rw [show ((i + 1 : Nat) : Int) = (i : Int) + 1 by omega, show (i : Int) + 1 + 1 = (i : Int) + 2 by omega] at h
      exact h.mono fun _ _ h => delPostN (by have := E.out; simp; omega) h)
    go_wp2_with fail
    refine hdel.out.mono ?_
    clear hdel
    rintro e w8 ⟨A3C, q3C, rfl, hrow, hchg, hown⟩
    have hmid := Nds.mid HRn.out (v := .slice (some ⟨cg, 0, none⟩) (m + 1) cc) (.inr (.inr rfl)) hchg
    have hb4 := hmid.1
    have d0 : w8.cell? ⟨b, 2, none⟩ = some (.slice (some ⟨cg, 0, none⟩) (m + 1) cc) := hb4.cell 2
    have d1 : w8.frozen? ⟨b, 2, none⟩ = false := hb4.frozen 2
    have ok6 : ∀ u ∈ (ps.take (i + 1) ++ ps.drop (i + 1 + 1)), PtrV u := fun u hu => (List.mem_append.1 hu).elim (fun hu => OK.out.2.2 u (List.mem_of_mem_take hu)) (fun hu => OK.out.2.2 u (List.mem_of_mem_drop hu))
    have h6 := Nds.slotC HRn.out hchg hrow ok6 hown
    have HRm := Lib.hid h6
    clear hrow hchg hown hmid hb4 ok6 h6 c0 n1 HRn
    have HRn := HRm
    clear HRm
    go_wp2
    go_end0
    have g3 : ks.getD i undef = .string s3 := by rw [List.getD_eq_getElem?_getD, K3.out]; rfl
    have g4 : vs.getD i undef = Value.string z3 := by rw [List.getD_eq_getElem?_getD, V3.out]; rfl
    refine ⟨rfl, _, _, HRn.out, rfl, rfl, rfl, rfl, rfl, ?_, ?_, rfl⟩
    · show _ = aks ++ ks.getD i undef :: bks
      rw [g3]; simp
    · show _ = avs ++ vs.getD i undef :: bvs
      rw [g4]; simp

end Go.Proofs.Ytcidmaeclonilaa
