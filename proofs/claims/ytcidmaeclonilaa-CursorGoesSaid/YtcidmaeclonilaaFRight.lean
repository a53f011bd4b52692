/- fromRight: a pair goes over from the child behind (printed by mkdrop2.py). -/
import Derived.Test.YtcidmaeclonilaaSplitB
import Derived.Test.YtcidmaeclonilaaMemA
import Derived.Test.YtcidmaeclonilaaLateA
import Derived.Deep.CutRange
import Derived.BigQuiet
namespace Go.Proofs.Ytcidmaeclonilaa
open Go Go.RowKit

/-- what fromRight leaves -/
def FRightPostS (L F : List Nat) (w0 : World) (n a c : RN) (i : Nat) (inner : Bool) (e : Ending) (w' : World) : Prop :=
  e = .returned (.tuple #[]) ∧ ∃ n' a' c', Nds TS L F w0 w' [n', a', c'] ∧ n'.b = n.b ∧ a'.b = a.b ∧ c'.b = c.b ∧ n'.ks = n.ks.set i (c.ks.getD 0 undef) ∧ n'.vs = n.vs.set i (c.vs.getD 0 undef) ∧ n'.ps = n.ps ∧
    a'.ks = a.ks ++ [n.ks.getD i undef] ∧ a'.vs = a.vs ++ [n.vs.getD i undef] ∧ c'.ks = c.ks.drop 1 ∧ c'.vs = c.vs.drop 1 ∧
    ((inner = false → a'.ps = a.ps ∧ c'.ps = c.ps) ∧ (inner = true → a'.ps = a.ps ++ [c.ps.getD 0 undef] ∧ c'.ps = c.ps.drop 1))

set_option maxHeartbeats 16000000 in
set_option maxRecDepth 100000 in
theorem fright_leafS (L F : List Nat) (w0 w : World) (n a c : RN) (i m p : Nat) (H : Nds TS L F w0 w [n, a, c]) (hm : n.ks.length = m) (hm7 : m ≤ 7) (hv : n.vs.length = m) (hp : n.ps.length = m + 1) (hi : i < m)
    (ha : n.ps[i]? = some (.pointer (some ⟨a.b, 0, none⟩))) (hb : n.ps[i + 1]? = some (.pointer (some ⟨c.b, 0, none⟩))) (a3 : a.ks.length = 3) (a3v : a.vs.length = 3) (b3 : c.ks.length = p + 1) (b3v : c.vs.length = p + 1)
    (pa : a.ps.length = 0) (pb : c.ps.length = 0) (hp6 : p ≤ 6) :
    Calls Try.prog 117 #[.pointer (some ⟨n.b, 0, none⟩), .int .i64 i] w (FRightPostS L F w0 n a c i false) := by
  have HN := H.nod n (by simp)
  have HA := H.nod a (by simp)
  have HC := H.nod c (by simp)
  obtain ⟨b, kv, vv, cv, ks, vs, ps⟩ := n
  obtain ⟨ab, akv, avv, acv, aks, avs, aps⟩ := a
  obtain ⟨bb, bkv, bvv, bcv, bks, bvs, bps⟩ := c
  simp only at hm hv hp ha hb a3 a3v b3 b3v pa pb HN HA HC
  obtain ⟨CA, cc, rfl, hcc1, hcc2, hcc3, hcc4⟩ := (show Row w 99 cv ps from HN.cr).formN hp
  obtain ⟨cg, rfl⟩ := hcc4 (by omega)
  obtain ⟨KA, kvc, rfl, hka1, hka2, -, hka4⟩ := (show Row w 9 kv ks from HN.kr).formN hm
  obtain ⟨kg, rfl⟩ := hka4 (by omega)
  obtain ⟨VA, vvc, rfl, hva1, hva2, -, hva4⟩ := (show Row w 9 vv vs from HN.vr).formN hv
  obtain ⟨vg, rfl⟩ := hva4 (by omega)
  obtain ⟨KA1, ac, rfl, hac1, hac2, -, hac4⟩ := (show Row w 9 akv aks from HA.kr).formN a3
  obtain ⟨ak, rfl⟩ := hac4 (by omega)
  obtain ⟨VA1, av, rfl, hav1, hav2, -, hav4⟩ := (show Row w 9 avv avs from HA.vr).formN a3v
  obtain ⟨avg, rfl⟩ := hav4 (by omega)
  obtain ⟨CA1, aq, rfl, haq1, haq2, -, haq4⟩ := (show Row w 99 acv aps from HA.cr).formN pa
  obtain ⟨KB1, bc, rfl, hbc1, hbc2, -, hbc4⟩ := (show Row w 9 bkv bks from HC.kr).formN b3
  obtain ⟨bk, rfl⟩ := hbc4 (by omega)
  obtain ⟨VB1, bv, rfl, hbv1, hbv2, -, hbv4⟩ := (show Row w 9 bvv bvs from HC.vr).formN b3v
  obtain ⟨bvg, rfl⟩ := hbv4 (by omega)
  obtain ⟨CB1, bq, rfl, hbq1, hbq2, -, hbq4⟩ := (show Row w 99 bcv bps from HC.cr).formN pb
  obtain ⟨k3, hk3⟩ : ∃ u, ks[i]? = some u := ⟨_, List.getElem?_eq_getElem (by omega)⟩
  obtain ⟨v3, hv3⟩ : ∃ u, vs[i]? = some u := ⟨_, List.getElem?_eq_getElem (by omega)⟩
  obtain ⟨kl, hkl⟩ : ∃ u, bks[0]? = some u := ⟨_, List.getElem?_eq_getElem (by omega)⟩
  obtain ⟨vl, hvl⟩ : ∃ u, bvs[0]? = some u := ⟨_, List.getElem?_eq_getElem (by omega)⟩
  obtain ⟨s3, rfl⟩ := HN.kS k3 (List.mem_of_getElem? hk3)
  obtain ⟨z3, rfl⟩ := HN.vS v3 (List.mem_of_getElem? hv3)
  obtain ⟨sl, rfl⟩ := HC.kS kl (List.mem_of_getElem? hkl)
  obtain ⟨zu, rfl⟩ := HC.vS vl (List.mem_of_getElem? hvl)
  obtain ⟨_, e1, hci, -⟩ := hcc3 i _ ha
  cases e1
  obtain ⟨_, e1, hci1, -⟩ := hcc3 (i + 1) _ hb
  cases e1
  have h2 : w.cell? ⟨b, 2, none⟩ = some (.slice (some ⟨cg, 0, none⟩) (m + 1) cc) := HN.blk.cell 2
  have hiz : (i : Int) < (m : Int) + 1 := by omega
  have him : (i : Int) < (m : Int) := by omega
  have hi1z : (i : Int) + 1 < (m : Int) + 1 := by omega
  have hi0 : (0 : Int) ≤ (i : Int) + 1 := by omega
  have hw1 : IntKind.i64.wrap ((i : Int) + 1) = (i : Int) + 1 := by rw [IntKind.wrap_i64]; omega
  have hw0 : IntKind.i64.wrap (i : Int) = (i : Int) := by rw [IntKind.wrap_i64]; omega
  have hw3 : IntKind.i64.wrap ((i : Int) + 1 - 1) = (i : Int) := by rw [IntKind.wrap_i64]; omega
  have ht1 : ((i : Int) + 1).toNat = i + 1 := by omega
  have hpz : (p : Int) < (p : Int) + 1 := by omega
  have hpz2 : (p : Int) + 1 < (p : Int) + 2 := by omega
  have hp0 : (0 : Int) ≤ (p : Int) + 1 := by omega
  have hp1 : IntKind.i64.wrap ((p : Int) + 1 - 1) = (p : Int) := by rw [IntKind.wrap_i64]; omega
  have hp2 : IntKind.i64.wrap (p : Int) = (p : Int) := by rw [IntKind.wrap_i64]; omega
  have hp3 : IntKind.i64.wrap ((p : Int) + 1) = (p : Int) + 1 := by rw [IntKind.wrap_i64]; omega
  have ht2 : ((p : Int) + 1).toNat = p + 1 := by omega
  have OK := Lib.hid (And.intro HN.kS (And.intro HN.vS HN.pS))
  have OA := Lib.hid (And.intro HA.kS (And.intro HA.vS HA.pS))
  have OB := Lib.hid (And.intro HC.kS (And.intro HC.vS HC.pS))
  have LD := Lib.hid (And.intro a3 (And.intro a3v (And.intro b3 (And.intro b3v (And.intro pa (And.intro pb (And.intro hm (And.intro hv (And.intro hp hp6)))))))))
  have HH := Lib.hid H
  have K3 := Lib.hid hk3
  have V3 := Lib.hid hv3
  have KL := Lib.hid hkl
  have VL := Lib.hid hvl
  have hp4 : (0 : Int) < (p : Int) + 1 := by omega
  have hp5 : (0 : Int) < (p : Int) + 2 := by omega
  clear H HN HA HC hcc3 hcc4 hka4 hva4 hac4 hav4 hbc4 hbv4 haq4 hbq4 ha hb a3 a3v b3 b3v pa pb hm hv hp
  clear hk3 hv3 hkl hvl
  go_enter Try.func117, Try.ntmps117
  go_upto_region 0 with fail
  go_cut [4, 5] from 6 (fun s4 s5 wc => s4 = .pointer (some ⟨ab, 0, none⟩) ∧ s5 = .pointer (some ⟨bb, 0, none⟩) ∧ Hid (Nds TS L F w0 wc [⟨b, .slice (some ⟨kg, 0, none⟩) m kvc, .slice (some ⟨vg, 0, none⟩) m vvc, .slice (some ⟨cg, 0, none⟩) (m + 1) cc, ks, vs, ps⟩, ⟨ab, .slice (some ⟨ak, 0, none⟩) 3 ac, .slice (some ⟨avg, 0, none⟩) 3 av, .slice CA1 0 aq, aks, avs, aps⟩, ⟨bb, .slice (some ⟨bk, 0, none⟩) (p + 1) bc, .slice (some ⟨bvg, 0, none⟩) (p + 1) bv, .slice CB1 0 bq, bks, bvs, bps⟩]))
  case first =>
    go_quiet (fail)
    go_wp2_with fail
    go_meet
    case rel => exact ⟨rfl, rfl, Lib.hid (HH.out.drewN _)⟩
  case rest =>
    obtain ⟨rfl, rfl, HR⟩ := hcut
    clear hci hci1 h2 HH
    have HRx := Lib.hid (HR.out.perm (show List.Perm _ [⟨ab, .slice (some ⟨ak, 0, none⟩) 3 ac, .slice (some ⟨avg, 0, none⟩) 3 av, .slice CA1 0 aq, aks, avs, aps⟩, ⟨b, .slice (some ⟨kg, 0, none⟩) m kvc, .slice (some ⟨vg, 0, none⟩) m vvc, .slice (some ⟨cg, 0, none⟩) (m + 1) cc, ks, vs, ps⟩, ⟨bb, .slice (some ⟨bk, 0, none⟩) (p + 1) bc, .slice (some ⟨bvg, 0, none⟩) (p + 1) bv, .slice CB1 0 bq, bks, bvs, bps⟩] from (List.Perm.swap _ _ _)))
    clear HR
    have HR := HRx
    clear HRx
    have d1 := Lib.hid (HR.out.nod ⟨ab, .slice (some ⟨ak, 0, none⟩) 3 ac, .slice (some ⟨avg, 0, none⟩) 3 av, .slice CA1 0 aq, aks, avs, aps⟩ (by simp))
    have s1 := Lib.hid (HR.out.nod ⟨b, .slice (some ⟨kg, 0, none⟩) m kvc, .slice (some ⟨vg, 0, none⟩) m vvc, .slice (some ⟨cg, 0, none⟩) (m + 1) cc, ks, vs, ps⟩ (by simp))
    go_wp2_with fail
    refine wp_region_noPanic ?_
    refine wp_region_lateM (fun w' : World => w'.cell? ⟨ab, 0, none⟩ = some (.slice (some ⟨ak, 0, none⟩) 3 ac) ∧ w'.cell? ⟨b, 0, none⟩ = some (.slice (some ⟨kg, 0, none⟩) m kvc) ∧ w'.cell? ⟨kg, i, none⟩ = some (Value.string s3)) [16] (by kernel_rfl) ?_
    have hS0 : (fun w' : World => w'.cell? ⟨ab, 0, none⟩ = some (.slice (some ⟨ak, 0, none⟩) 3 ac) ∧ w'.cell? ⟨b, 0, none⟩ = some (.slice (some ⟨kg, 0, none⟩) m kvc) ∧ w'.cell? ⟨kg, i, none⟩ = some (Value.string s3)) wc.drew := ⟨d1.out.blk.cell 0, s1.out.blk.cell 0, s1.out.kcell K3.out⟩
    refine wpAnyM_take0 0 21 (v := ?_) rfl rfl (by kernel_rfl) (by kernel_rfl) (by kernel_rfl) (fun _ _ _ h => h) (by rfl) ?_ ?_
    rotate_left
    · (intro w'; go_simp; try with_reducible rfl)
    simp only [List.setIfInBounds_toArray, List.set_cons_zero, List.set_cons_succ]
    refine wpAnyM_take0 1 22 (v := ?_) rfl rfl (by kernel_rfl) (by kernel_rfl) (by kernel_rfl) (fun _ _ _ h => h) (by rfl) ?_ ?_
    rotate_left
    · (intro w'; go_simp; try with_reducible rfl)
    simp only [List.setIfInBounds_toArray, List.set_cons_zero, List.set_cons_succ]
    refine wpAnyM_take0 2 23 (v := ?_) rfl rfl (by kernel_rfl) (by kernel_rfl) (by kernel_rfl) (fun _ _ _ h => h) (by rfl) ?_ ?_
    rotate_left
    · (intro w'; go_simp; try with_reducible rfl)
    simp only [List.setIfInBounds_toArray, List.set_cons_zero, List.set_cons_succ]
    refine wpAnyM_take0 3 24 (v := ?_) rfl rfl (by kernel_rfl) (by kernel_rfl) (by kernel_rfl) (fun _ _ _ h => h) (by rfl) ?_ ?_
    rotate_left
    · (intro w'; go_simp; try with_reducible rfl)
    simp only [List.setIfInBounds_toArray, List.set_cons_zero, List.set_cons_succ]
    refine wpAnyM_take 4 25 (v := ?_) rfl rfl (by kernel_rfl) (by kernel_rfl) (by kernel_rfl) (by kernel_rfl) (fun _ _ _ h => h) (by rfl) ?_ hS0 ?_
    rotate_left
    · (intro w' hSw; obtain ⟨q1, q2, q3⟩ := hSw; go_simp; try with_reducible rfl)
    simp only [List.setIfInBounds_toArray, List.set_cons_zero, List.set_cons_succ]
    refine wpAnyM_take0 5 26 (v := ?_) rfl rfl (by kernel_rfl) (by kernel_rfl) (by kernel_rfl) (fun _ _ _ h => h) (by rfl) ?_ ?_
    rotate_left
    · (intro w'; go_simp; try with_reducible rfl)
    simp only [List.setIfInBounds_toArray, List.set_cons_zero, List.set_cons_succ]
    refine wpAnyM_take0 6 27 (v := ?_) rfl rfl (by kernel_rfl) (by kernel_rfl) (by kernel_rfl) (fun _ _ _ h => h) (by rfl) ?_ ?_
    rotate_left
    · (intro w'; go_simp; try with_reducible rfl)
    simp only [List.setIfInBounds_toArray, List.set_cons_zero, List.set_cons_succ]
    refine wpAnyM_take0 7 28 (v := ?_) rfl rfl (by kernel_rfl) (by kernel_rfl) (by kernel_rfl) (fun _ _ _ h => h) (by rfl) ?_ ?_
    rotate_left
    · (intro w'; go_simp; try with_reducible rfl)
    simp only [List.setIfInBounds_toArray, List.set_cons_zero, List.set_cons_succ]
    refine wpAnyM_take 8 29 (v := ?_) rfl rfl (by kernel_rfl) (by kernel_rfl) (by kernel_rfl) (by kernel_rfl) (fun _ _ _ h => h) (by rfl) ?_ hS0 ?_
    rotate_left
    · (intro w' hSw; obtain ⟨q1, q2, q3⟩ := hSw; go_simp; try with_reducible rfl)
    simp only [List.setIfInBounds_toArray, List.set_cons_zero, List.set_cons_succ]
    refine wpAnyM_take0 9 30 (v := ?_) rfl rfl (by kernel_rfl) (by kernel_rfl) (by kernel_rfl) (fun _ _ _ h => h) (by rfl) ?_ ?_
    rotate_left
    · (intro w'; go_simp; try with_reducible rfl)
    simp only [List.setIfInBounds_toArray, List.set_cons_zero, List.set_cons_succ]
    refine wpAnyM_take0 10 31 (v := ?_) rfl rfl (by kernel_rfl) (by kernel_rfl) (by kernel_rfl) (fun _ _ _ h => h) (by rfl) ?_ ?_
    rotate_left
    · (intro w'; go_simp; try with_reducible rfl)
    simp only [List.setIfInBounds_toArray, List.set_cons_zero, List.set_cons_succ]
    refine wpAnyM_take 11 32 (v := ?_) rfl rfl (by kernel_rfl) (by kernel_rfl) (by kernel_rfl) (by kernel_rfl) (fun _ _ _ h => h) (by rfl) ?_ hS0 ?_
    rotate_left
    · (intro w' hSw; obtain ⟨q1, q2, q3⟩ := hSw; go_simp; try with_reducible rfl)
    simp only [List.setIfInBounds_toArray, List.set_cons_zero, List.set_cons_succ]
    have HRb := Lib.hid (HR.out.drew.alloc (.cells #[Value.string s3] 9))
    have d2 := Lib.hid (HRb.out.nod ⟨ab, .slice (some ⟨ak, 0, none⟩) 3 ac, .slice (some ⟨avg, 0, none⟩) 3 av, .slice CA1 0 aq, aks, avs, aps⟩ (by simp))
    have s2 := Lib.hid (HRb.out.nod ⟨b, .slice (some ⟨kg, 0, none⟩) m kvc, .slice (some ⟨vg, 0, none⟩) m vvc, .slice (some ⟨cg, 0, none⟩) (m + 1) cc, ks, vs, ps⟩ (by simp))
    have hS1 : (fun w' : World => w'.cell? ⟨ab, 0, none⟩ = some (.slice (some ⟨ak, 0, none⟩) 3 ac) ∧ w'.cell? ⟨b, 0, none⟩ = some (.slice (some ⟨kg, 0, none⟩) m kvc) ∧ w'.cell? ⟨kg, i, none⟩ = some (Value.string s3)) (wc.drew.alloc (.cells #[Value.string s3] 9)) := ⟨d2.out.blk.cell 0, s2.out.blk.cell 0, s2.out.kcell K3.out⟩
    refine wpAnyM_val 12 33 (v := .slice (some ⟨wc.heap.size, 0, none⟩) 1 1) (w' := (wc.drew.alloc (.cells #[Value.string s3] 9))) rfl rfl (by kernel_rfl) (by rfl) (by go_simp; try rfl) (.inr fun _ => hS1) ?_
    simp only [List.setIfInBounds_toArray, List.set_cons_zero, List.set_cons_succ]
    have one1 : ∀ u ∈ [Value.string s3], u.oneCell' = true := fun u hu => by rw [List.mem_singleton.1 hu]; rfl
    obtain ⟨NK, nKq, w4, hr1, hrow, hchg, hown⟩ := run_append_N (P := Try.prog) slTyS 37 (show Row (wc.drew.alloc (.cells #[Value.string s3] 9)) 9 (.slice (some ⟨ak, 0, none⟩) 3 ac) aks from d2.out.kr) (Row.new1 wc.drew 9 (Value.string s3)) one1 (by have := LD.out; omega)
    have hmid := Nds.mid HRb.out (v := .slice (some ⟨ak, 0, none⟩) 3 ac) (.inl rfl) hchg
    have sn3 : NodR TS w4 ⟨b, .slice (some ⟨kg, 0, none⟩) m kvc, .slice (some ⟨vg, 0, none⟩) m vvc, .slice (some ⟨cg, 0, none⟩) (m + 1) cc, ks, vs, ps⟩ := hmid.2 _ (by simp)
    have hS2 : (fun w' : World => w'.cell? ⟨ab, 0, none⟩ = some (.slice (some ⟨ak, 0, none⟩) 3 ac) ∧ w'.cell? ⟨b, 0, none⟩ = some (.slice (some ⟨kg, 0, none⟩) m kvc) ∧ w'.cell? ⟨kg, i, none⟩ = some (Value.string s3)) w4 := ⟨hmid.1.cell 0, sn3.blk.cell 0, sn3.kcell K3.out⟩
    refine wpAnyM_val 13 34 (v := .slice NK (3 + 1) nKq) (w' := w4) rfl rfl (by kernel_rfl) (by rfl) (run_append_op (.tmp 25) (.tmp 33) 37 37 rfl rfl rfl hr1) (.inr fun _ => hS2) ?_
    simp only [List.setIfInBounds_toArray, List.set_cons_zero, List.set_cons_succ]
    have hf4 : w4.frozen? ⟨ab, 0, none⟩ = false := hmid.1.frozen 0
    have hc4 : w4.cell? ⟨ab, 0, none⟩ = some (.slice (some ⟨ak, 0, none⟩) 3 ac) := hmid.1.cell 0
    have ok6 : ∀ u ∈ aks ++ [Value.string s3], StrV u := fun u hu => by
      rcases List.mem_append.1 hu with hu | hu
      · exact OA.out.1 u hu
      · rw [List.mem_singleton.1 hu]; exact ⟨_, rfl⟩
    have h6 := Nds.slotK HRb.out hchg hrow ok6 hown
    have HRc := Lib.hid h6
    clear hrow hchg hown hmid sn3 ok6 h6 hr1 one1
    refine wpAnyM_val 14 35 (v := .pointer (some ⟨ab, 0, none⟩)) (w' := w4) rfl rfl (by kernel_rfl) (by rfl) (by go_simp; try rfl) (.inr (fun h => h)) ?_
    simp only [List.setIfInBounds_toArray, List.set_cons_zero, List.set_cons_succ]
    refine wpAnyM_val 15 36 (v := .pointer (some ⟨ab, 0, none⟩)) (w' := w4) rfl rfl (by kernel_rfl) (by rfl) (by go_simp; try rfl) (.inr (fun h => h)) ?_
    simp only [List.setIfInBounds_toArray, List.set_cons_zero, List.set_cons_succ]
    refine wpAnyM_skip 16 (w' := w4.setCell ⟨ab, 0, none⟩ (.slice NK (3 + 1) nKq)) rfl rfl (by kernel_rfl) (by rfl) (by go_simp; try rfl) (.inl (by simp)) ?_
    refine wpAnyM_done (by kernel_rfl) ?_ _
    refine NoPanic.normal ?_
    generalize w4.setCell ⟨ab, 0, none⟩ (.slice NK (3 + 1) nKq) = X1 at *
    clear hS0 hS1 hS2 hf4 hc4 HR HRb d1 s1 d2 s2
    have HR := HRc
    clear HRc
    have d1 := Lib.hid (HR.out.nod ⟨ab, .slice NK (3 + 1) nKq, .slice (some ⟨avg, 0, none⟩) 3 av, .slice CA1 0 aq, aks ++ [Value.string s3], avs, aps⟩ (by simp))
    have s1 := Lib.hid (HR.out.nod ⟨b, .slice (some ⟨kg, 0, none⟩) m kvc, .slice (some ⟨vg, 0, none⟩) m vvc, .slice (some ⟨cg, 0, none⟩) (m + 1) cc, ks, vs, ps⟩ (by simp))
    go_wp2_with fail
    refine wp_region_noPanic ?_
    refine wp_region_lateM (fun w' : World => w'.cell? ⟨ab, 1, none⟩ = some (.slice (some ⟨avg, 0, none⟩) 3 av) ∧ w'.cell? ⟨b, 1, none⟩ = some (.slice (some ⟨vg, 0, none⟩) m vvc) ∧ w'.cell? ⟨vg, i, none⟩ = some (Value.string z3)) [16] (by kernel_rfl) ?_
    have hS0 : (fun w' : World => w'.cell? ⟨ab, 1, none⟩ = some (.slice (some ⟨avg, 0, none⟩) 3 av) ∧ w'.cell? ⟨b, 1, none⟩ = some (.slice (some ⟨vg, 0, none⟩) m vvc) ∧ w'.cell? ⟨vg, i, none⟩ = some (Value.string z3)) X1.drew := ⟨d1.out.blk.cell 1, s1.out.blk.cell 1, s1.out.vcell V3.out⟩
    refine wpAnyM_take0 0 37 (v := ?_) rfl rfl (by kernel_rfl) (by kernel_rfl) (by kernel_rfl) (fun _ _ _ h => h) (by rfl) ?_ ?_
    rotate_left
    · (intro w'; go_simp; try with_reducible rfl)
    simp only [List.setIfInBounds_toArray, List.set_cons_zero, List.set_cons_succ]
    refine wpAnyM_take0 1 38 (v := ?_) rfl rfl (by kernel_rfl) (by kernel_rfl) (by kernel_rfl) (fun _ _ _ h => h) (by rfl) ?_ ?_
    rotate_left
    · (intro w'; go_simp; try with_reducible rfl)
    simp only [List.setIfInBounds_toArray, List.set_cons_zero, List.set_cons_succ]
    refine wpAnyM_take0 2 39 (v := ?_) rfl rfl (by kernel_rfl) (by kernel_rfl) (by kernel_rfl) (fun _ _ _ h => h) (by rfl) ?_ ?_
    rotate_left
    · (intro w'; go_simp; try with_reducible rfl)
    simp only [List.setIfInBounds_toArray, List.set_cons_zero, List.set_cons_succ]
    refine wpAnyM_take0 3 40 (v := ?_) rfl rfl (by kernel_rfl) (by kernel_rfl) (by kernel_rfl) (fun _ _ _ h => h) (by rfl) ?_ ?_
    rotate_left
    · (intro w'; go_simp; try with_reducible rfl)
    simp only [List.setIfInBounds_toArray, List.set_cons_zero, List.set_cons_succ]
    refine wpAnyM_take 4 41 (v := ?_) rfl rfl (by kernel_rfl) (by kernel_rfl) (by kernel_rfl) (by kernel_rfl) (fun _ _ _ h => h) (by rfl) ?_ hS0 ?_
    rotate_left
    · (intro w' hSw; obtain ⟨q1, q2, q3⟩ := hSw; go_simp; try with_reducible rfl)
    simp only [List.setIfInBounds_toArray, List.set_cons_zero, List.set_cons_succ]
    refine wpAnyM_take0 5 42 (v := ?_) rfl rfl (by kernel_rfl) (by kernel_rfl) (by kernel_rfl) (fun _ _ _ h => h) (by rfl) ?_ ?_
    rotate_left
    · (intro w'; go_simp; try with_reducible rfl)
    simp only [List.setIfInBounds_toArray, List.set_cons_zero, List.set_cons_succ]
    refine wpAnyM_take0 6 43 (v := ?_) rfl rfl (by kernel_rfl) (by kernel_rfl) (by kernel_rfl) (fun _ _ _ h => h) (by rfl) ?_ ?_
    rotate_left
    · (intro w'; go_simp; try with_reducible rfl)
    simp only [List.setIfInBounds_toArray, List.set_cons_zero, List.set_cons_succ]
    refine wpAnyM_take0 7 44 (v := ?_) rfl rfl (by kernel_rfl) (by kernel_rfl) (by kernel_rfl) (fun _ _ _ h => h) (by rfl) ?_ ?_
    rotate_left
    · (intro w'; go_simp; try with_reducible rfl)
    simp only [List.setIfInBounds_toArray, List.set_cons_zero, List.set_cons_succ]
    refine wpAnyM_take 8 45 (v := ?_) rfl rfl (by kernel_rfl) (by kernel_rfl) (by kernel_rfl) (by kernel_rfl) (fun _ _ _ h => h) (by rfl) ?_ hS0 ?_
    rotate_left
    · (intro w' hSw; obtain ⟨q1, q2, q3⟩ := hSw; go_simp; try with_reducible rfl)
    simp only [List.setIfInBounds_toArray, List.set_cons_zero, List.set_cons_succ]
    refine wpAnyM_take0 9 46 (v := ?_) rfl rfl (by kernel_rfl) (by kernel_rfl) (by kernel_rfl) (fun _ _ _ h => h) (by rfl) ?_ ?_
    rotate_left
    · (intro w'; go_simp; try with_reducible rfl)
    simp only [List.setIfInBounds_toArray, List.set_cons_zero, List.set_cons_succ]
    refine wpAnyM_take0 10 47 (v := ?_) rfl rfl (by kernel_rfl) (by kernel_rfl) (by kernel_rfl) (fun _ _ _ h => h) (by rfl) ?_ ?_
    rotate_left
    · (intro w'; go_simp; try with_reducible rfl)
    simp only [List.setIfInBounds_toArray, List.set_cons_zero, List.set_cons_succ]
    refine wpAnyM_take 11 48 (v := ?_) rfl rfl (by kernel_rfl) (by kernel_rfl) (by kernel_rfl) (by kernel_rfl) (fun _ _ _ h => h) (by rfl) ?_ hS0 ?_
    rotate_left
    · (intro w' hSw; obtain ⟨q1, q2, q3⟩ := hSw; go_simp; try with_reducible rfl)
    simp only [List.setIfInBounds_toArray, List.set_cons_zero, List.set_cons_succ]
    have HRb := Lib.hid (HR.out.drew.alloc (.cells #[Value.string z3] 9))
    have d2 := Lib.hid (HRb.out.nod ⟨ab, .slice NK (3 + 1) nKq, .slice (some ⟨avg, 0, none⟩) 3 av, .slice CA1 0 aq, aks ++ [Value.string s3], avs, aps⟩ (by simp))
    have s2 := Lib.hid (HRb.out.nod ⟨b, .slice (some ⟨kg, 0, none⟩) m kvc, .slice (some ⟨vg, 0, none⟩) m vvc, .slice (some ⟨cg, 0, none⟩) (m + 1) cc, ks, vs, ps⟩ (by simp))
    have hS1 : (fun w' : World => w'.cell? ⟨ab, 1, none⟩ = some (.slice (some ⟨avg, 0, none⟩) 3 av) ∧ w'.cell? ⟨b, 1, none⟩ = some (.slice (some ⟨vg, 0, none⟩) m vvc) ∧ w'.cell? ⟨vg, i, none⟩ = some (Value.string z3)) (X1.drew.alloc (.cells #[Value.string z3] 9)) := ⟨d2.out.blk.cell 1, s2.out.blk.cell 1, s2.out.vcell V3.out⟩
    refine wpAnyM_val 12 49 (v := .slice (some ⟨X1.heap.size, 0, none⟩) 1 1) (w' := (X1.drew.alloc (.cells #[Value.string z3] 9))) rfl rfl (by kernel_rfl) (by rfl) (by go_simp; try rfl) (.inr fun _ => hS1) ?_
    simp only [List.setIfInBounds_toArray, List.set_cons_zero, List.set_cons_succ]
    have one1 : ∀ u ∈ [Value.string z3], u.oneCell' = true := fun u hu => by rw [List.mem_singleton.1 hu]; rfl
    obtain ⟨NV, nVq, w4, hr1, hrow, hchg, hown⟩ := run_append_N (P := Try.prog) slTyS 37 (show Row (X1.drew.alloc (.cells #[Value.string z3] 9)) 9 (.slice (some ⟨avg, 0, none⟩) 3 av) avs from d2.out.vr) (Row.new1 X1.drew 9 (Value.string z3)) one1 (by have := LD.out; omega)
    have hmid := Nds.mid HRb.out (v := .slice (some ⟨avg, 0, none⟩) 3 av) (.inr (.inl rfl)) hchg
    have sn3 : NodR TS w4 ⟨b, .slice (some ⟨kg, 0, none⟩) m kvc, .slice (some ⟨vg, 0, none⟩) m vvc, .slice (some ⟨cg, 0, none⟩) (m + 1) cc, ks, vs, ps⟩ := hmid.2 _ (by simp)
    have hS2 : (fun w' : World => w'.cell? ⟨ab, 1, none⟩ = some (.slice (some ⟨avg, 0, none⟩) 3 av) ∧ w'.cell? ⟨b, 1, none⟩ = some (.slice (some ⟨vg, 0, none⟩) m vvc) ∧ w'.cell? ⟨vg, i, none⟩ = some (Value.string z3)) w4 := ⟨hmid.1.cell 1, sn3.blk.cell 1, sn3.vcell V3.out⟩
    refine wpAnyM_val 13 50 (v := .slice NV (3 + 1) nVq) (w' := w4) rfl rfl (by kernel_rfl) (by rfl) (run_append_op (.tmp 41) (.tmp 49) 37 37 rfl rfl rfl hr1) (.inr fun _ => hS2) ?_
    simp only [List.setIfInBounds_toArray, List.set_cons_zero, List.set_cons_succ]
    have hf4 : w4.frozen? ⟨ab, 1, none⟩ = false := hmid.1.frozen 1
    have hc4 : w4.cell? ⟨ab, 1, none⟩ = some (.slice (some ⟨avg, 0, none⟩) 3 av) := hmid.1.cell 1
    have ok6 : ∀ u ∈ avs ++ [Value.string z3], StrV u := fun u hu => by
      rcases List.mem_append.1 hu with hu | hu
      · exact OA.out.2.1 u hu
      · rw [List.mem_singleton.1 hu]; exact ⟨z3, rfl⟩
    have h6 := Nds.slotV HRb.out hchg hrow ok6 hown
    have HRc := Lib.hid h6
    clear hrow hchg hown hmid sn3 ok6 h6 hr1 one1
    refine wpAnyM_val 14 51 (v := .pointer (some ⟨ab, 0, none⟩)) (w' := w4) rfl rfl (by kernel_rfl) (by rfl) (by go_simp; try rfl) (.inr (fun h => h)) ?_
    simp only [List.setIfInBounds_toArray, List.set_cons_zero, List.set_cons_succ]
    refine wpAnyM_val 15 52 (v := .pointer (some ⟨ab, 1, none⟩)) (w' := w4) rfl rfl (by kernel_rfl) (by rfl) (by go_simp; try rfl) (.inr (fun h => h)) ?_
    simp only [List.setIfInBounds_toArray, List.set_cons_zero, List.set_cons_succ]
    refine wpAnyM_skip 16 (w' := w4.setCell ⟨ab, 1, none⟩ (.slice NV (3 + 1) nVq)) rfl rfl (by kernel_rfl) (by rfl) (by go_simp; try rfl) (.inl (by simp)) ?_
    refine wpAnyM_done (by kernel_rfl) ?_ _
    refine NoPanic.normal ?_
    generalize w4.setCell ⟨ab, 1, none⟩ (.slice NV (3 + 1) nVq) = X2 at *
    clear hS0 hS1 hS2 hf4 hc4 HR HRb d1 s1 d2 s2
    have HR := HRc
    clear HRc
    have HRx := Lib.hid (HR.out.perm (show List.Perm _ [⟨b, .slice (some ⟨kg, 0, none⟩) m kvc, .slice (some ⟨vg, 0, none⟩) m vvc, .slice (some ⟨cg, 0, none⟩) (m + 1) cc, ks, vs, ps⟩, ⟨ab, .slice NK (3 + 1) nKq, .slice NV (3 + 1) nVq, .slice CA1 0 aq, aks ++ [Value.string s3], avs ++ [Value.string z3], aps⟩, ⟨bb, .slice (some ⟨bk, 0, none⟩) (p + 1) bc, .slice (some ⟨bvg, 0, none⟩) (p + 1) bv, .slice CB1 0 bq, bks, bvs, bps⟩] from (List.Perm.swap _ _ _)))
    clear HR
    have HR := HRx
    clear HRx
    have d1 := Lib.hid (HR.out.nod ⟨b, .slice (some ⟨kg, 0, none⟩) m kvc, .slice (some ⟨vg, 0, none⟩) m vvc, .slice (some ⟨cg, 0, none⟩) (m + 1) cc, ks, vs, ps⟩ (by simp))
    have s1 := Lib.hid (HR.out.nod ⟨bb, .slice (some ⟨bk, 0, none⟩) (p + 1) bc, .slice (some ⟨bvg, 0, none⟩) (p + 1) bv, .slice CB1 0 bq, bks, bvs, bps⟩ (by simp))
    go_wp2_with fail
    refine wp_region_noPanic ?_
    refine wp_region_lateM (fun w' : World => w'.cell? ⟨b, 0, none⟩ = some (.slice (some ⟨kg, 0, none⟩) m kvc) ∧ w'.cell? ⟨b, 1, none⟩ = some (.slice (some ⟨vg, 0, none⟩) m vvc) ∧ w'.cell? ⟨bb, 0, none⟩ = some (.slice (some ⟨bk, 0, none⟩) (p + 1) bc) ∧ w'.cell? ⟨bb, 1, none⟩ = some (.slice (some ⟨bvg, 0, none⟩) (p + 1) bv) ∧ w'.cell? ⟨bk, 0, none⟩ = some (Value.string sl) ∧ w'.cell? ⟨bvg, 0, none⟩ = some (Value.string zu)) [23, 25] (by kernel_rfl) ?_
    have hS0 : (fun w' : World => w'.cell? ⟨b, 0, none⟩ = some (.slice (some ⟨kg, 0, none⟩) m kvc) ∧ w'.cell? ⟨b, 1, none⟩ = some (.slice (some ⟨vg, 0, none⟩) m vvc) ∧ w'.cell? ⟨bb, 0, none⟩ = some (.slice (some ⟨bk, 0, none⟩) (p + 1) bc) ∧ w'.cell? ⟨bb, 1, none⟩ = some (.slice (some ⟨bvg, 0, none⟩) (p + 1) bv) ∧ w'.cell? ⟨bk, 0, none⟩ = some (Value.string sl) ∧ w'.cell? ⟨bvg, 0, none⟩ = some (Value.string zu)) X2.drew := ⟨d1.out.blk.cell 0, d1.out.blk.cell 1, s1.out.blk.cell 0, s1.out.blk.cell 1, s1.out.kcell KL.out, s1.out.vcell VL.out⟩
    refine wpAnyM_take0 0 53 (v := ?_) rfl rfl (by kernel_rfl) (by kernel_rfl) (by kernel_rfl) (fun _ _ _ h => h) (by rfl) ?_ ?_
    rotate_left
    · (intro w'; go_simp; try with_reducible rfl)
    simp only [List.setIfInBounds_toArray, List.set_cons_zero, List.set_cons_succ]
    refine wpAnyM_take0 1 54 (v := ?_) rfl rfl (by kernel_rfl) (by kernel_rfl) (by kernel_rfl) (fun _ _ _ h => h) (by rfl) ?_ ?_
    rotate_left
    · (intro w'; go_simp; try with_reducible rfl)
    simp only [List.setIfInBounds_toArray, List.set_cons_zero, List.set_cons_succ]
    refine wpAnyM_take0 2 55 (v := ?_) rfl rfl (by kernel_rfl) (by kernel_rfl) (by kernel_rfl) (fun _ _ _ h => h) (by rfl) ?_ ?_
    rotate_left
    · (intro w'; go_simp; try with_reducible rfl)
    simp only [List.setIfInBounds_toArray, List.set_cons_zero, List.set_cons_succ]
    refine wpAnyM_take 3 56 (v := ?_) rfl rfl (by kernel_rfl) (by kernel_rfl) (by kernel_rfl) (by kernel_rfl) (fun _ _ _ h => h) (by rfl) ?_ hS0 ?_
    rotate_left
    · (intro w' hSw; obtain ⟨q1, q2, q3, q4, q5, q6⟩ := hSw; go_simp; try with_reducible rfl)
    simp only [List.setIfInBounds_toArray, List.set_cons_zero, List.set_cons_succ]
    refine wpAnyM_take0 4 57 (v := ?_) rfl rfl (by kernel_rfl) (by kernel_rfl) (by kernel_rfl) (fun _ _ _ h => h) (by rfl) ?_ ?_
    rotate_left
    · (intro w'; go_simp; try with_reducible rfl)
    simp only [List.setIfInBounds_toArray, List.set_cons_zero, List.set_cons_succ]
    refine wpAnyM_take0 5 58 (v := ?_) rfl rfl (by kernel_rfl) (by kernel_rfl) (by kernel_rfl) (fun _ _ _ h => h) (by rfl) ?_ ?_
    rotate_left
    · (intro w'; go_simp; try with_reducible rfl)
    simp only [List.setIfInBounds_toArray, List.set_cons_zero, List.set_cons_succ]
    refine wpAnyM_take0 6 59 (v := ?_) rfl rfl (by kernel_rfl) (by kernel_rfl) (by kernel_rfl) (fun _ _ _ h => h) (by rfl) ?_ ?_
    rotate_left
    · (intro w'; go_simp; try with_reducible rfl)
    simp only [List.setIfInBounds_toArray, List.set_cons_zero, List.set_cons_succ]
    refine wpAnyM_take0 7 60 (v := ?_) rfl rfl (by kernel_rfl) (by kernel_rfl) (by kernel_rfl) (fun _ _ _ h => h) (by rfl) ?_ ?_
    rotate_left
    · (intro w'; go_simp; try with_reducible rfl)
    simp only [List.setIfInBounds_toArray, List.set_cons_zero, List.set_cons_succ]
    refine wpAnyM_take 8 61 (v := ?_) rfl rfl (by kernel_rfl) (by kernel_rfl) (by kernel_rfl) (by kernel_rfl) (fun _ _ _ h => h) (by rfl) ?_ hS0 ?_
    rotate_left
    · (intro w' hSw; obtain ⟨q1, q2, q3, q4, q5, q6⟩ := hSw; go_simp; try with_reducible rfl)
    simp only [List.setIfInBounds_toArray, List.set_cons_zero, List.set_cons_succ]
    refine wpAnyM_take0 9 62 (v := ?_) rfl rfl (by kernel_rfl) (by kernel_rfl) (by kernel_rfl) (fun _ _ _ h => h) (by rfl) ?_ ?_
    rotate_left
    · (intro w'; go_simp; try with_reducible rfl)
    simp only [List.setIfInBounds_toArray, List.set_cons_zero, List.set_cons_succ]
    refine wpAnyM_take0 10 63 (v := ?_) rfl rfl (by kernel_rfl) (by kernel_rfl) (by kernel_rfl) (fun _ _ _ h => h) (by rfl) ?_ ?_
    rotate_left
    · (intro w'; go_simp; try with_reducible rfl)
    simp only [List.setIfInBounds_toArray, List.set_cons_zero, List.set_cons_succ]
    refine wpAnyM_take0 11 64 (v := ?_) rfl rfl (by kernel_rfl) (by kernel_rfl) (by kernel_rfl) (fun _ _ _ h => h) (by rfl) ?_ ?_
    rotate_left
    · (intro w'; go_simp; try with_reducible rfl)
    simp only [List.setIfInBounds_toArray, List.set_cons_zero, List.set_cons_succ]
    refine wpAnyM_take0 12 65 (v := ?_) rfl rfl (by kernel_rfl) (by kernel_rfl) (by kernel_rfl) (fun _ _ _ h => h) (by rfl) ?_ ?_
    rotate_left
    · (intro w'; go_simp; try with_reducible rfl)
    simp only [List.setIfInBounds_toArray, List.set_cons_zero, List.set_cons_succ]
    refine wpAnyM_take 13 66 (v := ?_) rfl rfl (by kernel_rfl) (by kernel_rfl) (by kernel_rfl) (by kernel_rfl) (fun _ _ _ h => h) (by rfl) ?_ hS0 ?_
    rotate_left
    · (intro w' hSw; obtain ⟨q1, q2, q3, q4, q5, q6⟩ := hSw; go_simp; try with_reducible rfl)
    simp only [List.setIfInBounds_toArray, List.set_cons_zero, List.set_cons_succ]
    refine wpAnyM_take0 14 67 (v := ?_) rfl rfl (by kernel_rfl) (by kernel_rfl) (by kernel_rfl) (fun _ _ _ h => h) (by rfl) ?_ ?_
    rotate_left
    · (intro w'; go_simp; try with_reducible rfl)
    simp only [List.setIfInBounds_toArray, List.set_cons_zero, List.set_cons_succ]
    refine wpAnyM_take 15 68 (v := ?_) rfl rfl (by kernel_rfl) (by kernel_rfl) (by kernel_rfl) (by kernel_rfl) (fun _ _ _ h => h) (by rfl) ?_ hS0 ?_
    rotate_left
    · (intro w' hSw; obtain ⟨q1, q2, q3, q4, q5, q6⟩ := hSw; go_simp; try with_reducible rfl)
    simp only [List.setIfInBounds_toArray, List.set_cons_zero, List.set_cons_succ]
    refine wpAnyM_take0 16 69 (v := ?_) rfl rfl (by kernel_rfl) (by kernel_rfl) (by kernel_rfl) (fun _ _ _ h => h) (by rfl) ?_ ?_
    rotate_left
    · (intro w'; go_simp; try with_reducible rfl)
    simp only [List.setIfInBounds_toArray, List.set_cons_zero, List.set_cons_succ]
    refine wpAnyM_take0 17 70 (v := ?_) rfl rfl (by kernel_rfl) (by kernel_rfl) (by kernel_rfl) (fun _ _ _ h => h) (by rfl) ?_ ?_
    rotate_left
    · (intro w'; go_simp; try with_reducible rfl)
    simp only [List.setIfInBounds_toArray, List.set_cons_zero, List.set_cons_succ]
    refine wpAnyM_take0 18 71 (v := ?_) rfl rfl (by kernel_rfl) (by kernel_rfl) (by kernel_rfl) (fun _ _ _ h => h) (by rfl) ?_ ?_
    rotate_left
    · (intro w'; go_simp; try with_reducible rfl)
    simp only [List.setIfInBounds_toArray, List.set_cons_zero, List.set_cons_succ]
    refine wpAnyM_take 19 72 (v := ?_) rfl rfl (by kernel_rfl) (by kernel_rfl) (by kernel_rfl) (by kernel_rfl) (fun _ _ _ h => h) (by rfl) ?_ hS0 ?_
    rotate_left
    · (intro w' hSw; obtain ⟨q1, q2, q3, q4, q5, q6⟩ := hSw; go_simp; try with_reducible rfl)
    simp only [List.setIfInBounds_toArray, List.set_cons_zero, List.set_cons_succ]
    refine wpAnyM_take0 20 73 (v := ?_) rfl rfl (by kernel_rfl) (by kernel_rfl) (by kernel_rfl) (fun _ _ _ h => h) (by rfl) ?_ ?_
    rotate_left
    · (intro w'; go_simp; try with_reducible rfl)
    simp only [List.setIfInBounds_toArray, List.set_cons_zero, List.set_cons_succ]
    refine wpAnyM_take 21 74 (v := ?_) rfl rfl (by kernel_rfl) (by kernel_rfl) (by kernel_rfl) (by kernel_rfl) (fun _ _ _ h => h) (by rfl) ?_ hS0 ?_
    rotate_left
    · (intro w' hSw; obtain ⟨q1, q2, q3, q4, q5, q6⟩ := hSw; go_simp; try with_reducible rfl)
    simp only [List.setIfInBounds_toArray, List.set_cons_zero, List.set_cons_succ]
    have HRb := Lib.hid (Nds.setK HR.out.drew (i := i) (u := Value.string sl) rfl (show i < m by omega) ⟨_, rfl⟩)
    have d2 := Lib.hid (HRb.out.nod ⟨b, .slice (some ⟨kg, 0, none⟩) m kvc, .slice (some ⟨vg, 0, none⟩) m vvc, .slice (some ⟨cg, 0, none⟩) (m + 1) cc, ks.set i (Value.string sl), vs, ps⟩ (by simp))
    have k1 : X2.drew.cell? ⟨kg, i, none⟩ = some (Value.string s3) := d1.out.kcell K3.out
    have k2 : X2.drew.frozen? ⟨kg, i, none⟩ = false := (show Row X2.drew 9 (.slice (some ⟨kg, 0, none⟩) m kvc) ks from d1.out.kr).frozen_ i
    have v1 : (X2.drew.setCell ⟨kg, i, none⟩ (Value.string sl)).cell? ⟨vg, i, none⟩ = some (Value.string z3) := d2.out.vcell V3.out
    have v2 : (X2.drew.setCell ⟨kg, i, none⟩ (Value.string sl)).frozen? ⟨vg, i, none⟩ = false := (show Row (X2.drew.setCell ⟨kg, i, none⟩ (Value.string sl)) 9 (.slice (some ⟨vg, 0, none⟩) m vvc) vs from d2.out.vr).frozen_ i
    refine wpAnyM_val 22 75 (v := .pointer (some ⟨kg, i, none⟩)) (w' := X2.drew) rfl rfl (by kernel_rfl) (by rfl) (by go_simp; try rfl) (.inr (fun h => h)) ?_
    simp only [List.setIfInBounds_toArray, List.set_cons_zero, List.set_cons_succ]
    refine wpAnyM_skip 23 (w' := (X2.drew.setCell ⟨kg, i, none⟩ (Value.string sl))) rfl rfl (by kernel_rfl) (by rfl) (by go_simp; try rfl) (.inl (by simp)) ?_
    generalize hE : (X2.drew.setCell ⟨kg, i, none⟩ (Value.string sl)) = Y1 at *
    refine wpAnyM_val 24 76 (v := .pointer (some ⟨vg, i, none⟩)) (w' := Y1) rfl rfl (by kernel_rfl) (by rfl) (by go_simp; try rfl) (.inr (fun h => h)) ?_
    simp only [List.setIfInBounds_toArray, List.set_cons_zero, List.set_cons_succ]
    refine wpAnyM_skip 25 (w' := Y1.setCell ⟨vg, i, none⟩ (Value.string zu)) rfl rfl (by kernel_rfl) (by rfl) (by go_simp; try rfl) (.inl (by simp)) ?_
    have HRc := Lib.hid (Nds.setV HRb.out (i := i) (u := Value.string zu) rfl (show i < m by omega) ⟨zu, rfl⟩)
    refine wpAnyM_done (by kernel_rfl) ?_ _
    refine NoPanic.normal ?_
    generalize Y1.setCell ⟨vg, i, none⟩ (Value.string zu) = X3 at *
    clear hS0 k1 k2 v1 v2 HR HRb d1 s1 d2
    try clear hE
    have HR := HRc
    clear HRc
    have HRx := Lib.hid (HR.out.perm (show List.Perm _ [⟨bb, .slice (some ⟨bk, 0, none⟩) (p + 1) bc, .slice (some ⟨bvg, 0, none⟩) (p + 1) bv, .slice CB1 0 bq, bks, bvs, bps⟩, ⟨b, .slice (some ⟨kg, 0, none⟩) m kvc, .slice (some ⟨vg, 0, none⟩) m vvc, .slice (some ⟨cg, 0, none⟩) (m + 1) cc, ks.set i (Value.string sl), vs.set i (Value.string zu), ps⟩, ⟨ab, .slice NK (3 + 1) nKq, .slice NV (3 + 1) nVq, .slice CA1 0 aq, aks ++ [Value.string s3], avs ++ [Value.string z3], aps⟩] from (List.Perm.trans (List.Perm.cons _ (List.Perm.swap _ _ _)) (List.Perm.swap _ _ _))))
    clear HR
    have HR := HRx
    clear HRx
    have n1 := Lib.hid (HR.out.nod ⟨bb, .slice (some ⟨bk, 0, none⟩) (p + 1) bc, .slice (some ⟨bvg, 0, none⟩) (p + 1) bv, .slice CB1 0 bq, bks, bvs, bps⟩ (by simp))
    have c0 : X3.cell? ⟨bb, 0, none⟩ = some (.slice (some ⟨bk, 0, none⟩) (p + 1) bc) := n1.out.blk.cell 0
    have hdel := Lib.hid (show Calls Try.prog 94 #[.slice (some ⟨bk, 0, none⟩) (p + 1) bc, .int .i64 0, .int .i64 1] X3 (DelPostN X3 9 (.slice (some ⟨bk, 0, none⟩) (p + 1) bc) p (bks.drop 1)) from
      (deleteS X3 (.slice (some ⟨bk, 0, none⟩) (p + 1) bc) bks 0 n1.out.kr (by have := LD.out; omega) (by have := LD.out; omega) (StrV.one OB.out.1)).mono fun _ _ h => delPostN (by have := LD.out; simp; omega) h)
    go_wp2_with fail
    refine hdel.out.mono ?_
    clear hdel
    rintro e w6 ⟨MK, mKq, rfl, hrow, hchg, hown⟩
    have hmid := Nds.mid HR.out (v := .slice (some ⟨bk, 0, none⟩) (p + 1) bc) (.inl rfl) hchg
    have hb4 := hmid.1
    have d0 : w6.cell? ⟨bb, 0, none⟩ = some (.slice (some ⟨bk, 0, none⟩) (p + 1) bc) := hb4.cell 0
    have d1 : w6.frozen? ⟨bb, 0, none⟩ = false := hb4.frozen 0
    have ok6 : ∀ u ∈ bks.drop 1, StrV u := fun u hu => OB.out.1 u (List.mem_of_mem_drop hu)
    have h6 := Nds.slotK HR.out hchg hrow ok6 hown
    have HRm := Lib.hid h6
    clear hrow hchg hown hmid hb4 ok6 h6 c0 n1 HR
    have HR := HRm
    clear HRm
    go_upto_region 5 with fail
    generalize w6.setCell ⟨bb, 0, none⟩ (.slice MK p mKq) = X4 at *
    clear d0 d1
    have n1 := Lib.hid (HR.out.nod ⟨bb, .slice MK p mKq, .slice (some ⟨bvg, 0, none⟩) (p + 1) bv, .slice CB1 0 bq, bks.drop 1, bvs, bps⟩ (by simp))
    have c0 : X4.cell? ⟨bb, 1, none⟩ = some (.slice (some ⟨bvg, 0, none⟩) (p + 1) bv) := n1.out.blk.cell 1
    have hdel := Lib.hid (show Calls Try.prog 94 #[.slice (some ⟨bvg, 0, none⟩) (p + 1) bv, .int .i64 0, .int .i64 1] X4 (DelPostN X4 9 (.slice (some ⟨bvg, 0, none⟩) (p + 1) bv) p (bvs.drop 1)) from
      (deleteS X4 (.slice (some ⟨bvg, 0, none⟩) (p + 1) bv) bvs 0 n1.out.vr (by have := LD.out; omega) (by have := LD.out; omega) (StrV.one OB.out.2.1)).mono fun _ _ h => delPostN (by have := LD.out; simp; omega) h)
    go_wp2_with fail
    refine hdel.out.mono ?_
    clear hdel
    rintro e w6 ⟨MV, mVq, rfl, hrow, hchg, hown⟩
    have hmid := Nds.mid HR.out (v := .slice (some ⟨bvg, 0, none⟩) (p + 1) bv) (.inr (.inl rfl)) hchg
    have hb4 := hmid.1
    have d0 : w6.cell? ⟨bb, 1, none⟩ = some (.slice (some ⟨bvg, 0, none⟩) (p + 1) bv) := hb4.cell 1
    have d1 : w6.frozen? ⟨bb, 1, none⟩ = false := hb4.frozen 1
    have ok6 : ∀ u ∈ bvs.drop 1, StrV u := fun u hu => OB.out.2.1 u (List.mem_of_mem_drop hu)
    have h6 := Nds.slotV HR.out hchg hrow ok6 hown
    have HRm := Lib.hid h6
    clear hrow hchg hown hmid hb4 ok6 h6 c0 n1 HR
    have HR := HRm
    clear HRm
    go_upto_region 6 with fail
    generalize w6.setCell ⟨bb, 1, none⟩ (.slice MV p mVq) = X5 at *
    clear d0 d1
    have a0 := Lib.hid (HR.out.nod ⟨bb, .slice MK p mKq, .slice MV p mVq, .slice CB1 0 bq, bks.drop 1, bvs.drop 1, bps⟩ (by simp))
    have hl := Lib.hid (leafS X5 bb 0 bq _ _ CB1 a0.out.blk)
    go_wp2_with (go_at_call 64; refine hl.out.mono ?_; rintro e w' ⟨rfl, rfl⟩)
    go_end0
    have HRx := Lib.hid (HR.out.perm (show List.Perm _ [⟨b, .slice (some ⟨kg, 0, none⟩) m kvc, .slice (some ⟨vg, 0, none⟩) m vvc, .slice (some ⟨cg, 0, none⟩) (m + 1) cc, ks.set i (Value.string sl), vs.set i (Value.string zu), ps⟩, ⟨ab, .slice NK (3 + 1) nKq, .slice NV (3 + 1) nVq, .slice CA1 0 aq, aks ++ [Value.string s3], avs ++ [Value.string z3], aps⟩, ⟨bb, .slice MK p mKq, .slice MV p mVq, .slice CB1 0 bq, bks.drop 1, bvs.drop 1, bps⟩] from (List.Perm.trans (List.Perm.swap _ _ _) (List.Perm.cons _ (List.Perm.swap _ _ _)))))
    clear HR
    have HR := HRx
    have g3 : ks.getD i undef = .string s3 := by rw [List.getD_eq_getElem?_getD, K3.out]; rfl
    have g4 : vs.getD i undef = Value.string z3 := by rw [List.getD_eq_getElem?_getD, V3.out]; rfl
    have g5 : bks.getD 0 undef = .string sl := by rw [List.getD_eq_getElem?_getD, KL.out]; rfl
    have g6 : bvs.getD 0 undef = Value.string zu := by rw [List.getD_eq_getElem?_getD, VL.out]; rfl
    refine ⟨rfl, _, _, _, HR.out, rfl, rfl, rfl, ?_, ?_, rfl, ?_, ?_, rfl, rfl, ?_⟩
    · show _ = ks.set i (bks.getD 0 undef)
      rw [g5]
    · show _ = vs.set i (bvs.getD 0 undef)
      rw [g6]
    · show _ = aks ++ [ks.getD i undef]
      rw [g3]
    · show _ = avs ++ [vs.getD i undef]
      rw [g4]
    · exact ⟨fun _ => ⟨rfl, rfl⟩, fun h => by cases h⟩

set_option maxHeartbeats 16000000 in
set_option maxRecDepth 100000 in
theorem fright_innerS (L F : List Nat) (w0 w : World) (n a c : RN) (i m p : Nat) (H : Nds TS L F w0 w [n, a, c]) (hm : n.ks.length = m) (hm7 : m ≤ 7) (hv : n.vs.length = m) (hp : n.ps.length = m + 1) (hi : i < m)
    (ha : n.ps[i]? = some (.pointer (some ⟨a.b, 0, none⟩))) (hb : n.ps[i + 1]? = some (.pointer (some ⟨c.b, 0, none⟩))) (a3 : a.ks.length = 3) (a3v : a.vs.length = 3) (b3 : c.ks.length = p + 1) (b3v : c.vs.length = p + 1)
    (pa : a.ps.length = 4) (pb : c.ps.length = (p + 2)) (hp6 : p ≤ 6) :
    Calls Try.prog 117 #[.pointer (some ⟨n.b, 0, none⟩), .int .i64 i] w (FRightPostS L F w0 n a c i true) := by
  have HN := H.nod n (by simp)
  have HA := H.nod a (by simp)
  have HC := H.nod c (by simp)
  obtain ⟨b, kv, vv, cv, ks, vs, ps⟩ := n
  obtain ⟨ab, akv, avv, acv, aks, avs, aps⟩ := a
  obtain ⟨bb, bkv, bvv, bcv, bks, bvs, bps⟩ := c
  simp only at hm hv hp ha hb a3 a3v b3 b3v pa pb HN HA HC
  obtain ⟨CA, cc, rfl, hcc1, hcc2, hcc3, hcc4⟩ := (show Row w 99 cv ps from HN.cr).formN hp
  obtain ⟨cg, rfl⟩ := hcc4 (by omega)
  obtain ⟨KA, kvc, rfl, hka1, hka2, -, hka4⟩ := (show Row w 9 kv ks from HN.kr).formN hm
  obtain ⟨kg, rfl⟩ := hka4 (by omega)
  obtain ⟨VA, vvc, rfl, hva1, hva2, -, hva4⟩ := (show Row w 9 vv vs from HN.vr).formN hv
  obtain ⟨vg, rfl⟩ := hva4 (by omega)
  obtain ⟨KA1, ac, rfl, hac1, hac2, -, hac4⟩ := (show Row w 9 akv aks from HA.kr).formN a3
  obtain ⟨ak, rfl⟩ := hac4 (by omega)
  obtain ⟨VA1, av, rfl, hav1, hav2, -, hav4⟩ := (show Row w 9 avv avs from HA.vr).formN a3v
  obtain ⟨avg, rfl⟩ := hav4 (by omega)
  obtain ⟨CA1, aq, rfl, haq1, haq2, -, haq4⟩ := (show Row w 99 acv aps from HA.cr).formN pa
  obtain ⟨KB1, bc, rfl, hbc1, hbc2, -, hbc4⟩ := (show Row w 9 bkv bks from HC.kr).formN b3
  obtain ⟨bk, rfl⟩ := hbc4 (by omega)
  obtain ⟨VB1, bv, rfl, hbv1, hbv2, -, hbv4⟩ := (show Row w 9 bvv bvs from HC.vr).formN b3v
  obtain ⟨bvg, rfl⟩ := hbv4 (by omega)
  obtain ⟨CB1, bq, rfl, hbq1, hbq2, -, hbq4⟩ := (show Row w 99 bcv bps from HC.cr).formN pb
  obtain ⟨acg, rfl⟩ := haq4 (by omega)
  obtain ⟨bcg, rfl⟩ := hbq4 (by omega)
  obtain ⟨k3, hk3⟩ : ∃ u, ks[i]? = some u := ⟨_, List.getElem?_eq_getElem (by omega)⟩
  obtain ⟨v3, hv3⟩ : ∃ u, vs[i]? = some u := ⟨_, List.getElem?_eq_getElem (by omega)⟩
  obtain ⟨kl, hkl⟩ : ∃ u, bks[0]? = some u := ⟨_, List.getElem?_eq_getElem (by omega)⟩
  obtain ⟨vl, hvl⟩ : ∃ u, bvs[0]? = some u := ⟨_, List.getElem?_eq_getElem (by omega)⟩
  obtain ⟨s3, rfl⟩ := HN.kS k3 (List.mem_of_getElem? hk3)
  obtain ⟨z3, rfl⟩ := HN.vS v3 (List.mem_of_getElem? hv3)
  obtain ⟨sl, rfl⟩ := HC.kS kl (List.mem_of_getElem? hkl)
  obtain ⟨zu, rfl⟩ := HC.vS vl (List.mem_of_getElem? hvl)
  obtain ⟨pl, hpl⟩ : ∃ u, bps[0]? = some u := ⟨_, List.getElem?_eq_getElem (by omega)⟩
  obtain ⟨pb1, rfl⟩ := HC.pS pl (List.mem_of_getElem? hpl)
  have PL := Lib.hid hpl
  clear hpl
  obtain ⟨_, e1, hci, -⟩ := hcc3 i _ ha
  cases e1
  obtain ⟨_, e1, hci1, -⟩ := hcc3 (i + 1) _ hb
  cases e1
  have h2 : w.cell? ⟨b, 2, none⟩ = some (.slice (some ⟨cg, 0, none⟩) (m + 1) cc) := HN.blk.cell 2
  have hiz : (i : Int) < (m : Int) + 1 := by omega
  have him : (i : Int) < (m : Int) := by omega
  have hi1z : (i : Int) + 1 < (m : Int) + 1 := by omega
  have hi0 : (0 : Int) ≤ (i : Int) + 1 := by omega
  have hw1 : IntKind.i64.wrap ((i : Int) + 1) = (i : Int) + 1 := by rw [IntKind.wrap_i64]; omega
  have hw0 : IntKind.i64.wrap (i : Int) = (i : Int) := by rw [IntKind.wrap_i64]; omega
  have hw3 : IntKind.i64.wrap ((i : Int) + 1 - 1) = (i : Int) := by rw [IntKind.wrap_i64]; omega
  have ht1 : ((i : Int) + 1).toNat = i + 1 := by omega
  have hpz : (p : Int) < (p : Int) + 1 := by omega
  have hpz2 : (p : Int) + 1 < (p : Int) + 2 := by omega
  have hp0 : (0 : Int) ≤ (p : Int) + 1 := by omega
  have hp1 : IntKind.i64.wrap ((p : Int) + 1 - 1) = (p : Int) := by rw [IntKind.wrap_i64]; omega
  have hp2 : IntKind.i64.wrap (p : Int) = (p : Int) := by rw [IntKind.wrap_i64]; omega
  have hp3 : IntKind.i64.wrap ((p : Int) + 1) = (p : Int) + 1 := by rw [IntKind.wrap_i64]; omega
  have ht2 : ((p : Int) + 1).toNat = p + 1 := by omega
  have OK := Lib.hid (And.intro HN.kS (And.intro HN.vS HN.pS))
  have OA := Lib.hid (And.intro HA.kS (And.intro HA.vS HA.pS))
  have OB := Lib.hid (And.intro HC.kS (And.intro HC.vS HC.pS))
  have LD := Lib.hid (And.intro a3 (And.intro a3v (And.intro b3 (And.intro b3v (And.intro pa (And.intro pb (And.intro hm (And.intro hv (And.intro hp hp6)))))))))
  have HH := Lib.hid H
  have K3 := Lib.hid hk3
  have V3 := Lib.hid hv3
  have KL := Lib.hid hkl
  have VL := Lib.hid hvl
  have hp4 : (0 : Int) < (p : Int) + 1 := by omega
  have hp5 : (0 : Int) < (p : Int) + 2 := by omega
  clear H HN HA HC hcc3 hcc4 hka4 hva4 hac4 hav4 hbc4 hbv4 haq4 hbq4 ha hb a3 a3v b3 b3v pa pb hm hv hp
  clear hk3 hv3 hkl hvl
  go_enter Try.func117, Try.ntmps117
  go_upto_region 0 with fail
  go_cut [4, 5] from 6 (fun s4 s5 wc => s4 = .pointer (some ⟨ab, 0, none⟩) ∧ s5 = .pointer (some ⟨bb, 0, none⟩) ∧ Hid (Nds TS L F w0 wc [⟨b, .slice (some ⟨kg, 0, none⟩) m kvc, .slice (some ⟨vg, 0, none⟩) m vvc, .slice (some ⟨cg, 0, none⟩) (m + 1) cc, ks, vs, ps⟩, ⟨ab, .slice (some ⟨ak, 0, none⟩) 3 ac, .slice (some ⟨avg, 0, none⟩) 3 av, .slice (some ⟨acg, 0, none⟩) 4 aq, aks, avs, aps⟩, ⟨bb, .slice (some ⟨bk, 0, none⟩) (p + 1) bc, .slice (some ⟨bvg, 0, none⟩) (p + 1) bv, .slice (some ⟨bcg, 0, none⟩) (p + 2) bq, bks, bvs, bps⟩]))
  case first =>
    go_quiet (fail)
    go_wp2_with fail
    go_meet
    case rel => exact ⟨rfl, rfl, Lib.hid (HH.out.drewN _)⟩
  case rest =>
    obtain ⟨rfl, rfl, HR⟩ := hcut
    clear hci hci1 h2 HH
    have HRx := Lib.hid (HR.out.perm (show List.Perm _ [⟨ab, .slice (some ⟨ak, 0, none⟩) 3 ac, .slice (some ⟨avg, 0, none⟩) 3 av, .slice (some ⟨acg, 0, none⟩) 4 aq, aks, avs, aps⟩, ⟨b, .slice (some ⟨kg, 0, none⟩) m kvc, .slice (some ⟨vg, 0, none⟩) m vvc, .slice (some ⟨cg, 0, none⟩) (m + 1) cc, ks, vs, ps⟩, ⟨bb, .slice (some ⟨bk, 0, none⟩) (p + 1) bc, .slice (some ⟨bvg, 0, none⟩) (p + 1) bv, .slice (some ⟨bcg, 0, none⟩) (p + 2) bq, bks, bvs, bps⟩] from (List.Perm.swap _ _ _)))
    clear HR
    have HR := HRx
    clear HRx
    have d1 := Lib.hid (HR.out.nod ⟨ab, .slice (some ⟨ak, 0, none⟩) 3 ac, .slice (some ⟨avg, 0, none⟩) 3 av, .slice (some ⟨acg, 0, none⟩) 4 aq, aks, avs, aps⟩ (by simp))
    have s1 := Lib.hid (HR.out.nod ⟨b, .slice (some ⟨kg, 0, none⟩) m kvc, .slice (some ⟨vg, 0, none⟩) m vvc, .slice (some ⟨cg, 0, none⟩) (m + 1) cc, ks, vs, ps⟩ (by simp))
    go_wp2_with fail
    refine wp_region_noPanic ?_
    refine wp_region_lateM (fun w' : World => w'.cell? ⟨ab, 0, none⟩ = some (.slice (some ⟨ak, 0, none⟩) 3 ac) ∧ w'.cell? ⟨b, 0, none⟩ = some (.slice (some ⟨kg, 0, none⟩) m kvc) ∧ w'.cell? ⟨kg, i, none⟩ = some (Value.string s3)) [16] (by kernel_rfl) ?_
    have hS0 : (fun w' : World => w'.cell? ⟨ab, 0, none⟩ = some (.slice (some ⟨ak, 0, none⟩) 3 ac) ∧ w'.cell? ⟨b, 0, none⟩ = some (.slice (some ⟨kg, 0, none⟩) m kvc) ∧ w'.cell? ⟨kg, i, none⟩ = some (Value.string s3)) wc.drew := ⟨d1.out.blk.cell 0, s1.out.blk.cell 0, s1.out.kcell K3.out⟩
    refine wpAnyM_take0 0 21 (v := ?_) rfl rfl (by kernel_rfl) (by kernel_rfl) (by kernel_rfl) (fun _ _ _ h => h) (by rfl) ?_ ?_
    rotate_left
    · (intro w'; go_simp; try with_reducible rfl)
    simp only [List.setIfInBounds_toArray, List.set_cons_zero, List.set_cons_succ]
    refine wpAnyM_take0 1 22 (v := ?_) rfl rfl (by kernel_rfl) (by kernel_rfl) (by kernel_rfl) (fun _ _ _ h => h) (by rfl) ?_ ?_
    rotate_left
    · (intro w'; go_simp; try with_reducible rfl)
    simp only [List.setIfInBounds_toArray, List.set_cons_zero, List.set_cons_succ]
    refine wpAnyM_take0 2 23 (v := ?_) rfl rfl (by kernel_rfl) (by kernel_rfl) (by kernel_rfl) (fun _ _ _ h => h) (by rfl) ?_ ?_
    rotate_left
    · (intro w'; go_simp; try with_reducible rfl)
    simp only [List.setIfInBounds_toArray, List.set_cons_zero, List.set_cons_succ]
    refine wpAnyM_take0 3 24 (v := ?_) rfl rfl (by kernel_rfl) (by kernel_rfl) (by kernel_rfl) (fun _ _ _ h => h) (by rfl) ?_ ?_
    rotate_left
    · (intro w'; go_simp; try with_reducible rfl)
    simp only [List.setIfInBounds_toArray, List.set_cons_zero, List.set_cons_succ]
    refine wpAnyM_take 4 25 (v := ?_) rfl rfl (by kernel_rfl) (by kernel_rfl) (by kernel_rfl) (by kernel_rfl) (fun _ _ _ h => h) (by rfl) ?_ hS0 ?_
    rotate_left
    · (intro w' hSw; obtain ⟨q1, q2, q3⟩ := hSw; go_simp; try with_reducible rfl)
    simp only [List.setIfInBounds_toArray, List.set_cons_zero, List.set_cons_succ]
    refine wpAnyM_take0 5 26 (v := ?_) rfl rfl (by kernel_rfl) (by kernel_rfl) (by kernel_rfl) (fun _ _ _ h => h) (by rfl) ?_ ?_
    rotate_left
    · (intro w'; go_simp; try with_reducible rfl)
    simp only [List.setIfInBounds_toArray, List.set_cons_zero, List.set_cons_succ]
    refine wpAnyM_take0 6 27 (v := ?_) rfl rfl (by kernel_rfl) (by kernel_rfl) (by kernel_rfl) (fun _ _ _ h => h) (by rfl) ?_ ?_
    rotate_left
    · (intro w'; go_simp; try with_reducible rfl)
    simp only [List.setIfInBounds_toArray, List.set_cons_zero, List.set_cons_succ]
    refine wpAnyM_take0 7 28 (v := ?_) rfl rfl (by kernel_rfl) (by kernel_rfl) (by kernel_rfl) (fun _ _ _ h => h) (by rfl) ?_ ?_
    rotate_left
    · (intro w'; go_simp; try with_reducible rfl)
    simp only [List.setIfInBounds_toArray, List.set_cons_zero, List.set_cons_succ]
    refine wpAnyM_take 8 29 (v := ?_) rfl rfl (by kernel_rfl) (by kernel_rfl) (by kernel_rfl) (by kernel_rfl) (fun _ _ _ h => h) (by rfl) ?_ hS0 ?_
    rotate_left
    · (intro w' hSw; obtain ⟨q1, q2, q3⟩ := hSw; go_simp; try with_reducible rfl)
    simp only [List.setIfInBounds_toArray, List.set_cons_zero, List.set_cons_succ]
    refine wpAnyM_take0 9 30 (v := ?_) rfl rfl (by kernel_rfl) (by kernel_rfl) (by kernel_rfl) (fun _ _ _ h => h) (by rfl) ?_ ?_
    rotate_left
    · (intro w'; go_simp; try with_reducible rfl)
    simp only [List.setIfInBounds_toArray, List.set_cons_zero, List.set_cons_succ]
    refine wpAnyM_take0 10 31 (v := ?_) rfl rfl (by kernel_rfl) (by kernel_rfl) (by kernel_rfl) (fun _ _ _ h => h) (by rfl) ?_ ?_
    rotate_left
    · (intro w'; go_simp; try with_reducible rfl)
    simp only [List.setIfInBounds_toArray, List.set_cons_zero, List.set_cons_succ]
    refine wpAnyM_take 11 32 (v := ?_) rfl rfl (by kernel_rfl) (by kernel_rfl) (by kernel_rfl) (by kernel_rfl) (fun _ _ _ h => h) (by rfl) ?_ hS0 ?_
    rotate_left
    · (intro w' hSw; obtain ⟨q1, q2, q3⟩ := hSw; go_simp; try with_reducible rfl)
    simp only [List.setIfInBounds_toArray, List.set_cons_zero, List.set_cons_succ]
    have HRb := Lib.hid (HR.out.drew.alloc (.cells #[Value.string s3] 9))
    have d2 := Lib.hid (HRb.out.nod ⟨ab, .slice (some ⟨ak, 0, none⟩) 3 ac, .slice (some ⟨avg, 0, none⟩) 3 av, .slice (some ⟨acg, 0, none⟩) 4 aq, aks, avs, aps⟩ (by simp))
    have s2 := Lib.hid (HRb.out.nod ⟨b, .slice (some ⟨kg, 0, none⟩) m kvc, .slice (some ⟨vg, 0, none⟩) m vvc, .slice (some ⟨cg, 0, none⟩) (m + 1) cc, ks, vs, ps⟩ (by simp))
    have hS1 : (fun w' : World => w'.cell? ⟨ab, 0, none⟩ = some (.slice (some ⟨ak, 0, none⟩) 3 ac) ∧ w'.cell? ⟨b, 0, none⟩ = some (.slice (some ⟨kg, 0, none⟩) m kvc) ∧ w'.cell? ⟨kg, i, none⟩ = some (Value.string s3)) (wc.drew.alloc (.cells #[Value.string s3] 9)) := ⟨d2.out.blk.cell 0, s2.out.blk.cell 0, s2.out.kcell K3.out⟩
    refine wpAnyM_val 12 33 (v := .slice (some ⟨wc.heap.size, 0, none⟩) 1 1) (w' := (wc.drew.alloc (.cells #[Value.string s3] 9))) rfl rfl (by kernel_rfl) (by rfl) (by go_simp; try rfl) (.inr fun _ => hS1) ?_
    simp only [List.setIfInBounds_toArray, List.set_cons_zero, List.set_cons_succ]
    have one1 : ∀ u ∈ [Value.string s3], u.oneCell' = true := fun u hu => by rw [List.mem_singleton.1 hu]; rfl
    obtain ⟨NK, nKq, w4, hr1, hrow, hchg, hown⟩ := run_append_N (P := Try.prog) slTyS 37 (show Row (wc.drew.alloc (.cells #[Value.string s3] 9)) 9 (.slice (some ⟨ak, 0, none⟩) 3 ac) aks from d2.out.kr) (Row.new1 wc.drew 9 (Value.string s3)) one1 (by have := LD.out; omega)
    have hmid := Nds.mid HRb.out (v := .slice (some ⟨ak, 0, none⟩) 3 ac) (.inl rfl) hchg
    have sn3 : NodR TS w4 ⟨b, .slice (some ⟨kg, 0, none⟩) m kvc, .slice (some ⟨vg, 0, none⟩) m vvc, .slice (some ⟨cg, 0, none⟩) (m + 1) cc, ks, vs, ps⟩ := hmid.2 _ (by simp)
    have hS2 : (fun w' : World => w'.cell? ⟨ab, 0, none⟩ = some (.slice (some ⟨ak, 0, none⟩) 3 ac) ∧ w'.cell? ⟨b, 0, none⟩ = some (.slice (some ⟨kg, 0, none⟩) m kvc) ∧ w'.cell? ⟨kg, i, none⟩ = some (Value.string s3)) w4 := ⟨hmid.1.cell 0, sn3.blk.cell 0, sn3.kcell K3.out⟩
    refine wpAnyM_val 13 34 (v := .slice NK (3 + 1) nKq) (w' := w4) rfl rfl (by kernel_rfl) (by rfl) (run_append_op (.tmp 25) (.tmp 33) 37 37 rfl rfl rfl hr1) (.inr fun _ => hS2) ?_
    simp only [List.setIfInBounds_toArray, List.set_cons_zero, List.set_cons_succ]
    have hf4 : w4.frozen? ⟨ab, 0, none⟩ = false := hmid.1.frozen 0
    have hc4 : w4.cell? ⟨ab, 0, none⟩ = some (.slice (some ⟨ak, 0, none⟩) 3 ac) := hmid.1.cell 0
    have ok6 : ∀ u ∈ aks ++ [Value.string s3], StrV u := fun u hu => by
      rcases List.mem_append.1 hu with hu | hu
      · exact OA.out.1 u hu
      · rw [List.mem_singleton.1 hu]; exact ⟨_, rfl⟩
    have h6 := Nds.slotK HRb.out hchg hrow ok6 hown
    have HRc := Lib.hid h6
    clear hrow hchg hown hmid sn3 ok6 h6 hr1 one1
    refine wpAnyM_val 14 35 (v := .pointer (some ⟨ab, 0, none⟩)) (w' := w4) rfl rfl (by kernel_rfl) (by rfl) (by go_simp; try rfl) (.inr (fun h => h)) ?_
    simp only [List.setIfInBounds_toArray, List.set_cons_zero, List.set_cons_succ]
    refine wpAnyM_val 15 36 (v := .pointer (some ⟨ab, 0, none⟩)) (w' := w4) rfl rfl (by kernel_rfl) (by rfl) (by go_simp; try rfl) (.inr (fun h => h)) ?_
    simp only [List.setIfInBounds_toArray, List.set_cons_zero, List.set_cons_succ]
    refine wpAnyM_skip 16 (w' := w4.setCell ⟨ab, 0, none⟩ (.slice NK (3 + 1) nKq)) rfl rfl (by kernel_rfl) (by rfl) (by go_simp; try rfl) (.inl (by simp)) ?_
    refine wpAnyM_done (by kernel_rfl) ?_ _
    refine NoPanic.normal ?_
    generalize w4.setCell ⟨ab, 0, none⟩ (.slice NK (3 + 1) nKq) = X1 at *
    clear hS0 hS1 hS2 hf4 hc4 HR HRb d1 s1 d2 s2
    have HR := HRc
    clear HRc
    have d1 := Lib.hid (HR.out.nod ⟨ab, .slice NK (3 + 1) nKq, .slice (some ⟨avg, 0, none⟩) 3 av, .slice (some ⟨acg, 0, none⟩) 4 aq, aks ++ [Value.string s3], avs, aps⟩ (by simp))
    have s1 := Lib.hid (HR.out.nod ⟨b, .slice (some ⟨kg, 0, none⟩) m kvc, .slice (some ⟨vg, 0, none⟩) m vvc, .slice (some ⟨cg, 0, none⟩) (m + 1) cc, ks, vs, ps⟩ (by simp))
    go_wp2_with fail
    refine wp_region_noPanic ?_
    refine wp_region_lateM (fun w' : World => w'.cell? ⟨ab, 1, none⟩ = some (.slice (some ⟨avg, 0, none⟩) 3 av) ∧ w'.cell? ⟨b, 1, none⟩ = some (.slice (some ⟨vg, 0, none⟩) m vvc) ∧ w'.cell? ⟨vg, i, none⟩ = some (Value.string z3)) [16] (by kernel_rfl) ?_
    have hS0 : (fun w' : World => w'.cell? ⟨ab, 1, none⟩ = some (.slice (some ⟨avg, 0, none⟩) 3 av) ∧ w'.cell? ⟨b, 1, none⟩ = some (.slice (some ⟨vg, 0, none⟩) m vvc) ∧ w'.cell? ⟨vg, i, none⟩ = some (Value.string z3)) X1.drew := ⟨d1.out.blk.cell 1, s1.out.blk.cell 1, s1.out.vcell V3.out⟩
    refine wpAnyM_take0 0 37 (v := ?_) rfl rfl (by kernel_rfl) (by kernel_rfl) (by kernel_rfl) (fun _ _ _ h => h) (by rfl) ?_ ?_
    rotate_left
    · (intro w'; go_simp; try with_reducible rfl)
    simp only [List.setIfInBounds_toArray, List.set_cons_zero, List.set_cons_succ]
    refine wpAnyM_take0 1 38 (v := ?_) rfl rfl (by kernel_rfl) (by kernel_rfl) (by kernel_rfl) (fun _ _ _ h => h) (by rfl) ?_ ?_
    rotate_left
    · (intro w'; go_simp; try with_reducible rfl)
    simp only [List.setIfInBounds_toArray, List.set_cons_zero, List.set_cons_succ]
    refine wpAnyM_take0 2 39 (v := ?_) rfl rfl (by kernel_rfl) (by kernel_rfl) (by kernel_rfl) (fun _ _ _ h => h) (by rfl) ?_ ?_
    rotate_left
    · (intro w'; go_simp; try with_reducible rfl)
    simp only [List.setIfInBounds_toArray, List.set_cons_zero, List.set_cons_succ]
    refine wpAnyM_take0 3 40 (v := ?_) rfl rfl (by kernel_rfl) (by kernel_rfl) (by kernel_rfl) (fun _ _ _ h => h) (by rfl) ?_ ?_
    rotate_left
    · (intro w'; go_simp; try with_reducible rfl)
    simp only [List.setIfInBounds_toArray, List.set_cons_zero, List.set_cons_succ]
    refine wpAnyM_take 4 41 (v := ?_) rfl rfl (by kernel_rfl) (by kernel_rfl) (by kernel_rfl) (by kernel_rfl) (fun _ _ _ h => h) (by rfl) ?_ hS0 ?_
    rotate_left
    · (intro w' hSw; obtain ⟨q1, q2, q3⟩ := hSw; go_simp; try with_reducible rfl)
    simp only [List.setIfInBounds_toArray, List.set_cons_zero, List.set_cons_succ]
    refine wpAnyM_take0 5 42 (v := ?_) rfl rfl (by kernel_rfl) (by kernel_rfl) (by kernel_rfl) (fun _ _ _ h => h) (by rfl) ?_ ?_
    rotate_left
    · (intro w'; go_simp; try with_reducible rfl)
    simp only [List.setIfInBounds_toArray, List.set_cons_zero, List.set_cons_succ]
    refine wpAnyM_take0 6 43 (v := ?_) rfl rfl (by kernel_rfl) (by kernel_rfl) (by kernel_rfl) (fun _ _ _ h => h) (by rfl) ?_ ?_
    rotate_left
    · (intro w'; go_simp; try with_reducible rfl)
    simp only [List.setIfInBounds_toArray, List.set_cons_zero, List.set_cons_succ]
    refine wpAnyM_take0 7 44 (v := ?_) rfl rfl (by kernel_rfl) (by kernel_rfl) (by kernel_rfl) (fun _ _ _ h => h) (by rfl) ?_ ?_
    rotate_left
    · (intro w'; go_simp; try with_reducible rfl)
    simp only [List.setIfInBounds_toArray, List.set_cons_zero, List.set_cons_succ]
    refine wpAnyM_take 8 45 (v := ?_) rfl rfl (by kernel_rfl) (by kernel_rfl) (by kernel_rfl) (by kernel_rfl) (fun _ _ _ h => h) (by rfl) ?_ hS0 ?_
    rotate_left
    · (intro w' hSw; obtain ⟨q1, q2, q3⟩ := hSw; go_simp; try with_reducible rfl)
    simp only [List.setIfInBounds_toArray, List.set_cons_zero, List.set_cons_succ]
    refine wpAnyM_take0 9 46 (v := ?_) rfl rfl (by kernel_rfl) (by kernel_rfl) (by kernel_rfl) (fun _ _ _ h => h) (by rfl) ?_ ?_
    rotate_left
    · (intro w'; go_simp; try with_reducible rfl)
    simp only [List.setIfInBounds_toArray, List.set_cons_zero, List.set_cons_succ]
    refine wpAnyM_take0 10 47 (v := ?_) rfl rfl (by kernel_rfl) (by kernel_rfl) (by kernel_rfl) (fun _ _ _ h => h) (by rfl) ?_ ?_
    rotate_left
    · (intro w'; go_simp; try with_reducible rfl)
    simp only [List.setIfInBounds_toArray, List.set_cons_zero, List.set_cons_succ]
    refine wpAnyM_take 11 48 (v := ?_) rfl rfl (by kernel_rfl) (by kernel_rfl) (by kernel_rfl) (by kernel_rfl) (fun _ _ _ h => h) (by rfl) ?_ hS0 ?_
    rotate_left
    · (intro w' hSw; obtain ⟨q1, q2, q3⟩ := hSw; go_simp; try with_reducible rfl)
    simp only [List.setIfInBounds_toArray, List.set_cons_zero, List.set_cons_succ]
    have HRb := Lib.hid (HR.out.drew.alloc (.cells #[Value.string z3] 9))
    have d2 := Lib.hid (HRb.out.nod ⟨ab, .slice NK (3 + 1) nKq, .slice (some ⟨avg, 0, none⟩) 3 av, .slice (some ⟨acg, 0, none⟩) 4 aq, aks ++ [Value.string s3], avs, aps⟩ (by simp))
    have s2 := Lib.hid (HRb.out.nod ⟨b, .slice (some ⟨kg, 0, none⟩) m kvc, .slice (some ⟨vg, 0, none⟩) m vvc, .slice (some ⟨cg, 0, none⟩) (m + 1) cc, ks, vs, ps⟩ (by simp))
    have hS1 : (fun w' : World => w'.cell? ⟨ab, 1, none⟩ = some (.slice (some ⟨avg, 0, none⟩) 3 av) ∧ w'.cell? ⟨b, 1, none⟩ = some (.slice (some ⟨vg, 0, none⟩) m vvc) ∧ w'.cell? ⟨vg, i, none⟩ = some (Value.string z3)) (X1.drew.alloc (.cells #[Value.string z3] 9)) := ⟨d2.out.blk.cell 1, s2.out.blk.cell 1, s2.out.vcell V3.out⟩
    refine wpAnyM_val 12 49 (v := .slice (some ⟨X1.heap.size, 0, none⟩) 1 1) (w' := (X1.drew.alloc (.cells #[Value.string z3] 9))) rfl rfl (by kernel_rfl) (by rfl) (by go_simp; try rfl) (.inr fun _ => hS1) ?_
    simp only [List.setIfInBounds_toArray, List.set_cons_zero, List.set_cons_succ]
    have one1 : ∀ u ∈ [Value.string z3], u.oneCell' = true := fun u hu => by rw [List.mem_singleton.1 hu]; rfl
    obtain ⟨NV, nVq, w4, hr1, hrow, hchg, hown⟩ := run_append_N (P := Try.prog) slTyS 37 (show Row (X1.drew.alloc (.cells #[Value.string z3] 9)) 9 (.slice (some ⟨avg, 0, none⟩) 3 av) avs from d2.out.vr) (Row.new1 X1.drew 9 (Value.string z3)) one1 (by have := LD.out; omega)
    have hmid := Nds.mid HRb.out (v := .slice (some ⟨avg, 0, none⟩) 3 av) (.inr (.inl rfl)) hchg
    have sn3 : NodR TS w4 ⟨b, .slice (some ⟨kg, 0, none⟩) m kvc, .slice (some ⟨vg, 0, none⟩) m vvc, .slice (some ⟨cg, 0, none⟩) (m + 1) cc, ks, vs, ps⟩ := hmid.2 _ (by simp)
    have hS2 : (fun w' : World => w'.cell? ⟨ab, 1, none⟩ = some (.slice (some ⟨avg, 0, none⟩) 3 av) ∧ w'.cell? ⟨b, 1, none⟩ = some (.slice (some ⟨vg, 0, none⟩) m vvc) ∧ w'.cell? ⟨vg, i, none⟩ = some (Value.string z3)) w4 := ⟨hmid.1.cell 1, sn3.blk.cell 1, sn3.vcell V3.out⟩
    refine wpAnyM_val 13 50 (v := .slice NV (3 + 1) nVq) (w' := w4) rfl rfl (by kernel_rfl) (by rfl) (run_append_op (.tmp 41) (.tmp 49) 37 37 rfl rfl rfl hr1) (.inr fun _ => hS2) ?_
    simp only [List.setIfInBounds_toArray, List.set_cons_zero, List.set_cons_succ]
    have hf4 : w4.frozen? ⟨ab, 1, none⟩ = false := hmid.1.frozen 1
    have hc4 : w4.cell? ⟨ab, 1, none⟩ = some (.slice (some ⟨avg, 0, none⟩) 3 av) := hmid.1.cell 1
    have ok6 : ∀ u ∈ avs ++ [Value.string z3], StrV u := fun u hu => by
      rcases List.mem_append.1 hu with hu | hu
      · exact OA.out.2.1 u hu
      · rw [List.mem_singleton.1 hu]; exact ⟨z3, rfl⟩
    have h6 := Nds.slotV HRb.out hchg hrow ok6 hown
    have HRc := Lib.hid h6
    clear hrow hchg hown hmid sn3 ok6 h6 hr1 one1
    refine wpAnyM_val 14 51 (v := .pointer (some ⟨ab, 0, none⟩)) (w' := w4) rfl rfl (by kernel_rfl) (by rfl) (by go_simp; try rfl) (.inr (fun h => h)) ?_
    simp only [List.setIfInBounds_toArray, List.set_cons_zero, List.set_cons_succ]
    refine wpAnyM_val 15 52 (v := .pointer (some ⟨ab, 1, none⟩)) (w' := w4) rfl rfl (by kernel_rfl) (by rfl) (by go_simp; try rfl) (.inr (fun h => h)) ?_
    simp only [List.setIfInBounds_toArray, List.set_cons_zero, List.set_cons_succ]
    refine wpAnyM_skip 16 (w' := w4.setCell ⟨ab, 1, none⟩ (.slice NV (3 + 1) nVq)) rfl rfl (by kernel_rfl) (by rfl) (by go_simp; try rfl) (.inl (by simp)) ?_
    refine wpAnyM_done (by kernel_rfl) ?_ _
    refine NoPanic.normal ?_
    generalize w4.setCell ⟨ab, 1, none⟩ (.slice NV (3 + 1) nVq) = X2 at *
    clear hS0 hS1 hS2 hf4 hc4 HR HRb d1 s1 d2 s2
    have HR := HRc
    clear HRc
    have HRx := Lib.hid (HR.out.perm (show List.Perm _ [⟨b, .slice (some ⟨kg, 0, none⟩) m kvc, .slice (some ⟨vg, 0, none⟩) m vvc, .slice (some ⟨cg, 0, none⟩) (m + 1) cc, ks, vs, ps⟩, ⟨ab, .slice NK (3 + 1) nKq, .slice NV (3 + 1) nVq, .slice (some ⟨acg, 0, none⟩) 4 aq, aks ++ [Value.string s3], avs ++ [Value.string z3], aps⟩, ⟨bb, .slice (some ⟨bk, 0, none⟩) (p + 1) bc, .slice (some ⟨bvg, 0, none⟩) (p + 1) bv, .slice (some ⟨bcg, 0, none⟩) (p + 2) bq, bks, bvs, bps⟩] from (List.Perm.swap _ _ _)))
    clear HR
    have HR := HRx
    clear HRx
    have d1 := Lib.hid (HR.out.nod ⟨b, .slice (some ⟨kg, 0, none⟩) m kvc, .slice (some ⟨vg, 0, none⟩) m vvc, .slice (some ⟨cg, 0, none⟩) (m + 1) cc, ks, vs, ps⟩ (by simp))
    have s1 := Lib.hid (HR.out.nod ⟨bb, .slice (some ⟨bk, 0, none⟩) (p + 1) bc, .slice (some ⟨bvg, 0, none⟩) (p + 1) bv, .slice (some ⟨bcg, 0, none⟩) (p + 2) bq, bks, bvs, bps⟩ (by simp))
    go_wp2_with fail
    refine wp_region_noPanic ?_
    refine wp_region_lateM (fun w' : World => w'.cell? ⟨b, 0, none⟩ = some (.slice (some ⟨kg, 0, none⟩) m kvc) ∧ w'.cell? ⟨b, 1, none⟩ = some (.slice (some ⟨vg, 0, none⟩) m vvc) ∧ w'.cell? ⟨bb, 0, none⟩ = some (.slice (some ⟨bk, 0, none⟩) (p + 1) bc) ∧ w'.cell? ⟨bb, 1, none⟩ = some (.slice (some ⟨bvg, 0, none⟩) (p + 1) bv) ∧ w'.cell? ⟨bk, 0, none⟩ = some (Value.string sl) ∧ w'.cell? ⟨bvg, 0, none⟩ = some (Value.string zu)) [23, 25] (by kernel_rfl) ?_
    have hS0 : (fun w' : World => w'.cell? ⟨b, 0, none⟩ = some (.slice (some ⟨kg, 0, none⟩) m kvc) ∧ w'.cell? ⟨b, 1, none⟩ = some (.slice (some ⟨vg, 0, none⟩) m vvc) ∧ w'.cell? ⟨bb, 0, none⟩ = some (.slice (some ⟨bk, 0, none⟩) (p + 1) bc) ∧ w'.cell? ⟨bb, 1, none⟩ = some (.slice (some ⟨bvg, 0, none⟩) (p + 1) bv) ∧ w'.cell? ⟨bk, 0, none⟩ = some (Value.string sl) ∧ w'.cell? ⟨bvg, 0, none⟩ = some (Value.string zu)) X2.drew := ⟨d1.out.blk.cell 0, d1.out.blk.cell 1, s1.out.blk.cell 0, s1.out.blk.cell 1, s1.out.kcell KL.out, s1.out.vcell VL.out⟩
    refine wpAnyM_take0 0 53 (v := ?_) rfl rfl (by kernel_rfl) (by kernel_rfl) (by kernel_rfl) (fun _ _ _ h => h) (by rfl) ?_ ?_
    rotate_left
    · (intro w'; go_simp; try with_reducible rfl)
    simp only [List.setIfInBounds_toArray, List.set_cons_zero, List.set_cons_succ]
    refine wpAnyM_take0 1 54 (v := ?_) rfl rfl (by kernel_rfl) (by kernel_rfl) (by kernel_rfl) (fun _ _ _ h => h) (by rfl) ?_ ?_
    rotate_left
    · (intro w'; go_simp; try with_reducible rfl)
    simp only [List.setIfInBounds_toArray, List.set_cons_zero, List.set_cons_succ]
    refine wpAnyM_take0 2 55 (v := ?_) rfl rfl (by kernel_rfl) (by kernel_rfl) (by kernel_rfl) (fun _ _ _ h => h) (by rfl) ?_ ?_
    rotate_left
    · (intro w'; go_simp; try with_reducible rfl)
    simp only [List.setIfInBounds_toArray, List.set_cons_zero, List.set_cons_succ]
    refine wpAnyM_take 3 56 (v := ?_) rfl rfl (by kernel_rfl) (by kernel_rfl) (by kernel_rfl) (by kernel_rfl) (fun _ _ _ h => h) (by rfl) ?_ hS0 ?_
    rotate_left
    · (intro w' hSw; obtain ⟨q1, q2, q3, q4, q5, q6⟩ := hSw; go_simp; try with_reducible rfl)
    simp only [List.setIfInBounds_toArray, List.set_cons_zero, List.set_cons_succ]
    refine wpAnyM_take0 4 57 (v := ?_) rfl rfl (by kernel_rfl) (by kernel_rfl) (by kernel_rfl) (fun _ _ _ h => h) (by rfl) ?_ ?_
    rotate_left
    · (intro w'; go_simp; try with_reducible rfl)
    simp only [List.setIfInBounds_toArray, List.set_cons_zero, List.set_cons_succ]
    refine wpAnyM_take0 5 58 (v := ?_) rfl rfl (by kernel_rfl) (by kernel_rfl) (by kernel_rfl) (fun _ _ _ h => h) (by rfl) ?_ ?_
    rotate_left
    · (intro w'; go_simp; try with_reducible rfl)
    simp only [List.setIfInBounds_toArray, List.set_cons_zero, List.set_cons_succ]
    refine wpAnyM_take0 6 59 (v := ?_) rfl rfl (by kernel_rfl) (by kernel_rfl) (by kernel_rfl) (fun _ _ _ h => h) (by rfl) ?_ ?_
    rotate_left
    · (intro w'; go_simp; try with_reducible rfl)
    simp only [List.setIfInBounds_toArray, List.set_cons_zero, List.set_cons_succ]
    refine wpAnyM_take0 7 60 (v := ?_) rfl rfl (by kernel_rfl) (by kernel_rfl) (by kernel_rfl) (fun _ _ _ h => h) (by rfl) ?_ ?_
    rotate_left
    · (intro w'; go_simp; try with_reducible rfl)
    simp only [List.setIfInBounds_toArray, List.set_cons_zero, List.set_cons_succ]
    refine wpAnyM_take 8 61 (v := ?_) rfl rfl (by kernel_rfl) (by kernel_rfl) (by kernel_rfl) (by kernel_rfl) (fun _ _ _ h => h) (by rfl) ?_ hS0 ?_
    rotate_left
    · (intro w' hSw; obtain ⟨q1, q2, q3, q4, q5, q6⟩ := hSw; go_simp; try with_reducible rfl)
    simp only [List.setIfInBounds_toArray, List.set_cons_zero, List.set_cons_succ]
    refine wpAnyM_take0 9 62 (v := ?_) rfl rfl (by kernel_rfl) (by kernel_rfl) (by kernel_rfl) (fun _ _ _ h => h) (by rfl) ?_ ?_
    rotate_left
    · (intro w'; go_simp; try with_reducible rfl)
    simp only [List.setIfInBounds_toArray, List.set_cons_zero, List.set_cons_succ]
    refine wpAnyM_take0 10 63 (v := ?_) rfl rfl (by kernel_rfl) (by kernel_rfl) (by kernel_rfl) (fun _ _ _ h => h) (by rfl) ?_ ?_
    rotate_left
    · (intro w'; go_simp; try with_reducible rfl)
    simp only [List.setIfInBounds_toArray, List.set_cons_zero, List.set_cons_succ]
    refine wpAnyM_take0 11 64 (v := ?_) rfl rfl (by kernel_rfl) (by kernel_rfl) (by kernel_rfl) (fun _ _ _ h => h) (by rfl) ?_ ?_
    rotate_left
    · (intro w'; go_simp; try with_reducible rfl)
    simp only [List.setIfInBounds_toArray, List.set_cons_zero, List.set_cons_succ]
    refine wpAnyM_take0 12 65 (v := ?_) rfl rfl (by kernel_rfl) (by kernel_rfl) (by kernel_rfl) (fun _ _ _ h => h) (by rfl) ?_ ?_
    rotate_left
    · (intro w'; go_simp; try with_reducible rfl)
    simp only [List.setIfInBounds_toArray, List.set_cons_zero, List.set_cons_succ]
    refine wpAnyM_take 13 66 (v := ?_) rfl rfl (by kernel_rfl) (by kernel_rfl) (by kernel_rfl) (by kernel_rfl) (fun _ _ _ h => h) (by rfl) ?_ hS0 ?_
    rotate_left
    · (intro w' hSw; obtain ⟨q1, q2, q3, q4, q5, q6⟩ := hSw; go_simp; try with_reducible rfl)
    simp only [List.setIfInBounds_toArray, List.set_cons_zero, List.set_cons_succ]
    refine wpAnyM_take0 14 67 (v := ?_) rfl rfl (by kernel_rfl) (by kernel_rfl) (by kernel_rfl) (fun _ _ _ h => h) (by rfl) ?_ ?_
    rotate_left
    · (intro w'; go_simp; try with_reducible rfl)
    simp only [List.setIfInBounds_toArray, List.set_cons_zero, List.set_cons_succ]
    refine wpAnyM_take 15 68 (v := ?_) rfl rfl (by kernel_rfl) (by kernel_rfl) (by kernel_rfl) (by kernel_rfl) (fun _ _ _ h => h) (by rfl) ?_ hS0 ?_
    rotate_left
    · (intro w' hSw; obtain ⟨q1, q2, q3, q4, q5, q6⟩ := hSw; go_simp; try with_reducible rfl)
    simp only [List.setIfInBounds_toArray, List.set_cons_zero, List.set_cons_succ]
    refine wpAnyM_take0 16 69 (v := ?_) rfl rfl (by kernel_rfl) (by kernel_rfl) (by kernel_rfl) (fun _ _ _ h => h) (by rfl) ?_ ?_
    rotate_left
    · (intro w'; go_simp; try with_reducible rfl)
    simp only [List.setIfInBounds_toArray, List.set_cons_zero, List.set_cons_succ]
    refine wpAnyM_take0 17 70 (v := ?_) rfl rfl (by kernel_rfl) (by kernel_rfl) (by kernel_rfl) (fun _ _ _ h => h) (by rfl) ?_ ?_
    rotate_left
    · (intro w'; go_simp; try with_reducible rfl)
    simp only [List.setIfInBounds_toArray, List.set_cons_zero, List.set_cons_succ]
    refine wpAnyM_take0 18 71 (v := ?_) rfl rfl (by kernel_rfl) (by kernel_rfl) (by kernel_rfl) (fun _ _ _ h => h) (by rfl) ?_ ?_
    rotate_left
    · (intro w'; go_simp; try with_reducible rfl)
    simp only [List.setIfInBounds_toArray, List.set_cons_zero, List.set_cons_succ]
    refine wpAnyM_take 19 72 (v := ?_) rfl rfl (by kernel_rfl) (by kernel_rfl) (by kernel_rfl) (by kernel_rfl) (fun _ _ _ h => h) (by rfl) ?_ hS0 ?_
    rotate_left
    · (intro w' hSw; obtain ⟨q1, q2, q3, q4, q5, q6⟩ := hSw; go_simp; try with_reducible rfl)
    simp only [List.setIfInBounds_toArray, List.set_cons_zero, List.set_cons_succ]
    refine wpAnyM_take0 20 73 (v := ?_) rfl rfl (by kernel_rfl) (by kernel_rfl) (by kernel_rfl) (fun _ _ _ h => h) (by rfl) ?_ ?_
    rotate_left
    · (intro w'; go_simp; try with_reducible rfl)
    simp only [List.setIfInBounds_toArray, List.set_cons_zero, List.set_cons_succ]
    refine wpAnyM_take 21 74 (v := ?_) rfl rfl (by kernel_rfl) (by kernel_rfl) (by kernel_rfl) (by kernel_rfl) (fun _ _ _ h => h) (by rfl) ?_ hS0 ?_
    rotate_left
    · (intro w' hSw; obtain ⟨q1, q2, q3, q4, q5, q6⟩ := hSw; go_simp; try with_reducible rfl)
    simp only [List.setIfInBounds_toArray, List.set_cons_zero, List.set_cons_succ]
    have HRb := Lib.hid (Nds.setK HR.out.drew (i := i) (u := Value.string sl) rfl (show i < m by omega) ⟨_, rfl⟩)
    have d2 := Lib.hid (HRb.out.nod ⟨b, .slice (some ⟨kg, 0, none⟩) m kvc, .slice (some ⟨vg, 0, none⟩) m vvc, .slice (some ⟨cg, 0, none⟩) (m + 1) cc, ks.set i (Value.string sl), vs, ps⟩ (by simp))
    have k1 : X2.drew.cell? ⟨kg, i, none⟩ = some (Value.string s3) := d1.out.kcell K3.out
    have k2 : X2.drew.frozen? ⟨kg, i, none⟩ = false := (show Row X2.drew 9 (.slice (some ⟨kg, 0, none⟩) m kvc) ks from d1.out.kr).frozen_ i
    have v1 : (X2.drew.setCell ⟨kg, i, none⟩ (Value.string sl)).cell? ⟨vg, i, none⟩ = some (Value.string z3) := d2.out.vcell V3.out
    have v2 : (X2.drew.setCell ⟨kg, i, none⟩ (Value.string sl)).frozen? ⟨vg, i, none⟩ = false := (show Row (X2.drew.setCell ⟨kg, i, none⟩ (Value.string sl)) 9 (.slice (some ⟨vg, 0, none⟩) m vvc) vs from d2.out.vr).frozen_ i
    refine wpAnyM_val 22 75 (v := .pointer (some ⟨kg, i, none⟩)) (w' := X2.drew) rfl rfl (by kernel_rfl) (by rfl) (by go_simp; try rfl) (.inr (fun h => h)) ?_
    simp only [List.setIfInBounds_toArray, List.set_cons_zero, List.set_cons_succ]
    refine wpAnyM_skip 23 (w' := (X2.drew.setCell ⟨kg, i, none⟩ (Value.string sl))) rfl rfl (by kernel_rfl) (by rfl) (by go_simp; try rfl) (.inl (by simp)) ?_
    generalize hE : (X2.drew.setCell ⟨kg, i, none⟩ (Value.string sl)) = Y1 at *
    refine wpAnyM_val 24 76 (v := .pointer (some ⟨vg, i, none⟩)) (w' := Y1) rfl rfl (by kernel_rfl) (by rfl) (by go_simp; try rfl) (.inr (fun h => h)) ?_
    simp only [List.setIfInBounds_toArray, List.set_cons_zero, List.set_cons_succ]
    refine wpAnyM_skip 25 (w' := Y1.setCell ⟨vg, i, none⟩ (Value.string zu)) rfl rfl (by kernel_rfl) (by rfl) (by go_simp; try rfl) (.inl (by simp)) ?_
    have HRc := Lib.hid (Nds.setV HRb.out (i := i) (u := Value.string zu) rfl (show i < m by omega) ⟨zu, rfl⟩)
    refine wpAnyM_done (by kernel_rfl) ?_ _
    refine NoPanic.normal ?_
    generalize Y1.setCell ⟨vg, i, none⟩ (Value.string zu) = X3 at *
    clear hS0 k1 k2 v1 v2 HR HRb d1 s1 d2
    try clear hE
    have HR := HRc
    clear HRc
    have HRx := Lib.hid (HR.out.perm (show List.Perm _ [⟨bb, .slice (some ⟨bk, 0, none⟩) (p + 1) bc, .slice (some ⟨bvg, 0, none⟩) (p + 1) bv, .slice (some ⟨bcg, 0, none⟩) (p + 2) bq, bks, bvs, bps⟩, ⟨b, .slice (some ⟨kg, 0, none⟩) m kvc, .slice (some ⟨vg, 0, none⟩) m vvc, .slice (some ⟨cg, 0, none⟩) (m + 1) cc, ks.set i (Value.string sl), vs.set i (Value.string zu), ps⟩, ⟨ab, .slice NK (3 + 1) nKq, .slice NV (3 + 1) nVq, .slice (some ⟨acg, 0, none⟩) 4 aq, aks ++ [Value.string s3], avs ++ [Value.string z3], aps⟩] from (List.Perm.trans (List.Perm.cons _ (List.Perm.swap _ _ _)) (List.Perm.swap _ _ _))))
    clear HR
    have HR := HRx
    clear HRx
    have n1 := Lib.hid (HR.out.nod ⟨bb, .slice (some ⟨bk, 0, none⟩) (p + 1) bc, .slice (some ⟨bvg, 0, none⟩) (p + 1) bv, .slice (some ⟨bcg, 0, none⟩) (p + 2) bq, bks, bvs, bps⟩ (by simp))
    have c0 : X3.cell? ⟨bb, 0, none⟩ = some (.slice (some ⟨bk, 0, none⟩) (p + 1) bc) := n1.out.blk.cell 0
    have hdel := Lib.hid (show Calls Try.prog 94 #[.slice (some ⟨bk, 0, none⟩) (p + 1) bc, .int .i64 0, .int .i64 1] X3 (DelPostN X3 9 (.slice (some ⟨bk, 0, none⟩) (p + 1) bc) p (bks.drop 1)) from
      (deleteS X3 (.slice (some ⟨bk, 0, none⟩) (p + 1) bc) bks 0 n1.out.kr (by have := LD.out; omega) (by have := LD.out; omega) (StrV.one OB.out.1)).mono fun _ _ h => delPostN (by have := LD.out; simp; omega) h)
    go_wp2_with fail
    refine hdel.out.mono ?_
    clear hdel
    rintro e w6 ⟨MK, mKq, rfl, hrow, hchg, hown⟩
    have hmid := Nds.mid HR.out (v := .slice (some ⟨bk, 0, none⟩) (p + 1) bc) (.inl rfl) hchg
    have hb4 := hmid.1
    have d0 : w6.cell? ⟨bb, 0, none⟩ = some (.slice (some ⟨bk, 0, none⟩) (p + 1) bc) := hb4.cell 0
    have d1 : w6.frozen? ⟨bb, 0, none⟩ = false := hb4.frozen 0
    have ok6 : ∀ u ∈ bks.drop 1, StrV u := fun u hu => OB.out.1 u (List.mem_of_mem_drop hu)
    have h6 := Nds.slotK HR.out hchg hrow ok6 hown
    have HRm := Lib.hid h6
    clear hrow hchg hown hmid hb4 ok6 h6 c0 n1 HR
    have HR := HRm
    clear HRm
    go_upto_region 5 with fail
    generalize w6.setCell ⟨bb, 0, none⟩ (.slice MK p mKq) = X4 at *
    clear d0 d1
    have n1 := Lib.hid (HR.out.nod ⟨bb, .slice MK p mKq, .slice (some ⟨bvg, 0, none⟩) (p + 1) bv, .slice (some ⟨bcg, 0, none⟩) (p + 2) bq, bks.drop 1, bvs, bps⟩ (by simp))
    have c0 : X4.cell? ⟨bb, 1, none⟩ = some (.slice (some ⟨bvg, 0, none⟩) (p + 1) bv) := n1.out.blk.cell 1
    have hdel := Lib.hid (show Calls Try.prog 94 #[.slice (some ⟨bvg, 0, none⟩) (p + 1) bv, .int .i64 0, .int .i64 1] X4 (DelPostN X4 9 (.slice (some ⟨bvg, 0, none⟩) (p + 1) bv) p (bvs.drop 1)) from
      (deleteS X4 (.slice (some ⟨bvg, 0, none⟩) (p + 1) bv) bvs 0 n1.out.vr (by have := LD.out; omega) (by have := LD.out; omega) (StrV.one OB.out.2.1)).mono fun _ _ h => delPostN (by have := LD.out; simp; omega) h)
    go_wp2_with fail
    refine hdel.out.mono ?_
    clear hdel
    rintro e w6 ⟨MV, mVq, rfl, hrow, hchg, hown⟩
    have hmid := Nds.mid HR.out (v := .slice (some ⟨bvg, 0, none⟩) (p + 1) bv) (.inr (.inl rfl)) hchg
    have hb4 := hmid.1
    have d0 : w6.cell? ⟨bb, 1, none⟩ = some (.slice (some ⟨bvg, 0, none⟩) (p + 1) bv) := hb4.cell 1
    have d1 : w6.frozen? ⟨bb, 1, none⟩ = false := hb4.frozen 1
    have ok6 : ∀ u ∈ bvs.drop 1, StrV u := fun u hu => OB.out.2.1 u (List.mem_of_mem_drop hu)
    have h6 := Nds.slotV HR.out hchg hrow ok6 hown
    have HRm := Lib.hid h6
    clear hrow hchg hown hmid hb4 ok6 h6 c0 n1 HR
    have HR := HRm
    clear HRm
    go_upto_region 6 with fail
    generalize w6.setCell ⟨bb, 1, none⟩ (.slice MV p mVq) = X5 at *
    clear d0 d1
    have a0 := Lib.hid (HR.out.nod ⟨bb, .slice MK p mKq, .slice MV p mVq, .slice (some ⟨bcg, 0, none⟩) (p + 2) bq, bks.drop 1, bvs.drop 1, bps⟩ (by simp))
    have hl := Lib.hid (leafS X5 bb (p + 2) bq _ _ (some ⟨bcg, 0, none⟩) a0.out.blk)
    go_wp2_with fail
    refine hl.out.mono ?_
    clear hl a0
    rintro e w' ⟨rfl, rfl⟩
    go_upto_region 7 with fail
    have HRx := Lib.hid (HR.out.perm (show List.Perm _ [⟨ab, .slice NK (3 + 1) nKq, .slice NV (3 + 1) nVq, .slice (some ⟨acg, 0, none⟩) 4 aq, aks ++ [Value.string s3], avs ++ [Value.string z3], aps⟩, ⟨bb, .slice MK p mKq, .slice MV p mVq, .slice (some ⟨bcg, 0, none⟩) (p + 2) bq, bks.drop 1, bvs.drop 1, bps⟩, ⟨b, .slice (some ⟨kg, 0, none⟩) m kvc, .slice (some ⟨vg, 0, none⟩) m vvc, .slice (some ⟨cg, 0, none⟩) (m + 1) cc, ks.set i (Value.string sl), vs.set i (Value.string zu), ps⟩] from (List.Perm.trans (List.Perm.cons _ (List.Perm.swap _ _ _)) (List.Perm.swap _ _ _))))
    clear HR
    have HR := HRx
    clear HRx
    have d1 := Lib.hid (HR.out.nod ⟨ab, .slice NK (3 + 1) nKq, .slice NV (3 + 1) nVq, .slice (some ⟨acg, 0, none⟩) 4 aq, aks ++ [Value.string s3], avs ++ [Value.string z3], aps⟩ (by simp))
    have s1 := Lib.hid (HR.out.nod ⟨bb, .slice MK p mKq, .slice MV p mVq, .slice (some ⟨bcg, 0, none⟩) (p + 2) bq, bks.drop 1, bvs.drop 1, bps⟩ (by simp))
    go_wp2_with fail
    refine wp_region_noPanic ?_
    refine wp_region_lateM (fun w' : World => w'.cell? ⟨ab, 2, none⟩ = some (.slice (some ⟨acg, 0, none⟩) 4 aq) ∧ w'.cell? ⟨bb, 2, none⟩ = some (.slice (some ⟨bcg, 0, none⟩) (p + 2) bq) ∧ w'.cell? ⟨bcg, 0, none⟩ = some (Value.pointer (some ⟨pb1, 0, none⟩))) [15] (by kernel_rfl) ?_
    have hS0 : (fun w' : World => w'.cell? ⟨ab, 2, none⟩ = some (.slice (some ⟨acg, 0, none⟩) 4 aq) ∧ w'.cell? ⟨bb, 2, none⟩ = some (.slice (some ⟨bcg, 0, none⟩) (p + 2) bq) ∧ w'.cell? ⟨bcg, 0, none⟩ = some (Value.pointer (some ⟨pb1, 0, none⟩))) X5.drew := ⟨d1.out.blk.cell 2, s1.out.blk.cell 2, s1.out.ccell PL.out⟩
    refine wpAnyM_take0 0 96 (v := ?_) rfl rfl (by kernel_rfl) (by kernel_rfl) (by kernel_rfl) (fun _ _ _ h => h) (by rfl) ?_ ?_
    rotate_left
    · (intro w'; go_simp; try with_reducible rfl)
    simp only [List.setIfInBounds_toArray, List.set_cons_zero, List.set_cons_succ]
    refine wpAnyM_take0 1 97 (v := ?_) rfl rfl (by kernel_rfl) (by kernel_rfl) (by kernel_rfl) (fun _ _ _ h => h) (by rfl) ?_ ?_
    rotate_left
    · (intro w'; go_simp; try with_reducible rfl)
    simp only [List.setIfInBounds_toArray, List.set_cons_zero, List.set_cons_succ]
    refine wpAnyM_take0 2 98 (v := ?_) rfl rfl (by kernel_rfl) (by kernel_rfl) (by kernel_rfl) (fun _ _ _ h => h) (by rfl) ?_ ?_
    rotate_left
    · (intro w'; go_simp; try with_reducible rfl)
    simp only [List.setIfInBounds_toArray, List.set_cons_zero, List.set_cons_succ]
    refine wpAnyM_take0 3 99 (v := ?_) rfl rfl (by kernel_rfl) (by kernel_rfl) (by kernel_rfl) (fun _ _ _ h => h) (by rfl) ?_ ?_
    rotate_left
    · (intro w'; go_simp; try with_reducible rfl)
    simp only [List.setIfInBounds_toArray, List.set_cons_zero, List.set_cons_succ]
    refine wpAnyM_take 4 100 (v := ?_) rfl rfl (by kernel_rfl) (by kernel_rfl) (by kernel_rfl) (by kernel_rfl) (fun _ _ _ h => h) (by rfl) ?_ hS0 ?_
    rotate_left
    · (intro w' hSw; obtain ⟨q1, q2, q3⟩ := hSw; go_simp; try with_reducible rfl)
    simp only [List.setIfInBounds_toArray, List.set_cons_zero, List.set_cons_succ]
    refine wpAnyM_take0 5 101 (v := ?_) rfl rfl (by kernel_rfl) (by kernel_rfl) (by kernel_rfl) (fun _ _ _ h => h) (by rfl) ?_ ?_
    rotate_left
    · (intro w'; go_simp; try with_reducible rfl)
    simp only [List.setIfInBounds_toArray, List.set_cons_zero, List.set_cons_succ]
    refine wpAnyM_take0 6 102 (v := ?_) rfl rfl (by kernel_rfl) (by kernel_rfl) (by kernel_rfl) (fun _ _ _ h => h) (by rfl) ?_ ?_
    rotate_left
    · (intro w'; go_simp; try with_reducible rfl)
    simp only [List.setIfInBounds_toArray, List.set_cons_zero, List.set_cons_succ]
    refine wpAnyM_take0 7 103 (v := ?_) rfl rfl (by kernel_rfl) (by kernel_rfl) (by kernel_rfl) (fun _ _ _ h => h) (by rfl) ?_ ?_
    rotate_left
    · (intro w'; go_simp; try with_reducible rfl)
    simp only [List.setIfInBounds_toArray, List.set_cons_zero, List.set_cons_succ]
    refine wpAnyM_take 8 104 (v := ?_) rfl rfl (by kernel_rfl) (by kernel_rfl) (by kernel_rfl) (by kernel_rfl) (fun _ _ _ h => h) (by rfl) ?_ hS0 ?_
    rotate_left
    · (intro w' hSw; obtain ⟨q1, q2, q3⟩ := hSw; go_simp; try with_reducible rfl)
    simp only [List.setIfInBounds_toArray, List.set_cons_zero, List.set_cons_succ]
    refine wpAnyM_take0 9 105 (v := ?_) rfl rfl (by kernel_rfl) (by kernel_rfl) (by kernel_rfl) (fun _ _ _ h => h) (by rfl) ?_ ?_
    rotate_left
    · (intro w'; go_simp; try with_reducible rfl)
    simp only [List.setIfInBounds_toArray, List.set_cons_zero, List.set_cons_succ]
    refine wpAnyM_take 10 106 (v := ?_) rfl rfl (by kernel_rfl) (by kernel_rfl) (by kernel_rfl) (by kernel_rfl) (fun _ _ _ h => h) (by rfl) ?_ hS0 ?_
    rotate_left
    · (intro w' hSw; obtain ⟨q1, q2, q3⟩ := hSw; go_simp; try with_reducible rfl)
    simp only [List.setIfInBounds_toArray, List.set_cons_zero, List.set_cons_succ]
    have HRb := Lib.hid (HR.out.drew.alloc (.cells #[Value.pointer (some ⟨pb1, 0, none⟩)] 99))
    have d2 := Lib.hid (HRb.out.nod ⟨ab, .slice NK (3 + 1) nKq, .slice NV (3 + 1) nVq, .slice (some ⟨acg, 0, none⟩) 4 aq, aks ++ [Value.string s3], avs ++ [Value.string z3], aps⟩ (by simp))
    have s2 := Lib.hid (HRb.out.nod ⟨bb, .slice MK p mKq, .slice MV p mVq, .slice (some ⟨bcg, 0, none⟩) (p + 2) bq, bks.drop 1, bvs.drop 1, bps⟩ (by simp))
    have hS1 : (fun w' : World => w'.cell? ⟨ab, 2, none⟩ = some (.slice (some ⟨acg, 0, none⟩) 4 aq) ∧ w'.cell? ⟨bb, 2, none⟩ = some (.slice (some ⟨bcg, 0, none⟩) (p + 2) bq) ∧ w'.cell? ⟨bcg, 0, none⟩ = some (Value.pointer (some ⟨pb1, 0, none⟩))) (X5.drew.alloc (.cells #[Value.pointer (some ⟨pb1, 0, none⟩)] 99)) := ⟨d2.out.blk.cell 2, s2.out.blk.cell 2, s2.out.ccell PL.out⟩
    refine wpAnyM_val 11 107 (v := .slice (some ⟨X5.heap.size, 0, none⟩) 1 1) (w' := (X5.drew.alloc (.cells #[Value.pointer (some ⟨pb1, 0, none⟩)] 99))) rfl rfl (by kernel_rfl) (by rfl) (by go_simp; try rfl) (.inr fun _ => hS1) ?_
    simp only [List.setIfInBounds_toArray, List.set_cons_zero, List.set_cons_succ]
    have one1 : ∀ u ∈ [Value.pointer (some ⟨pb1, 0, none⟩)], u.oneCell' = true := fun u hu => by rw [List.mem_singleton.1 hu]; rfl
    obtain ⟨NC, nCq, w4, hr1, hrow, hchg, hown⟩ := run_append_N (P := Try.prog) slTyN 100 (show Row (X5.drew.alloc (.cells #[Value.pointer (some ⟨pb1, 0, none⟩)] 99)) 99 (.slice (some ⟨acg, 0, none⟩) 4 aq) aps from d2.out.cr) (Row.new1 X5.drew 99 (Value.pointer (some ⟨pb1, 0, none⟩))) one1 (by have := LD.out; omega)
    have hmid := Nds.mid HRb.out (v := .slice (some ⟨acg, 0, none⟩) 4 aq) (.inr (.inr rfl)) hchg
    have sn3 : NodR TS w4 ⟨bb, .slice MK p mKq, .slice MV p mVq, .slice (some ⟨bcg, 0, none⟩) (p + 2) bq, bks.drop 1, bvs.drop 1, bps⟩ := hmid.2 _ (by simp)
    have hS2 : (fun w' : World => w'.cell? ⟨ab, 2, none⟩ = some (.slice (some ⟨acg, 0, none⟩) 4 aq) ∧ w'.cell? ⟨bb, 2, none⟩ = some (.slice (some ⟨bcg, 0, none⟩) (p + 2) bq) ∧ w'.cell? ⟨bcg, 0, none⟩ = some (Value.pointer (some ⟨pb1, 0, none⟩))) w4 := ⟨hmid.1.cell 2, sn3.blk.cell 2, sn3.ccell PL.out⟩
    refine wpAnyM_val 12 108 (v := .slice NC (4 + 1) nCq) (w' := w4) rfl rfl (by kernel_rfl) (by rfl) (run_append_op (.tmp 100) (.tmp 107) 100 100 rfl rfl rfl hr1) (.inr fun _ => hS2) ?_
    simp only [List.setIfInBounds_toArray, List.set_cons_zero, List.set_cons_succ]
    have hf4 : w4.frozen? ⟨ab, 2, none⟩ = false := hmid.1.frozen 2
    have hc4 : w4.cell? ⟨ab, 2, none⟩ = some (.slice (some ⟨acg, 0, none⟩) 4 aq) := hmid.1.cell 2
    have ok6 : ∀ u ∈ aps ++ [Value.pointer (some ⟨pb1, 0, none⟩)], PtrV u := fun u hu => by
      rcases List.mem_append.1 hu with hu | hu
      · exact OA.out.2.2 u hu
      · rw [List.mem_singleton.1 hu]; exact ⟨_, rfl⟩
    have h6 := Nds.slotC HRb.out hchg hrow ok6 hown
    have HRc := Lib.hid h6
    clear hrow hchg hown hmid sn3 ok6 h6 hr1 one1
    refine wpAnyM_val 13 109 (v := .pointer (some ⟨ab, 0, none⟩)) (w' := w4) rfl rfl (by kernel_rfl) (by rfl) (by go_simp; try rfl) (.inr (fun h => h)) ?_
    simp only [List.setIfInBounds_toArray, List.set_cons_zero, List.set_cons_succ]
    refine wpAnyM_val 14 110 (v := .pointer (some ⟨ab, 2, none⟩)) (w' := w4) rfl rfl (by kernel_rfl) (by rfl) (by go_simp; try rfl) (.inr (fun h => h)) ?_
    simp only [List.setIfInBounds_toArray, List.set_cons_zero, List.set_cons_succ]
    refine wpAnyM_skip 15 (w' := w4.setCell ⟨ab, 2, none⟩ (.slice NC (4 + 1) nCq)) rfl rfl (by kernel_rfl) (by rfl) (by go_simp; try rfl) (.inl (by simp)) ?_
    refine wpAnyM_done (by kernel_rfl) ?_ _
    refine NoPanic.normal ?_
    generalize w4.setCell ⟨ab, 2, none⟩ (.slice NC (4 + 1) nCq) = X6 at *
    clear hS0 hS1 hS2 hf4 hc4 HR HRb d1 s1 d2 s2
    have HR := HRc
    clear HRc
    have HRx := Lib.hid (HR.out.perm (show List.Perm _ [⟨bb, .slice MK p mKq, .slice MV p mVq, .slice (some ⟨bcg, 0, none⟩) (p + 2) bq, bks.drop 1, bvs.drop 1, bps⟩, ⟨ab, .slice NK (3 + 1) nKq, .slice NV (3 + 1) nVq, .slice NC (4 + 1) nCq, aks ++ [Value.string s3], avs ++ [Value.string z3], aps ++ [Value.pointer (some ⟨pb1, 0, none⟩)]⟩, ⟨b, .slice (some ⟨kg, 0, none⟩) m kvc, .slice (some ⟨vg, 0, none⟩) m vvc, .slice (some ⟨cg, 0, none⟩) (m + 1) cc, ks.set i (Value.string sl), vs.set i (Value.string zu), ps⟩] from (List.Perm.swap _ _ _)))
    clear HR
    have HR := HRx
    clear HRx
    have n1 := Lib.hid (HR.out.nod ⟨bb, .slice MK p mKq, .slice MV p mVq, .slice (some ⟨bcg, 0, none⟩) (p + 2) bq, bks.drop 1, bvs.drop 1, bps⟩ (by simp))
    have c0 : X6.cell? ⟨bb, 2, none⟩ = some (.slice (some ⟨bcg, 0, none⟩) (p + 2) bq) := n1.out.blk.cell 2
    have hdel := Lib.hid (show Calls Try.prog 124 #[.slice (some ⟨bcg, 0, none⟩) (p + 2) bq, .int .i64 0, .int .i64 1] X6 (DelPostN X6 99 (.slice (some ⟨bcg, 0, none⟩) (p + 2) bq) (p + 1) (bps.drop 1)) from
      (deleteN X6 (.slice (some ⟨bcg, 0, none⟩) (p + 2) bq) bps 0 n1.out.cr (by have := LD.out; omega) (by have := LD.out; omega) (PtrV.one OB.out.2.2)).mono fun _ _ h => delPostN (by have := LD.out; simp; omega) h)
    go_wp2_with fail
    refine hdel.out.mono ?_
    clear hdel
    rintro e w6 ⟨MC, mCq, rfl, hrow, hchg, hown⟩
    have hmid := Nds.mid HR.out (v := .slice (some ⟨bcg, 0, none⟩) (p + 2) bq) (.inr (.inr rfl)) hchg
    have hb4 := hmid.1
    have d0 : w6.cell? ⟨bb, 2, none⟩ = some (.slice (some ⟨bcg, 0, none⟩) (p + 2) bq) := hb4.cell 2
    have d1 : w6.frozen? ⟨bb, 2, none⟩ = false := hb4.frozen 2
    have ok6 : ∀ u ∈ bps.drop 1, PtrV u := fun u hu => OB.out.2.2 u (List.mem_of_mem_drop hu)
    have h6 := Nds.slotC HR.out hchg hrow ok6 hown
    have HRm := Lib.hid h6
    clear hrow hchg hown hmid hb4 ok6 h6 c0 n1 HR
    have HR := HRm
    clear HRm
    go_wp2
    go_end0
    have HRx := Lib.hid (HR.out.perm (show List.Perm _ [⟨b, .slice (some ⟨kg, 0, none⟩) m kvc, .slice (some ⟨vg, 0, none⟩) m vvc, .slice (some ⟨cg, 0, none⟩) (m + 1) cc, ks.set i (Value.string sl), vs.set i (Value.string zu), ps⟩, ⟨ab, .slice NK (3 + 1) nKq, .slice NV (3 + 1) nVq, .slice NC (4 + 1) nCq, aks ++ [Value.string s3], avs ++ [Value.string z3], aps ++ [Value.pointer (some ⟨pb1, 0, none⟩)]⟩, ⟨bb, .slice MK p mKq, .slice MV p mVq, .slice MC (p + 1) mCq, bks.drop 1, bvs.drop 1, bps.drop 1⟩] from (List.Perm.trans (List.Perm.cons _ (List.Perm.swap _ _ _)) (List.Perm.trans (List.Perm.swap _ _ _) (List.Perm.cons _ (List.Perm.swap _ _ _))))))
    clear HR
    have HR := HRx
    have g3 : ks.getD i undef = .string s3 := by rw [List.getD_eq_getElem?_getD, K3.out]; rfl
    have g4 : vs.getD i undef = Value.string z3 := by rw [List.getD_eq_getElem?_getD, V3.out]; rfl
    have g5 : bks.getD 0 undef = .string sl := by rw [List.getD_eq_getElem?_getD, KL.out]; rfl
    have g6 : bvs.getD 0 undef = Value.string zu := by rw [List.getD_eq_getElem?_getD, VL.out]; rfl
    have g7 : bps.getD 0 undef = .pointer (some ⟨pb1, 0, none⟩) := by rw [List.getD_eq_getElem?_getD, PL.out]; rfl
    refine ⟨rfl, _, _, _, HR.out, rfl, rfl, rfl, ?_, ?_, rfl, ?_, ?_, rfl, rfl, ?_⟩
    · show _ = ks.set i (bks.getD 0 undef)
      rw [g5]
    · show _ = vs.set i (bvs.getD 0 undef)
      rw [g6]
    · show _ = aks ++ [ks.getD i undef]
      rw [g3]
    · show _ = avs ++ [vs.getD i undef]
      rw [g4]
    · exact ⟨(fun h => by cases h), fun _ => ⟨(by show _ = aps ++ [bps.getD 0 undef]; rw [g7]), rfl⟩⟩

end Go.Proofs.Ytcidmaeclonilaa
