/- fromLeft: a pair goes over from the child ahead (printed by mkdrop2.py). -/
import Derived.Test.YtcidmaeclonilaaSplitB
import Derived.Test.YtcidmaeclonilaaMemA
import Derived.Test.YtcidmaeclonilaaLateA
import Derived.Deep.CutRange
import Derived.BigQuiet
namespace Go.Proofs.Ytcidmaeclonilaa
open Go Go.RowKit

/-- what fromLeft leaves -/
def FLeftPostS (L F : List Nat) (w0 : World) (n a c : RN) (i p : Nat) (inner : Bool) (e : Ending) (w' : World) : Prop :=
  e = .returned (.tuple #[]) ∧ ∃ n' a' c', Nds TS L F w0 w' [n', a', c'] ∧ n'.b = n.b ∧ a'.b = a.b ∧ c'.b = c.b ∧ n'.ks = n.ks.set i (a.ks.getD p undef) ∧ n'.vs = n.vs.set i (a.vs.getD p undef) ∧ n'.ps = n.ps ∧
    a'.ks = a.ks.take p ∧ a'.vs = a.vs.take p ∧ c'.ks = n.ks.getD i undef :: c.ks ∧ c'.vs = n.vs.getD i undef :: c.vs ∧
    ((inner = false → a'.ps = a.ps ∧ c'.ps = c.ps) ∧ (inner = true → a'.ps = a.ps.take (p + 1) ∧ c'.ps = a.ps.getD (p + 1) undef :: c.ps))

set_option maxHeartbeats 16000000 in
set_option maxRecDepth 100000 in
theorem fleft_leafS (L F : List Nat) (w0 w : World) (n a c : RN) (i m p : Nat) (H : Nds TS L F w0 w [n, a, c]) (hm : n.ks.length = m) (hm7 : m ≤ 7) (hv : n.vs.length = m) (hp : n.ps.length = m + 1) (hi : i < m)
    (ha : n.ps[i]? = some (.pointer (some ⟨a.b, 0, none⟩))) (hb : n.ps[i + 1]? = some (.pointer (some ⟨c.b, 0, none⟩))) (a3 : a.ks.length = p + 1) (a3v : a.vs.length = p + 1) (b3 : c.ks.length = 3) (b3v : c.vs.length = 3)
    (pa : a.ps.length = 0) (pb : c.ps.length = 0) (hp6 : p ≤ 6) :
    Calls Try.prog 116 #[.pointer (some ⟨n.b, 0, none⟩), .int .i64 ((i : Int) + 1)] w (FLeftPostS L F w0 n a c i p false) := by
  have HN := H.nod n (by simp)
  have HA := H.nod a (by simp)
  have HC := H.nod c (by simp)
  obtain ⟨b, kv, vv, cv, ks, vs, ps⟩ := n
  obtain ⟨ab, akv, avv, acv, aks, avs, aps⟩ := a
  obtain ⟨bb, bkv, bvv, bcv, bks, bvs, bps⟩ := c
  simp only at hm hv hp ha hb a3 a3v b3 b3v pa pb HN HA HC
  obtain ⟨CA, cc, rfl, hcc1, hcc2, hcc3, hcc4⟩ := (show Row w 99 cv ps from HN.cr).formN hp
  obtain ⟨cg, rfl⟩ := hcc4 (by omega)
  obtain ⟨KA, kvc, rfl, hka1, hka2, -, hka4⟩ := (show Row w 9 kv ks from HN.kr).formN hm
  obtain ⟨kg, rfl⟩ := hka4 (by omega)
  obtain ⟨VA, vvc, rfl, hva1, hva2, -, hva4⟩ := (show Row w 9 vv vs from HN.vr).formN hv
  obtain ⟨vg, rfl⟩ := hva4 (by omega)
  obtain ⟨KA1, ac, rfl, hac1, hac2, -, hac4⟩ := (show Row w 9 akv aks from HA.kr).formN a3
  obtain ⟨ak, rfl⟩ := hac4 (by omega)
  obtain ⟨VA1, av, rfl, hav1, hav2, -, hav4⟩ := (show Row w 9 avv avs from HA.vr).formN a3v
  obtain ⟨avg, rfl⟩ := hav4 (by omega)
  obtain ⟨CA1, aq, rfl, haq1, haq2, -, haq4⟩ := (show Row w 99 acv aps from HA.cr).formN pa
  obtain ⟨KB1, bc, rfl, hbc1, hbc2, -, hbc4⟩ := (show Row w 9 bkv bks from HC.kr).formN b3
  obtain ⟨bk, rfl⟩ := hbc4 (by omega)
  obtain ⟨VB1, bv, rfl, hbv1, hbv2, -, hbv4⟩ := (show Row w 9 bvv bvs from HC.vr).formN b3v
  obtain ⟨bvg, rfl⟩ := hbv4 (by omega)
  obtain ⟨CB1, bq, rfl, hbq1, hbq2, -, hbq4⟩ := (show Row w 99 bcv bps from HC.cr).formN pb
  obtain ⟨k3, hk3⟩ : ∃ u, ks[i]? = some u := ⟨_, List.getElem?_eq_getElem (by omega)⟩
  obtain ⟨v3, hv3⟩ : ∃ u, vs[i]? = some u := ⟨_, List.getElem?_eq_getElem (by omega)⟩
  obtain ⟨kl, hkl⟩ : ∃ u, aks[p]? = some u := ⟨_, List.getElem?_eq_getElem (by omega)⟩
  obtain ⟨vl, hvl⟩ : ∃ u, avs[p]? = some u := ⟨_, List.getElem?_eq_getElem (by omega)⟩
  obtain ⟨s3, rfl⟩ := HN.kS k3 (List.mem_of_getElem? hk3)
  obtain ⟨z3, rfl⟩ := HN.vS v3 (List.mem_of_getElem? hv3)
  obtain ⟨sl, rfl⟩ := HA.kS kl (List.mem_of_getElem? hkl)
  obtain ⟨zu, rfl⟩ := HA.vS vl (List.mem_of_getElem? hvl)
  obtain ⟨_, e1, hci, -⟩ := hcc3 i _ ha
  cases e1
  obtain ⟨_, e1, hci1, -⟩ := hcc3 (i + 1) _ hb
  cases e1
  have h2 : w.cell? ⟨b, 2, none⟩ = some (.slice (some ⟨cg, 0, none⟩) (m + 1) cc) := HN.blk.cell 2
  have hiz : (i : Int) < (m : Int) + 1 := by omega
  have him : (i : Int) < (m : Int) := by omega
  have hi1z : (i : Int) + 1 < (m : Int) + 1 := by omega
  have hi0 : (0 : Int) ≤ (i : Int) + 1 := by omega
  have hw1 : IntKind.i64.wrap ((i : Int) + 1) = (i : Int) + 1 := by rw [IntKind.wrap_i64]; omega
  have hw0 : IntKind.i64.wrap (i : Int) = (i : Int) := by rw [IntKind.wrap_i64]; omega
  have hw3 : IntKind.i64.wrap ((i : Int) + 1 - 1) = (i : Int) := by rw [IntKind.wrap_i64]; omega
  have ht1 : ((i : Int) + 1).toNat = i + 1 := by omega
  have hpz : (p : Int) < (p : Int) + 1 := by omega
  have hpz2 : (p : Int) + 1 < (p : Int) + 2 := by omega
  have hp0 : (0 : Int) ≤ (p : Int) + 1 := by omega
  have hp1 : IntKind.i64.wrap ((p : Int) + 1 - 1) = (p : Int) := by rw [IntKind.wrap_i64]; omega
  have hp2 : IntKind.i64.wrap (p : Int) = (p : Int) := by rw [IntKind.wrap_i64]; omega
  have hp3 : IntKind.i64.wrap ((p : Int) + 1) = (p : Int) + 1 := by rw [IntKind.wrap_i64]; omega
  have ht2 : ((p : Int) + 1).toNat = p + 1 := by omega
  have OK := Lib.hid (And.intro HN.kS (And.intro HN.vS HN.pS))
  have OA := Lib.hid (And.intro HA.kS (And.intro HA.vS HA.pS))
  have OB := Lib.hid (And.intro HC.kS (And.intro HC.vS HC.pS))
  have LD := Lib.hid (And.intro a3 (And.intro a3v (And.intro b3 (And.intro b3v (And.intro pa (And.intro pb (And.intro hm (And.intro hv (And.intro hp hp6)))))))))
  have HH := Lib.hid H
  have K3 := Lib.hid hk3
  have V3 := Lib.hid hv3
  have KL := Lib.hid hkl
  have VL := Lib.hid hvl
  have hac0 : ¬ (ac = 0) := by omega
  have hav0 : ¬ (av = 0) := by omega
  have hacz : (p : Int) ≤ (ac : Int) := by omega
  have havz : (p : Int) ≤ (av : Int) := by omega
  clear H HN HA HC hcc3 hcc4 hka4 hva4 hac4 hav4 hbc4 hbv4 haq4 hbq4 ha hb a3 a3v b3 b3v pa pb hm hv hp
  clear hk3 hv3 hkl hvl
  go_enter Try.func116, Try.ntmps116
  go_upto_region 0 with fail
  go_cut [4, 5] from 6 (fun s4 s5 wc => s4 = .pointer (some ⟨ab, 0, none⟩) ∧ s5 = .pointer (some ⟨bb, 0, none⟩) ∧ Hid (Nds TS L F w0 wc [⟨b, .slice (some ⟨kg, 0, none⟩) m kvc, .slice (some ⟨vg, 0, none⟩) m vvc, .slice (some ⟨cg, 0, none⟩) (m + 1) cc, ks, vs, ps⟩, ⟨ab, .slice (some ⟨ak, 0, none⟩) (p + 1) ac, .slice (some ⟨avg, 0, none⟩) (p + 1) av, .slice CA1 0 aq, aks, avs, aps⟩, ⟨bb, .slice (some ⟨bk, 0, none⟩) 3 bc, .slice (some ⟨bvg, 0, none⟩) 3 bv, .slice CB1 0 bq, bks, bvs, bps⟩]))
  case first =>
    go_quiet (fail)
    go_wp2_with fail
    go_meet
    case rel => exact ⟨rfl, rfl, Lib.hid (HH.out.drewN _)⟩
  case rest =>
    obtain ⟨rfl, rfl, HR⟩ := hcut
    clear hci hci1 h2 HH
    have a0 := Lib.hid (HR.out.nod ⟨ab, .slice (some ⟨ak, 0, none⟩) (p + 1) ac, .slice (some ⟨avg, 0, none⟩) (p + 1) av, .slice CA1 0 aq, aks, avs, aps⟩ (by simp))
    have c0 : wc.cell? ⟨ab, 0, none⟩ = some (.slice (some ⟨ak, 0, none⟩) (p + 1) ac) := a0.out.blk.cell 0
    go_upto_region 2 with fail
    clear c0 a0
    have HRx := Lib.hid (HR.out.perm (show List.Perm _ [⟨bb, .slice (some ⟨bk, 0, none⟩) 3 bc, .slice (some ⟨bvg, 0, none⟩) 3 bv, .slice CB1 0 bq, bks, bvs, bps⟩, ⟨b, .slice (some ⟨kg, 0, none⟩) m kvc, .slice (some ⟨vg, 0, none⟩) m vvc, .slice (some ⟨cg, 0, none⟩) (m + 1) cc, ks, vs, ps⟩, ⟨ab, .slice (some ⟨ak, 0, none⟩) (p + 1) ac, .slice (some ⟨avg, 0, none⟩) (p + 1) av, .slice CA1 0 aq, aks, avs, aps⟩] from (List.Perm.trans (List.Perm.cons _ (List.Perm.swap _ _ _)) (List.Perm.swap _ _ _))))
    clear HR
    have HR := HRx
    clear HRx
    have d1 := Lib.hid (HR.out.nod ⟨bb, .slice (some ⟨bk, 0, none⟩) 3 bc, .slice (some ⟨bvg, 0, none⟩) 3 bv, .slice CB1 0 bq, bks, bvs, bps⟩ (by simp))
    have s1 := Lib.hid (HR.out.nod ⟨b, .slice (some ⟨kg, 0, none⟩) m kvc, .slice (some ⟨vg, 0, none⟩) m vvc, .slice (some ⟨cg, 0, none⟩) (m + 1) cc, ks, vs, ps⟩ (by simp))
    go_wp2_with fail
    refine wp_region_noPanic ?_
    refine wp_region_lateM (fun w' : World => w'.cell? ⟨bb, 0, none⟩ = some (.slice (some ⟨bk, 0, none⟩) 3 bc) ∧ w'.cell? ⟨b, 0, none⟩ = some (.slice (some ⟨kg, 0, none⟩) m kvc) ∧ w'.cell? ⟨kg, i, none⟩ = some (Value.string s3)) [17] (by kernel_rfl) ?_
    have hS0 : (fun w' : World => w'.cell? ⟨bb, 0, none⟩ = some (.slice (some ⟨bk, 0, none⟩) 3 bc) ∧ w'.cell? ⟨b, 0, none⟩ = some (.slice (some ⟨kg, 0, none⟩) m kvc) ∧ w'.cell? ⟨kg, i, none⟩ = some (Value.string s3)) wc.drew := ⟨d1.out.blk.cell 0, s1.out.blk.cell 0, s1.out.kcell K3.out⟩
    refine wpAnyM_take0 0 28 (v := ?_) rfl rfl (by kernel_rfl) (by kernel_rfl) (by kernel_rfl) (fun _ _ _ h => h) (by rfl) ?_ ?_
    rotate_left
    · (intro w'; go_simp; try with_reducible rfl)
    simp only [List.setIfInBounds_toArray, List.set_cons_zero, List.set_cons_succ]
    refine wpAnyM_take0 1 29 (v := ?_) rfl rfl (by kernel_rfl) (by kernel_rfl) (by kernel_rfl) (fun _ _ _ h => h) (by rfl) ?_ ?_
    rotate_left
    · (intro w'; go_simp; try with_reducible rfl)
    simp only [List.setIfInBounds_toArray, List.set_cons_zero, List.set_cons_succ]
    refine wpAnyM_take0 2 30 (v := ?_) rfl rfl (by kernel_rfl) (by kernel_rfl) (by kernel_rfl) (fun _ _ _ h => h) (by rfl) ?_ ?_
    rotate_left
    · (intro w'; go_simp; try with_reducible rfl)
    simp only [List.setIfInBounds_toArray, List.set_cons_zero, List.set_cons_succ]
    refine wpAnyM_take0 3 31 (v := ?_) rfl rfl (by kernel_rfl) (by kernel_rfl) (by kernel_rfl) (fun _ _ _ h => h) (by rfl) ?_ ?_
    rotate_left
    · (intro w'; go_simp; try with_reducible rfl)
    simp only [List.setIfInBounds_toArray, List.set_cons_zero, List.set_cons_succ]
    refine wpAnyM_take 4 32 (v := ?_) rfl rfl (by kernel_rfl) (by kernel_rfl) (by kernel_rfl) (by kernel_rfl) (fun _ _ _ h => h) (by rfl) ?_ hS0 ?_
    rotate_left
    · (intro w' hSw; obtain ⟨q1, q2, q3⟩ := hSw; go_simp; try with_reducible rfl)
    simp only [List.setIfInBounds_toArray, List.set_cons_zero, List.set_cons_succ]
    refine wpAnyM_take0 5 33 (v := ?_) rfl rfl (by kernel_rfl) (by kernel_rfl) (by kernel_rfl) (fun _ _ _ h => h) (by rfl) ?_ ?_
    rotate_left
    · (intro w'; go_simp; try with_reducible rfl)
    simp only [List.setIfInBounds_toArray, List.set_cons_zero, List.set_cons_succ]
    refine wpAnyM_take0 6 34 (v := ?_) rfl rfl (by kernel_rfl) (by kernel_rfl) (by kernel_rfl) (fun _ _ _ h => h) (by rfl) ?_ ?_
    rotate_left
    · (intro w'; go_simp; try with_reducible rfl)
    simp only [List.setIfInBounds_toArray, List.set_cons_zero, List.set_cons_succ]
    refine wpAnyM_take0 7 35 (v := ?_) rfl rfl (by kernel_rfl) (by kernel_rfl) (by kernel_rfl) (fun _ _ _ h => h) (by rfl) ?_ ?_
    rotate_left
    · (intro w'; go_simp; try with_reducible rfl)
    simp only [List.setIfInBounds_toArray, List.set_cons_zero, List.set_cons_succ]
    refine wpAnyM_take 8 36 (v := ?_) rfl rfl (by kernel_rfl) (by kernel_rfl) (by kernel_rfl) (by kernel_rfl) (fun _ _ _ h => h) (by rfl) ?_ hS0 ?_
    rotate_left
    · (intro w' hSw; obtain ⟨q1, q2, q3⟩ := hSw; go_simp; try with_reducible rfl)
    simp only [List.setIfInBounds_toArray, List.set_cons_zero, List.set_cons_succ]
    refine wpAnyM_take0 9 37 (v := ?_) rfl rfl (by kernel_rfl) (by kernel_rfl) (by kernel_rfl) (fun _ _ _ h => h) (by rfl) ?_ ?_
    rotate_left
    · (intro w'; go_simp; try with_reducible rfl)
    simp only [List.setIfInBounds_toArray, List.set_cons_zero, List.set_cons_succ]
    refine wpAnyM_take0 10 38 (v := ?_) rfl rfl (by kernel_rfl) (by kernel_rfl) (by kernel_rfl) (fun _ _ _ h => h) (by rfl) ?_ ?_
    rotate_left
    · (intro w'; go_simp; try with_reducible rfl)
    simp only [List.setIfInBounds_toArray, List.set_cons_zero, List.set_cons_succ]
    refine wpAnyM_take0 11 39 (v := ?_) rfl rfl (by kernel_rfl) (by kernel_rfl) (by kernel_rfl) (fun _ _ _ h => h) (by rfl) ?_ ?_
    rotate_left
    · (intro w'; go_simp; try with_reducible rfl)
    simp only [List.setIfInBounds_toArray, List.set_cons_zero, List.set_cons_succ]
    refine wpAnyM_take 12 40 (v := ?_) rfl rfl (by kernel_rfl) (by kernel_rfl) (by kernel_rfl) (by kernel_rfl) (fun _ _ _ h => h) (by rfl) ?_ hS0 ?_
    rotate_left
    · (intro w' hSw; obtain ⟨q1, q2, q3⟩ := hSw; go_simp; try with_reducible rfl)
    simp only [List.setIfInBounds_toArray, List.set_cons_zero, List.set_cons_succ]
    have HRb := Lib.hid (HR.out.drew.alloc (.cells #[Value.string s3] 9))
    have d2 := Lib.hid (HRb.out.nod ⟨bb, .slice (some ⟨bk, 0, none⟩) 3 bc, .slice (some ⟨bvg, 0, none⟩) 3 bv, .slice CB1 0 bq, bks, bvs, bps⟩ (by simp))
    have s2 := Lib.hid (HRb.out.nod ⟨b, .slice (some ⟨kg, 0, none⟩) m kvc, .slice (some ⟨vg, 0, none⟩) m vvc, .slice (some ⟨cg, 0, none⟩) (m + 1) cc, ks, vs, ps⟩ (by simp))
    have hS1 : (fun w' : World => w'.cell? ⟨bb, 0, none⟩ = some (.slice (some ⟨bk, 0, none⟩) 3 bc) ∧ w'.cell? ⟨b, 0, none⟩ = some (.slice (some ⟨kg, 0, none⟩) m kvc) ∧ w'.cell? ⟨kg, i, none⟩ = some (Value.string s3)) (wc.drew.alloc (.cells #[Value.string s3] 9)) := ⟨d2.out.blk.cell 0, s2.out.blk.cell 0, s2.out.kcell K3.out⟩
    refine wpAnyM_val 13 41 (v := .slice (some ⟨wc.heap.size, 0, none⟩) 1 1) (w' := (wc.drew.alloc (.cells #[Value.string s3] 9))) rfl rfl (by kernel_rfl) (by rfl) (by go_simp; try rfl) (.inr fun _ => hS1) ?_
    simp only [List.setIfInBounds_toArray, List.set_cons_zero, List.set_cons_succ]
    have hcall : Calls Try.prog 86 #[.slice (some ⟨bk, 0, none⟩) 3 bc, .int .i64 0, .slice (some ⟨wc.heap.size, 0, none⟩) 1 1] (wc.drew.alloc (.cells #[Value.string s3] 9)) (InsPostN (wc.drew.alloc (.cells #[Value.string s3] 9)) 9 (.slice (some ⟨bk, 0, none⟩) 3 bc) 4 (Value.string s3 :: bks)) :=
      (insertS (wc.drew.alloc (.cells #[Value.string s3] 9)) (.slice (some ⟨bk, 0, none⟩) 3 bc) bks (Value.string s3) wc.heap.size 0 d2.out.kr (by have := LD.out; omega) (Nat.zero_le _) (Blk.new _ _ _) rfl (StrV.one OB.out.1) (fun h => by have := d1.out.kr.lt _ h; exact absurd this (Nat.lt_irrefl _))).mono fun _ _ h => insPostN (by have := LD.out; simp; omega) h
    refine wpAnyM_call 14 42 (f := 86) (args := #[.slice (some ⟨bk, 0, none⟩) 3 bc, .int .i64 0, .slice (some ⟨wc.heap.size, 0, none⟩) 1 1]) rfl rfl (by kernel_rfl) (by rfl) (by go_simp; try rfl) hcall ?_
    clear hcall
    rintro e w4 ⟨NK, nKq, rfl, hrow, hchg, hown⟩
    have hmid := Nds.mid HRb.out (v := .slice (some ⟨bk, 0, none⟩) 3 bc) (.inl rfl) hchg
    have sn3 : NodR TS w4 ⟨b, .slice (some ⟨kg, 0, none⟩) m kvc, .slice (some ⟨vg, 0, none⟩) m vvc, .slice (some ⟨cg, 0, none⟩) (m + 1) cc, ks, vs, ps⟩ := hmid.2 _ (by simp)
    have hS2 : (fun w' : World => w'.cell? ⟨bb, 0, none⟩ = some (.slice (some ⟨bk, 0, none⟩) 3 bc) ∧ w'.cell? ⟨b, 0, none⟩ = some (.slice (some ⟨kg, 0, none⟩) m kvc) ∧ w'.cell? ⟨kg, i, none⟩ = some (Value.string s3)) w4 := ⟨hmid.1.cell 0, sn3.blk.cell 0, sn3.kcell K3.out⟩
    have hf4 : w4.frozen? ⟨bb, 0, none⟩ = false := hmid.1.frozen 0
    have hc4 : w4.cell? ⟨bb, 0, none⟩ = some (.slice (some ⟨bk, 0, none⟩) 3 bc) := hmid.1.cell 0
    have ok6 : ∀ u ∈ Value.string s3 :: bks, StrV u := fun u hu => by
      rcases List.mem_cons.1 hu with rfl | hu
      · exact ⟨_, rfl⟩
      · exact OB.out.1 u hu
    have h6 := Nds.slotK HRb.out hchg hrow ok6 hown
    have HRc := Lib.hid h6
    clear hrow hchg hown hmid sn3 ok6 h6
    refine ⟨_, rfl, .inr fun _ => hS2, ?_⟩
    simp only [List.setIfInBounds_toArray, List.set_cons_zero, List.set_cons_succ]
    refine wpAnyM_val 15 43 (v := .pointer (some ⟨bb, 0, none⟩)) (w' := w4) rfl rfl (by kernel_rfl) (by rfl) (by go_simp; try rfl) (.inr (fun h => h)) ?_
    simp only [List.setIfInBounds_toArray, List.set_cons_zero, List.set_cons_succ]
    refine wpAnyM_val 16 44 (v := .pointer (some ⟨bb, 0, none⟩)) (w' := w4) rfl rfl (by kernel_rfl) (by rfl) (by go_simp; try rfl) (.inr (fun h => h)) ?_
    simp only [List.setIfInBounds_toArray, List.set_cons_zero, List.set_cons_succ]
    refine wpAnyM_skip 17 (w' := w4.setCell ⟨bb, 0, none⟩ (.slice NK 4 nKq)) rfl rfl (by kernel_rfl) (by rfl) (by go_simp; try rfl) (.inl (by simp)) ?_
    refine wpAnyM_done (by kernel_rfl) ?_ _
    refine NoPanic.normal ?_
    generalize w4.setCell ⟨bb, 0, none⟩ (.slice NK 4 nKq) = X1 at *
    clear hS0 hS1 hS2 hf4 hc4 HR HRb d1 s1 d2 s2
    have HR := HRc
    clear HRc
    have d1 := Lib.hid (HR.out.nod ⟨bb, .slice NK 4 nKq, .slice (some ⟨bvg, 0, none⟩) 3 bv, .slice CB1 0 bq, Value.string s3 :: bks, bvs, bps⟩ (by simp))
    have s1 := Lib.hid (HR.out.nod ⟨b, .slice (some ⟨kg, 0, none⟩) m kvc, .slice (some ⟨vg, 0, none⟩) m vvc, .slice (some ⟨cg, 0, none⟩) (m + 1) cc, ks, vs, ps⟩ (by simp))
    go_wp2_with fail
    refine wp_region_noPanic ?_
    refine wp_region_lateM (fun w' : World => w'.cell? ⟨bb, 1, none⟩ = some (.slice (some ⟨bvg, 0, none⟩) 3 bv) ∧ w'.cell? ⟨b, 1, none⟩ = some (.slice (some ⟨vg, 0, none⟩) m vvc) ∧ w'.cell? ⟨vg, i, none⟩ = some (Value.string z3)) [17] (by kernel_rfl) ?_
    have hS0 : (fun w' : World => w'.cell? ⟨bb, 1, none⟩ = some (.slice (some ⟨bvg, 0, none⟩) 3 bv) ∧ w'.cell? ⟨b, 1, none⟩ = some (.slice (some ⟨vg, 0, none⟩) m vvc) ∧ w'.cell? ⟨vg, i, none⟩ = some (Value.string z3)) X1.drew := ⟨d1.out.blk.cell 1, s1.out.blk.cell 1, s1.out.vcell V3.out⟩
    refine wpAnyM_take0 0 45 (v := ?_) rfl rfl (by kernel_rfl) (by kernel_rfl) (by kernel_rfl) (fun _ _ _ h => h) (by rfl) ?_ ?_
    rotate_left
    · (intro w'; go_simp; try with_reducible rfl)
    simp only [List.setIfInBounds_toArray, List.set_cons_zero, List.set_cons_succ]
    refine wpAnyM_take0 1 46 (v := ?_) rfl rfl (by kernel_rfl) (by kernel_rfl) (by kernel_rfl) (fun _ _ _ h => h) (by rfl) ?_ ?_
    rotate_left
    · (intro w'; go_simp; try with_reducible rfl)
    simp only [List.setIfInBounds_toArray, List.set_cons_zero, List.set_cons_succ]
    refine wpAnyM_take0 2 47 (v := ?_) rfl rfl (by kernel_rfl) (by kernel_rfl) (by kernel_rfl) (fun _ _ _ h => h) (by rfl) ?_ ?_
    rotate_left
    · (intro w'; go_simp; try with_reducible rfl)
    simp only [List.setIfInBounds_toArray, List.set_cons_zero, List.set_cons_succ]
    refine wpAnyM_take0 3 48 (v := ?_) rfl rfl (by kernel_rfl) (by kernel_rfl) (by kernel_rfl) (fun _ _ _ h => h) (by rfl) ?_ ?_
    rotate_left
    · (intro w'; go_simp; try with_reducible rfl)
    simp only [List.setIfInBounds_toArray, List.set_cons_zero, List.set_cons_succ]
    refine wpAnyM_take 4 49 (v := ?_) rfl rfl (by kernel_rfl) (by kernel_rfl) (by kernel_rfl) (by kernel_rfl) (fun _ _ _ h => h) (by rfl) ?_ hS0 ?_
    rotate_left
    · (intro w' hSw; obtain ⟨q1, q2, q3⟩ := hSw; go_simp; try with_reducible rfl)
    simp only [List.setIfInBounds_toArray, List.set_cons_zero, List.set_cons_succ]
    refine wpAnyM_take0 5 50 (v := ?_) rfl rfl (by kernel_rfl) (by kernel_rfl) (by kernel_rfl) (fun _ _ _ h => h) (by rfl) ?_ ?_
    rotate_left
    · (intro w'; go_simp; try with_reducible rfl)
    simp only [List.setIfInBounds_toArray, List.set_cons_zero, List.set_cons_succ]
    refine wpAnyM_take0 6 51 (v := ?_) rfl rfl (by kernel_rfl) (by kernel_rfl) (by kernel_rfl) (fun _ _ _ h => h) (by rfl) ?_ ?_
    rotate_left
    · (intro w'; go_simp; try with_reducible rfl)
    simp only [List.setIfInBounds_toArray, List.set_cons_zero, List.set_cons_succ]
    refine wpAnyM_take0 7 52 (v := ?_) rfl rfl (by kernel_rfl) (by kernel_rfl) (by kernel_rfl) (fun _ _ _ h => h) (by rfl) ?_ ?_
    rotate_left
    · (intro w'; go_simp; try with_reducible rfl)
    simp only [List.setIfInBounds_toArray, List.set_cons_zero, List.set_cons_succ]
    refine wpAnyM_take 8 53 (v := ?_) rfl rfl (by kernel_rfl) (by kernel_rfl) (by kernel_rfl) (by kernel_rfl) (fun _ _ _ h => h) (by rfl) ?_ hS0 ?_
    rotate_left
    · (intro w' hSw; obtain ⟨q1, q2, q3⟩ := hSw; go_simp; try with_reducible rfl)
    simp only [List.setIfInBounds_toArray, List.set_cons_zero, List.set_cons_succ]
    refine wpAnyM_take0 9 54 (v := ?_) rfl rfl (by kernel_rfl) (by kernel_rfl) (by kernel_rfl) (fun _ _ _ h => h) (by rfl) ?_ ?_
    rotate_left
    · (intro w'; go_simp; try with_reducible rfl)
    simp only [List.setIfInBounds_toArray, List.set_cons_zero, List.set_cons_succ]
    refine wpAnyM_take0 10 55 (v := ?_) rfl rfl (by kernel_rfl) (by kernel_rfl) (by kernel_rfl) (fun _ _ _ h => h) (by rfl) ?_ ?_
    rotate_left
    · (intro w'; go_simp; try with_reducible rfl)
    simp only [List.setIfInBounds_toArray, List.set_cons_zero, List.set_cons_succ]
    refine wpAnyM_take0 11 56 (v := ?_) rfl rfl (by kernel_rfl) (by kernel_rfl) (by kernel_rfl) (fun _ _ _ h => h) (by rfl) ?_ ?_
    rotate_left
    · (intro w'; go_simp; try with_reducible rfl)
    simp only [List.setIfInBounds_toArray, List.set_cons_zero, List.set_cons_succ]
    refine wpAnyM_take 12 57 (v := ?_) rfl rfl (by kernel_rfl) (by kernel_rfl) (by kernel_rfl) (by kernel_rfl) (fun _ _ _ h => h) (by rfl) ?_ hS0 ?_
    rotate_left
    · (intro w' hSw; obtain ⟨q1, q2, q3⟩ := hSw; go_simp; try with_reducible rfl)
    simp only [List.setIfInBounds_toArray, List.set_cons_zero, List.set_cons_succ]
    have HRb := Lib.hid (HR.out.drew.alloc (.cells #[Value.string z3] 9))
    have d2 := Lib.hid (HRb.out.nod ⟨bb, .slice NK 4 nKq, .slice (some ⟨bvg, 0, none⟩) 3 bv, .slice CB1 0 bq, Value.string s3 :: bks, bvs, bps⟩ (by simp))
    have s2 := Lib.hid (HRb.out.nod ⟨b, .slice (some ⟨kg, 0, none⟩) m kvc, .slice (some ⟨vg, 0, none⟩) m vvc, .slice (some ⟨cg, 0, none⟩) (m + 1) cc, ks, vs, ps⟩ (by simp))
    have hS1 : (fun w' : World => w'.cell? ⟨bb, 1, none⟩ = some (.slice (some ⟨bvg, 0, none⟩) 3 bv) ∧ w'.cell? ⟨b, 1, none⟩ = some (.slice (some ⟨vg, 0, none⟩) m vvc) ∧ w'.cell? ⟨vg, i, none⟩ = some (Value.string z3)) (X1.drew.alloc (.cells #[Value.string z3] 9)) := ⟨d2.out.blk.cell 1, s2.out.blk.cell 1, s2.out.vcell V3.out⟩
    refine wpAnyM_val 13 58 (v := .slice (some ⟨X1.heap.size, 0, none⟩) 1 1) (w' := (X1.drew.alloc (.cells #[Value.string z3] 9))) rfl rfl (by kernel_rfl) (by rfl) (by go_simp; try rfl) (.inr fun _ => hS1) ?_
    simp only [List.setIfInBounds_toArray, List.set_cons_zero, List.set_cons_succ]
    have hcall : Calls Try.prog 86 #[.slice (some ⟨bvg, 0, none⟩) 3 bv, .int .i64 0, .slice (some ⟨X1.heap.size, 0, none⟩) 1 1] (X1.drew.alloc (.cells #[Value.string z3] 9)) (InsPostN (X1.drew.alloc (.cells #[Value.string z3] 9)) 9 (.slice (some ⟨bvg, 0, none⟩) 3 bv) 4 (Value.string z3 :: bvs)) :=
      (insertS (X1.drew.alloc (.cells #[Value.string z3] 9)) (.slice (some ⟨bvg, 0, none⟩) 3 bv) bvs (Value.string z3) X1.heap.size 0 d2.out.vr (by have := LD.out; omega) (Nat.zero_le _) (Blk.new _ _ _) rfl (StrV.one OB.out.2.1) (fun h => by have := d1.out.vr.lt _ h; exact absurd this (Nat.lt_irrefl _))).mono fun _ _ h => insPostN (by have := LD.out; simp; omega) h
    refine wpAnyM_call 14 59 (f := 86) (args := #[.slice (some ⟨bvg, 0, none⟩) 3 bv, .int .i64 0, .slice (some ⟨X1.heap.size, 0, none⟩) 1 1]) rfl rfl (by kernel_rfl) (by rfl) (by go_simp; try rfl) hcall ?_
    clear hcall
    rintro e w4 ⟨NV, nVq, rfl, hrow, hchg, hown⟩
    have hmid := Nds.mid HRb.out (v := .slice (some ⟨bvg, 0, none⟩) 3 bv) (.inr (.inl rfl)) hchg
    have sn3 : NodR TS w4 ⟨b, .slice (some ⟨kg, 0, none⟩) m kvc, .slice (some ⟨vg, 0, none⟩) m vvc, .slice (some ⟨cg, 0, none⟩) (m + 1) cc, ks, vs, ps⟩ := hmid.2 _ (by simp)
    have hS2 : (fun w' : World => w'.cell? ⟨bb, 1, none⟩ = some (.slice (some ⟨bvg, 0, none⟩) 3 bv) ∧ w'.cell? ⟨b, 1, none⟩ = some (.slice (some ⟨vg, 0, none⟩) m vvc) ∧ w'.cell? ⟨vg, i, none⟩ = some (Value.string z3)) w4 := ⟨hmid.1.cell 1, sn3.blk.cell 1, sn3.vcell V3.out⟩
    have hf4 : w4.frozen? ⟨bb, 1, none⟩ = false := hmid.1.frozen 1
    have hc4 : w4.cell? ⟨bb, 1, none⟩ = some (.slice (some ⟨bvg, 0, none⟩) 3 bv) := hmid.1.cell 1
    have ok6 : ∀ u ∈ Value.string z3 :: bvs, StrV u := fun u hu => by
      rcases List.mem_cons.1 hu with rfl | hu
      · exact ⟨z3, rfl⟩
      · exact OB.out.2.1 u hu
    have h6 := Nds.slotV HRb.out hchg hrow ok6 hown
    have HRc := Lib.hid h6
    clear hrow hchg hown hmid sn3 ok6 h6
    refine ⟨_, rfl, .inr fun _ => hS2, ?_⟩
    simp only [List.setIfInBounds_toArray, List.set_cons_zero, List.set_cons_succ]
    refine wpAnyM_val 15 60 (v := .pointer (some ⟨bb, 0, none⟩)) (w' := w4) rfl rfl (by kernel_rfl) (by rfl) (by go_simp; try rfl) (.inr (fun h => h)) ?_
    simp only [List.setIfInBounds_toArray, List.set_cons_zero, List.set_cons_succ]
    refine wpAnyM_val 16 61 (v := .pointer (some ⟨bb, 1, none⟩)) (w' := w4) rfl rfl (by kernel_rfl) (by rfl) (by go_simp; try rfl) (.inr (fun h => h)) ?_
    simp only [List.setIfInBounds_toArray, List.set_cons_zero, List.set_cons_succ]
    refine wpAnyM_skip 17 (w' := w4.setCell ⟨bb, 1, none⟩ (.slice NV 4 nVq)) rfl rfl (by kernel_rfl) (by rfl) (by go_simp; try rfl) (.inl (by simp)) ?_
    refine wpAnyM_done (by kernel_rfl) ?_ _
    refine NoPanic.normal ?_
    generalize w4.setCell ⟨bb, 1, none⟩ (.slice NV 4 nVq) = X2 at *
    clear hS0 hS1 hS2 hf4 hc4 HR HRb d1 s1 d2 s2
    have HR := HRc
    clear HRc
    have HRx := Lib.hid (HR.out.perm (show List.Perm _ [⟨b, .slice (some ⟨kg, 0, none⟩) m kvc, .slice (some ⟨vg, 0, none⟩) m vvc, .slice (some ⟨cg, 0, none⟩) (m + 1) cc, ks, vs, ps⟩, ⟨bb, .slice NK 4 nKq, .slice NV 4 nVq, .slice CB1 0 bq, Value.string s3 :: bks, Value.string z3 :: bvs, bps⟩, ⟨ab, .slice (some ⟨ak, 0, none⟩) (p + 1) ac, .slice (some ⟨avg, 0, none⟩) (p + 1) av, .slice CA1 0 aq, aks, avs, aps⟩] from (List.Perm.swap _ _ _)))
    clear HR
    have HR := HRx
    clear HRx
    have d1 := Lib.hid (HR.out.nod ⟨b, .slice (some ⟨kg, 0, none⟩) m kvc, .slice (some ⟨vg, 0, none⟩) m vvc, .slice (some ⟨cg, 0, none⟩) (m + 1) cc, ks, vs, ps⟩ (by simp))
    have s1 := Lib.hid (HR.out.nod ⟨ab, .slice (some ⟨ak, 0, none⟩) (p + 1) ac, .slice (some ⟨avg, 0, none⟩) (p + 1) av, .slice CA1 0 aq, aks, avs, aps⟩ (by simp))
    go_wp2_with fail
    refine wp_region_noPanic ?_
    refine wp_region_lateM (fun w' : World => w'.cell? ⟨b, 0, none⟩ = some (.slice (some ⟨kg, 0, none⟩) m kvc) ∧ w'.cell? ⟨b, 1, none⟩ = some (.slice (some ⟨vg, 0, none⟩) m vvc) ∧ w'.cell? ⟨ab, 0, none⟩ = some (.slice (some ⟨ak, 0, none⟩) (p + 1) ac) ∧ w'.cell? ⟨ab, 1, none⟩ = some (.slice (some ⟨avg, 0, none⟩) (p + 1) av) ∧ w'.cell? ⟨ak, p, none⟩ = some (Value.string sl) ∧ w'.cell? ⟨avg, p, none⟩ = some (Value.string zu)) [27, 29] (by kernel_rfl) ?_
    have hS0 : (fun w' : World => w'.cell? ⟨b, 0, none⟩ = some (.slice (some ⟨kg, 0, none⟩) m kvc) ∧ w'.cell? ⟨b, 1, none⟩ = some (.slice (some ⟨vg, 0, none⟩) m vvc) ∧ w'.cell? ⟨ab, 0, none⟩ = some (.slice (some ⟨ak, 0, none⟩) (p + 1) ac) ∧ w'.cell? ⟨ab, 1, none⟩ = some (.slice (some ⟨avg, 0, none⟩) (p + 1) av) ∧ w'.cell? ⟨ak, p, none⟩ = some (Value.string sl) ∧ w'.cell? ⟨avg, p, none⟩ = some (Value.string zu)) X2.drew := ⟨d1.out.blk.cell 0, d1.out.blk.cell 1, s1.out.blk.cell 0, s1.out.blk.cell 1, s1.out.kcell KL.out, s1.out.vcell VL.out⟩
    refine wpAnyM_take0 0 62 (v := ?_) rfl rfl (by kernel_rfl) (by kernel_rfl) (by kernel_rfl) (fun _ _ _ h => h) (by rfl) ?_ ?_
    rotate_left
    · (intro w'; go_simp; try with_reducible rfl)
    simp only [List.setIfInBounds_toArray, List.set_cons_zero, List.set_cons_succ]
    refine wpAnyM_take0 1 63 (v := ?_) rfl rfl (by kernel_rfl) (by kernel_rfl) (by kernel_rfl) (fun _ _ _ h => h) (by rfl) ?_ ?_
    rotate_left
    · (intro w'; go_simp; try with_reducible rfl)
    simp only [List.setIfInBounds_toArray, List.set_cons_zero, List.set_cons_succ]
    refine wpAnyM_take0 2 64 (v := ?_) rfl rfl (by kernel_rfl) (by kernel_rfl) (by kernel_rfl) (fun _ _ _ h => h) (by rfl) ?_ ?_
    rotate_left
    · (intro w'; go_simp; try with_reducible rfl)
    simp only [List.setIfInBounds_toArray, List.set_cons_zero, List.set_cons_succ]
    refine wpAnyM_take 3 65 (v := ?_) rfl rfl (by kernel_rfl) (by kernel_rfl) (by kernel_rfl) (by kernel_rfl) (fun _ _ _ h => h) (by rfl) ?_ hS0 ?_
    rotate_left
    · (intro w' hSw; obtain ⟨q1, q2, q3, q4, q5, q6⟩ := hSw; go_simp; try with_reducible rfl)
    simp only [List.setIfInBounds_toArray, List.set_cons_zero, List.set_cons_succ]
    refine wpAnyM_take0 4 66 (v := ?_) rfl rfl (by kernel_rfl) (by kernel_rfl) (by kernel_rfl) (fun _ _ _ h => h) (by rfl) ?_ ?_
    rotate_left
    · (intro w'; go_simp; try with_reducible rfl)
    simp only [List.setIfInBounds_toArray, List.set_cons_zero, List.set_cons_succ]
    refine wpAnyM_take0 5 67 (v := ?_) rfl rfl (by kernel_rfl) (by kernel_rfl) (by kernel_rfl) (fun _ _ _ h => h) (by rfl) ?_ ?_
    rotate_left
    · (intro w'; go_simp; try with_reducible rfl)
    simp only [List.setIfInBounds_toArray, List.set_cons_zero, List.set_cons_succ]
    refine wpAnyM_take0 6 68 (v := ?_) rfl rfl (by kernel_rfl) (by kernel_rfl) (by kernel_rfl) (fun _ _ _ h => h) (by rfl) ?_ ?_
    rotate_left
    · (intro w'; go_simp; try with_reducible rfl)
    simp only [List.setIfInBounds_toArray, List.set_cons_zero, List.set_cons_succ]
    refine wpAnyM_take0 7 69 (v := ?_) rfl rfl (by kernel_rfl) (by kernel_rfl) (by kernel_rfl) (fun _ _ _ h => h) (by rfl) ?_ ?_
    rotate_left
    · (intro w'; go_simp; try with_reducible rfl)
    simp only [List.setIfInBounds_toArray, List.set_cons_zero, List.set_cons_succ]
    refine wpAnyM_take0 8 70 (v := ?_) rfl rfl (by kernel_rfl) (by kernel_rfl) (by kernel_rfl) (fun _ _ _ h => h) (by rfl) ?_ ?_
    rotate_left
    · (intro w'; go_simp; try with_reducible rfl)
    simp only [List.setIfInBounds_toArray, List.set_cons_zero, List.set_cons_succ]
    refine wpAnyM_take 9 71 (v := ?_) rfl rfl (by kernel_rfl) (by kernel_rfl) (by kernel_rfl) (by kernel_rfl) (fun _ _ _ h => h) (by rfl) ?_ hS0 ?_
    rotate_left
    · (intro w' hSw; obtain ⟨q1, q2, q3, q4, q5, q6⟩ := hSw; go_simp; try with_reducible rfl)
    simp only [List.setIfInBounds_toArray, List.set_cons_zero, List.set_cons_succ]
    refine wpAnyM_take0 10 72 (v := ?_) rfl rfl (by kernel_rfl) (by kernel_rfl) (by kernel_rfl) (fun _ _ _ h => h) (by rfl) ?_ ?_
    rotate_left
    · (intro w'; go_simp; try with_reducible rfl)
    simp only [List.setIfInBounds_toArray, List.set_cons_zero, List.set_cons_succ]
    refine wpAnyM_take0 11 73 (v := ?_) rfl rfl (by kernel_rfl) (by kernel_rfl) (by kernel_rfl) (fun _ _ _ h => h) (by rfl) ?_ ?_
    rotate_left
    · (intro w'; go_simp; try with_reducible rfl)
    simp only [List.setIfInBounds_toArray, List.set_cons_zero, List.set_cons_succ]
    refine wpAnyM_take0 12 74 (v := ?_) rfl rfl (by kernel_rfl) (by kernel_rfl) (by kernel_rfl) (fun _ _ _ h => h) (by rfl) ?_ ?_
    rotate_left
    · (intro w'; go_simp; try with_reducible rfl)
    simp only [List.setIfInBounds_toArray, List.set_cons_zero, List.set_cons_succ]
    refine wpAnyM_take0 13 75 (v := ?_) rfl rfl (by kernel_rfl) (by kernel_rfl) (by kernel_rfl) (fun _ _ _ h => h) (by rfl) ?_ ?_
    rotate_left
    · (intro w'; go_simp; try with_reducible rfl)
    simp only [List.setIfInBounds_toArray, List.set_cons_zero, List.set_cons_succ]
    refine wpAnyM_take0 14 76 (v := ?_) rfl rfl (by kernel_rfl) (by kernel_rfl) (by kernel_rfl) (fun _ _ _ h => h) (by rfl) ?_ ?_
    rotate_left
    · (intro w'; go_simp; try with_reducible rfl)
    simp only [List.setIfInBounds_toArray, List.set_cons_zero, List.set_cons_succ]
    refine wpAnyM_take 15 77 (v := ?_) rfl rfl (by kernel_rfl) (by kernel_rfl) (by kernel_rfl) (by kernel_rfl) (fun _ _ _ h => h) (by rfl) ?_ hS0 ?_
    rotate_left
    · (intro w' hSw; obtain ⟨q1, q2, q3, q4, q5, q6⟩ := hSw; go_simp; try with_reducible rfl)
    simp only [List.setIfInBounds_toArray, List.set_cons_zero, List.set_cons_succ]
    refine wpAnyM_take0 16 78 (v := ?_) rfl rfl (by kernel_rfl) (by kernel_rfl) (by kernel_rfl) (fun _ _ _ h => h) (by rfl) ?_ ?_
    rotate_left
    · (intro w'; go_simp; try with_reducible rfl)
    simp only [List.setIfInBounds_toArray, List.set_cons_zero, List.set_cons_succ]
    refine wpAnyM_take0 17 79 (v := ?_) rfl rfl (by kernel_rfl) (by kernel_rfl) (by kernel_rfl) (fun _ _ _ h => h) (by rfl) ?_ ?_
    rotate_left
    · (intro w'; go_simp; try with_reducible rfl)
    simp only [List.setIfInBounds_toArray, List.set_cons_zero, List.set_cons_succ]
    refine wpAnyM_take 18 80 (v := ?_) rfl rfl (by kernel_rfl) (by kernel_rfl) (by kernel_rfl) (by kernel_rfl) (fun _ _ _ h => h) (by rfl) ?_ hS0 ?_
    rotate_left
    · (intro w' hSw; obtain ⟨q1, q2, q3, q4, q5, q6⟩ := hSw; go_simp; try with_reducible rfl)
    simp only [List.setIfInBounds_toArray, List.set_cons_zero, List.set_cons_succ]
    refine wpAnyM_take0 19 81 (v := ?_) rfl rfl (by kernel_rfl) (by kernel_rfl) (by kernel_rfl) (fun _ _ _ h => h) (by rfl) ?_ ?_
    rotate_left
    · (intro w'; go_simp; try with_reducible rfl)
    simp only [List.setIfInBounds_toArray, List.set_cons_zero, List.set_cons_succ]
    refine wpAnyM_take0 20 82 (v := ?_) rfl rfl (by kernel_rfl) (by kernel_rfl) (by kernel_rfl) (fun _ _ _ h => h) (by rfl) ?_ ?_
    rotate_left
    · (intro w'; go_simp; try with_reducible rfl)
    simp only [List.setIfInBounds_toArray, List.set_cons_zero, List.set_cons_succ]
    refine wpAnyM_take0 21 83 (v := ?_) rfl rfl (by kernel_rfl) (by kernel_rfl) (by kernel_rfl) (fun _ _ _ h => h) (by rfl) ?_ ?_
    rotate_left
    · (intro w'; go_simp; try with_reducible rfl)
    simp only [List.setIfInBounds_toArray, List.set_cons_zero, List.set_cons_succ]
    refine wpAnyM_take 22 84 (v := ?_) rfl rfl (by kernel_rfl) (by kernel_rfl) (by kernel_rfl) (by kernel_rfl) (fun _ _ _ h => h) (by rfl) ?_ hS0 ?_
    rotate_left
    · (intro w' hSw; obtain ⟨q1, q2, q3, q4, q5, q6⟩ := hSw; go_simp; try with_reducible rfl)
    simp only [List.setIfInBounds_toArray, List.set_cons_zero, List.set_cons_succ]
    refine wpAnyM_take0 23 85 (v := ?_) rfl rfl (by kernel_rfl) (by kernel_rfl) (by kernel_rfl) (fun _ _ _ h => h) (by rfl) ?_ ?_
    rotate_left
    · (intro w'; go_simp; try with_reducible rfl)
    simp only [List.setIfInBounds_toArray, List.set_cons_zero, List.set_cons_succ]
    refine wpAnyM_take0 24 86 (v := ?_) rfl rfl (by kernel_rfl) (by kernel_rfl) (by kernel_rfl) (fun _ _ _ h => h) (by rfl) ?_ ?_
    rotate_left
    · (intro w'; go_simp; try with_reducible rfl)
    simp only [List.setIfInBounds_toArray, List.set_cons_zero, List.set_cons_succ]
    refine wpAnyM_take 25 87 (v := ?_) rfl rfl (by kernel_rfl) (by kernel_rfl) (by kernel_rfl) (by kernel_rfl) (fun _ _ _ h => h) (by rfl) ?_ hS0 ?_
    rotate_left
    · (intro w' hSw; obtain ⟨q1, q2, q3, q4, q5, q6⟩ := hSw; go_simp; try with_reducible rfl)
    simp only [List.setIfInBounds_toArray, List.set_cons_zero, List.set_cons_succ]
    have HRb := Lib.hid (Nds.setK HR.out.drew (i := i) (u := Value.string sl) rfl (show i < m by omega) ⟨_, rfl⟩)
    have d2 := Lib.hid (HRb.out.nod ⟨b, .slice (some ⟨kg, 0, none⟩) m kvc, .slice (some ⟨vg, 0, none⟩) m vvc, .slice (some ⟨cg, 0, none⟩) (m + 1) cc, ks.set i (Value.string sl), vs, ps⟩ (by simp))
    have k1 : X2.drew.cell? ⟨kg, i, none⟩ = some (Value.string s3) := d1.out.kcell K3.out
    have k2 : X2.drew.frozen? ⟨kg, i, none⟩ = false := (show Row X2.drew 9 (.slice (some ⟨kg, 0, none⟩) m kvc) ks from d1.out.kr).frozen_ i
    have v1 : (X2.drew.setCell ⟨kg, i, none⟩ (Value.string sl)).cell? ⟨vg, i, none⟩ = some (Value.string z3) := d2.out.vcell V3.out
    have v2 : (X2.drew.setCell ⟨kg, i, none⟩ (Value.string sl)).frozen? ⟨vg, i, none⟩ = false := (show Row (X2.drew.setCell ⟨kg, i, none⟩ (Value.string sl)) 9 (.slice (some ⟨vg, 0, none⟩) m vvc) vs from d2.out.vr).frozen_ i
    refine wpAnyM_val 26 88 (v := .pointer (some ⟨kg, i, none⟩)) (w' := X2.drew) rfl rfl (by kernel_rfl) (by rfl) (by go_simp; try rfl) (.inr (fun h => h)) ?_
    simp only [List.setIfInBounds_toArray, List.set_cons_zero, List.set_cons_succ]
    refine wpAnyM_skip 27 (w' := (X2.drew.setCell ⟨kg, i, none⟩ (Value.string sl))) rfl rfl (by kernel_rfl) (by rfl) (by go_simp; try rfl) (.inl (by simp)) ?_
    generalize hE : (X2.drew.setCell ⟨kg, i, none⟩ (Value.string sl)) = Y1 at *
    refine wpAnyM_val 28 89 (v := .pointer (some ⟨vg, i, none⟩)) (w' := Y1) rfl rfl (by kernel_rfl) (by rfl) (by go_simp; try rfl) (.inr (fun h => h)) ?_
    simp only [List.setIfInBounds_toArray, List.set_cons_zero, List.set_cons_succ]
    refine wpAnyM_skip 29 (w' := Y1.setCell ⟨vg, i, none⟩ (Value.string zu)) rfl rfl (by kernel_rfl) (by rfl) (by go_simp; try rfl) (.inl (by simp)) ?_
    have HRc := Lib.hid (Nds.setV HRb.out (i := i) (u := Value.string zu) rfl (show i < m by omega) ⟨zu, rfl⟩)
    refine wpAnyM_done (by kernel_rfl) ?_ _
    refine NoPanic.normal ?_
    generalize Y1.setCell ⟨vg, i, none⟩ (Value.string zu) = X3 at *
    clear hS0 k1 k2 v1 v2 HR HRb d1 s1 d2
    try clear hE
    have HR := HRc
    clear HRc
    have HRx := Lib.hid (HR.out.perm (show List.Perm _ [⟨ab, .slice (some ⟨ak, 0, none⟩) (p + 1) ac, .slice (some ⟨avg, 0, none⟩) (p + 1) av, .slice CA1 0 aq, aks, avs, aps⟩, ⟨b, .slice (some ⟨kg, 0, none⟩) m kvc, .slice (some ⟨vg, 0, none⟩) m vvc, .slice (some ⟨cg, 0, none⟩) (m + 1) cc, ks.set i (Value.string sl), vs.set i (Value.string zu), ps⟩, ⟨bb, .slice NK 4 nKq, .slice NV 4 nVq, .slice CB1 0 bq, Value.string s3 :: bks, Value.string z3 :: bvs, bps⟩] from (List.Perm.trans (List.Perm.cons _ (List.Perm.swap _ _ _)) (List.Perm.swap _ _ _))))
    clear HR
    have HR := HRx
    clear HRx
    have s1 := Lib.hid (HR.out.nod ⟨ab, .slice (some ⟨ak, 0, none⟩) (p + 1) ac, .slice (some ⟨avg, 0, none⟩) (p + 1) av, .slice CA1 0 aq, aks, avs, aps⟩ (by simp))
    go_wp2_with fail
    refine wp_region_noPanic ?_
    refine wp_region_lateM (fun w' : World => w'.cell? ⟨ab, 0, none⟩ = some (.slice (some ⟨ak, 0, none⟩) (p + 1) ac) ∧ w'.cell? ⟨ab, 1, none⟩ = some (.slice (some ⟨avg, 0, none⟩) (p + 1) av)) [16, 19] (by kernel_rfl) ?_
    have hS0 : (fun w' : World => w'.cell? ⟨ab, 0, none⟩ = some (.slice (some ⟨ak, 0, none⟩) (p + 1) ac) ∧ w'.cell? ⟨ab, 1, none⟩ = some (.slice (some ⟨avg, 0, none⟩) (p + 1) av)) X3.drew := ⟨s1.out.blk.cell 0, s1.out.blk.cell 1⟩
    refine wpAnyM_take0 0 90 (v := ?_) rfl rfl (by kernel_rfl) (by kernel_rfl) (by kernel_rfl) (fun _ _ _ h => h) (by rfl) ?_ ?_
    rotate_left
    · (intro w'; go_simp; try with_reducible rfl)
    simp only [List.setIfInBounds_toArray, List.set_cons_zero, List.set_cons_succ]
    refine wpAnyM_take0 1 91 (v := ?_) rfl rfl (by kernel_rfl) (by kernel_rfl) (by kernel_rfl) (fun _ _ _ h => h) (by rfl) ?_ ?_
    rotate_left
    · (intro w'; go_simp; try with_reducible rfl)
    simp only [List.setIfInBounds_toArray, List.set_cons_zero, List.set_cons_succ]
    refine wpAnyM_take0 2 92 (v := ?_) rfl rfl (by kernel_rfl) (by kernel_rfl) (by kernel_rfl) (fun _ _ _ h => h) (by rfl) ?_ ?_
    rotate_left
    · (intro w'; go_simp; try with_reducible rfl)
    simp only [List.setIfInBounds_toArray, List.set_cons_zero, List.set_cons_succ]
    refine wpAnyM_take0 3 93 (v := ?_) rfl rfl (by kernel_rfl) (by kernel_rfl) (by kernel_rfl) (fun _ _ _ h => h) (by rfl) ?_ ?_
    rotate_left
    · (intro w'; go_simp; try with_reducible rfl)
    simp only [List.setIfInBounds_toArray, List.set_cons_zero, List.set_cons_succ]
    refine wpAnyM_take0 4 94 (v := ?_) rfl rfl (by kernel_rfl) (by kernel_rfl) (by kernel_rfl) (fun _ _ _ h => h) (by rfl) ?_ ?_
    rotate_left
    · (intro w'; go_simp; try with_reducible rfl)
    simp only [List.setIfInBounds_toArray, List.set_cons_zero, List.set_cons_succ]
    refine wpAnyM_take 5 95 (v := ?_) rfl rfl (by kernel_rfl) (by kernel_rfl) (by kernel_rfl) (by kernel_rfl) (fun _ _ _ h => h) (by rfl) ?_ hS0 ?_
    rotate_left
    · (intro w' hSw; obtain ⟨q1, q2⟩ := hSw; go_simp; try with_reducible rfl)
    simp only [List.setIfInBounds_toArray, List.set_cons_zero, List.set_cons_succ]
    refine wpAnyM_take0 6 96 (v := ?_) rfl rfl (by kernel_rfl) (by kernel_rfl) (by kernel_rfl) (fun _ _ _ h => h) (by rfl) ?_ ?_
    rotate_left
    · (intro w'; go_simp; try with_reducible rfl)
    simp only [List.setIfInBounds_toArray, List.set_cons_zero, List.set_cons_succ]
    refine wpAnyM_take0 7 97 (v := ?_) rfl rfl (by kernel_rfl) (by kernel_rfl) (by kernel_rfl) (fun _ _ _ h => h) (by rfl) ?_ ?_
    rotate_left
    · (intro w'; go_simp; try with_reducible rfl)
    simp only [List.setIfInBounds_toArray, List.set_cons_zero, List.set_cons_succ]
    refine wpAnyM_take0 8 98 (v := ?_) rfl rfl (by kernel_rfl) (by kernel_rfl) (by kernel_rfl) (fun _ _ _ h => h) (by rfl) ?_ ?_
    rotate_left
    · (intro w'; go_simp; try with_reducible rfl)
    simp only [List.setIfInBounds_toArray, List.set_cons_zero, List.set_cons_succ]
    refine wpAnyM_take0 9 99 (v := ?_) rfl rfl (by kernel_rfl) (by kernel_rfl) (by kernel_rfl) (fun _ _ _ h => h) (by rfl) ?_ ?_
    rotate_left
    · (intro w'; go_simp; try with_reducible rfl)
    simp only [List.setIfInBounds_toArray, List.set_cons_zero, List.set_cons_succ]
    refine wpAnyM_take0 10 100 (v := ?_) rfl rfl (by kernel_rfl) (by kernel_rfl) (by kernel_rfl) (fun _ _ _ h => h) (by rfl) ?_ ?_
    rotate_left
    · (intro w'; go_simp; try with_reducible rfl)
    simp only [List.setIfInBounds_toArray, List.set_cons_zero, List.set_cons_succ]
    refine wpAnyM_take 11 101 (v := ?_) rfl rfl (by kernel_rfl) (by kernel_rfl) (by kernel_rfl) (by kernel_rfl) (fun _ _ _ h => h) (by rfl) ?_ hS0 ?_
    rotate_left
    · (intro w' hSw; obtain ⟨q1, q2⟩ := hSw; go_simp; try with_reducible rfl)
    simp only [List.setIfInBounds_toArray, List.set_cons_zero, List.set_cons_succ]
    refine wpAnyM_take0 12 102 (v := ?_) rfl rfl (by kernel_rfl) (by kernel_rfl) (by kernel_rfl) (fun _ _ _ h => h) (by rfl) ?_ ?_
    rotate_left
    · (intro w'; go_simp; try with_reducible rfl)
    simp only [List.setIfInBounds_toArray, List.set_cons_zero, List.set_cons_succ]
    refine wpAnyM_take0 13 103 (v := ?_) rfl rfl (by kernel_rfl) (by kernel_rfl) (by kernel_rfl) (fun _ _ _ h => h) (by rfl) ?_ ?_
    rotate_left
    · (intro w'; go_simp; try with_reducible rfl)
    simp only [List.setIfInBounds_toArray, List.set_cons_zero, List.set_cons_succ]
    have r1 := Row.pre (show Row X3.drew 9 (.slice (some ⟨ak, 0, none⟩) (p + 1) ac) aks from s1.out.kr) (d := p) (c' := ac) (by omega) (by omega) (by omega) (by simp)
    have HRb := Lib.hid (Nds.slotK HR.out.drew (Chg.refl _ _) r1 (fun u hu => OA.out.1 u (List.mem_of_mem_take hu)) (.inl rfl))
    have s2 := Lib.hid (HRb.out.nod ⟨ab, .slice (some ⟨ak, 0, none⟩) p ac, .slice (some ⟨avg, 0, none⟩) (p + 1) av, .slice CA1 0 aq, aks.take p, avs, aps⟩ (by simp))
    have k1 : X3.drew.cell? ⟨ab, 0, none⟩ = some (.slice (some ⟨ak, 0, none⟩) (p + 1) ac) := s1.out.blk.cell 0
    have k2 : X3.drew.frozen? ⟨ab, 0, none⟩ = false := s1.out.blk.frozen 0
    have v1 : (X3.drew.setCell ⟨ab, 0, none⟩ (.slice (some ⟨ak, 0, none⟩) p ac)).cell? ⟨ab, 1, none⟩ = some (.slice (some ⟨avg, 0, none⟩) (p + 1) av) := s2.out.blk.cell 1
    have v2 : (X3.drew.setCell ⟨ab, 0, none⟩ (.slice (some ⟨ak, 0, none⟩) p ac)).frozen? ⟨ab, 1, none⟩ = false := s2.out.blk.frozen 1
    have r2 := Row.pre (show Row (X3.drew.setCell ⟨ab, 0, none⟩ (.slice (some ⟨ak, 0, none⟩) p ac)) 9 (.slice (some ⟨avg, 0, none⟩) (p + 1) av) avs from s2.out.vr) (d := p) (c' := av) (by omega) (by omega) (by omega) (by simp)
    have HRc := Lib.hid (Nds.slotV HRb.out (Chg.refl _ _) r2 (fun u hu => OA.out.2.1 u (List.mem_of_mem_take hu)) (.inl rfl))
    refine wpAnyM_val 14 104 (v := .pointer (some ⟨ab, 0, none⟩)) (w' := X3.drew) rfl rfl (by kernel_rfl) (by rfl) (by go_simp; try rfl) (.inr (fun h => h)) ?_
    simp only [List.setIfInBounds_toArray, List.set_cons_zero, List.set_cons_succ]
    refine wpAnyM_val 15 105 (v := .pointer (some ⟨ab, 0, none⟩)) (w' := X3.drew) rfl rfl (by kernel_rfl) (by rfl) (by go_simp; try rfl) (.inr (fun h => h)) ?_
    simp only [List.setIfInBounds_toArray, List.set_cons_zero, List.set_cons_succ]
    refine wpAnyM_skip 16 (w' := (X3.drew.setCell ⟨ab, 0, none⟩ (.slice (some ⟨ak, 0, none⟩) p ac))) rfl rfl (by kernel_rfl) (by rfl) (by go_simp; try rfl) (.inl (by simp)) ?_
    generalize hE : (X3.drew.setCell ⟨ab, 0, none⟩ (.slice (some ⟨ak, 0, none⟩) p ac)) = Y1 at *
    refine wpAnyM_val 17 106 (v := .pointer (some ⟨ab, 0, none⟩)) (w' := Y1) rfl rfl (by kernel_rfl) (by rfl) (by go_simp; try rfl) (.inr (fun h => h)) ?_
    simp only [List.setIfInBounds_toArray, List.set_cons_zero, List.set_cons_succ]
    refine wpAnyM_val 18 107 (v := .pointer (some ⟨ab, 1, none⟩)) (w' := Y1) rfl rfl (by kernel_rfl) (by rfl) (by go_simp; try rfl) (.inr (fun h => h)) ?_
    simp only [List.setIfInBounds_toArray, List.set_cons_zero, List.set_cons_succ]
    refine wpAnyM_skip 19 (w' := Y1.setCell ⟨ab, 1, none⟩ (.slice (some ⟨avg, 0, none⟩) p av)) rfl rfl (by kernel_rfl) (by rfl) (by go_simp; try rfl) (.inl (by simp)) ?_
    refine wpAnyM_done (by kernel_rfl) ?_ _
    refine NoPanic.normal ?_
    generalize Y1.setCell ⟨ab, 1, none⟩ (.slice (some ⟨avg, 0, none⟩) p av) = X4 at *
    clear hS0 k1 k2 v1 v2 r1 r2 HR HRb s1 s2
    try clear hE
    have HR := HRc
    clear HRc
    have a0 := Lib.hid (HR.out.nod ⟨ab, .slice (some ⟨ak, 0, none⟩) p ac, .slice (some ⟨avg, 0, none⟩) p av, .slice CA1 0 aq, aks.take p, avs.take p, aps⟩ (by simp))
    have hl := Lib.hid (leafS X4 ab 0 aq _ _ CA1 a0.out.blk)
    go_wp2_with (go_at_call 64; refine hl.out.mono ?_; rintro e w' ⟨rfl, rfl⟩)
    go_end0
    have HRx := Lib.hid (HR.out.perm (show List.Perm _ [⟨b, .slice (some ⟨kg, 0, none⟩) m kvc, .slice (some ⟨vg, 0, none⟩) m vvc, .slice (some ⟨cg, 0, none⟩) (m + 1) cc, ks.set i (Value.string sl), vs.set i (Value.string zu), ps⟩, ⟨ab, .slice (some ⟨ak, 0, none⟩) p ac, .slice (some ⟨avg, 0, none⟩) p av, .slice CA1 0 aq, aks.take p, avs.take p, aps⟩, ⟨bb, .slice NK 4 nKq, .slice NV 4 nVq, .slice CB1 0 bq, Value.string s3 :: bks, Value.string z3 :: bvs, bps⟩] from (List.Perm.swap _ _ _)))
    clear HR
    have HR := HRx
    clear HRx
    have g3 : ks.getD i undef = .string s3 := by rw [List.getD_eq_getElem?_getD, K3.out]; rfl
    have g4 : vs.getD i undef = Value.string z3 := by rw [List.getD_eq_getElem?_getD, V3.out]; rfl
    have g5 : aks.getD p undef = .string sl := by rw [List.getD_eq_getElem?_getD, KL.out]; rfl
    have g6 : avs.getD p undef = Value.string zu := by rw [List.getD_eq_getElem?_getD, VL.out]; rfl
    refine ⟨rfl, _, _, _, HR.out, rfl, rfl, rfl, ?_, ?_, rfl, rfl, rfl, ?_, ?_, ?_⟩
    · show _ = ks.set i (aks.getD p undef)
      rw [g5]
    · show _ = vs.set i (avs.getD p undef)
      rw [g6]
    · show _ = ks.getD i undef :: bks
      rw [g3]
    · show _ = vs.getD i undef :: bvs
      rw [g4]
    · exact ⟨fun _ => ⟨rfl, rfl⟩, fun h => by cases h⟩

set_option maxHeartbeats 16000000 in
set_option maxRecDepth 100000 in
theorem fleft_innerS (L F : List Nat) (w0 w : World) (n a c : RN) (i m p : Nat) (H : Nds TS L F w0 w [n, a, c]) (hm : n.ks.length = m) (hm7 : m ≤ 7) (hv : n.vs.length = m) (hp : n.ps.length = m + 1) (hi : i < m)
    (ha : n.ps[i]? = some (.pointer (some ⟨a.b, 0, none⟩))) (hb : n.ps[i + 1]? = some (.pointer (some ⟨c.b, 0, none⟩))) (a3 : a.ks.length = p + 1) (a3v : a.vs.length = p + 1) (b3 : c.ks.length = 3) (b3v : c.vs.length = 3)
    (pa : a.ps.length = (p + 2)) (pb : c.ps.length = 4) (hp6 : p ≤ 6) :
    Calls Try.prog 116 #[.pointer (some ⟨n.b, 0, none⟩), .int .i64 ((i : Int) + 1)] w (FLeftPostS L F w0 n a c i p true) := by
  have HN := H.nod n (by simp)
  have HA := H.nod a (by simp)
  have HC := H.nod c (by simp)
  obtain ⟨b, kv, vv, cv, ks, vs, ps⟩ := n
  obtain ⟨ab, akv, avv, acv, aks, avs, aps⟩ := a
  obtain ⟨bb, bkv, bvv, bcv, bks, bvs, bps⟩ := c
  simp only at hm hv hp ha hb a3 a3v b3 b3v pa pb HN HA HC
  obtain ⟨CA, cc, rfl, hcc1, hcc2, hcc3, hcc4⟩ := (show Row w 99 cv ps from HN.cr).formN hp
  obtain ⟨cg, rfl⟩ := hcc4 (by omega)
  obtain ⟨KA, kvc, rfl, hka1, hka2, -, hka4⟩ := (show Row w 9 kv ks from HN.kr).formN hm
  obtain ⟨kg, rfl⟩ := hka4 (by omega)
  obtain ⟨VA, vvc, rfl, hva1, hva2, -, hva4⟩ := (show Row w 9 vv vs from HN.vr).formN hv
  obtain ⟨vg, rfl⟩ := hva4 (by omega)
  obtain ⟨KA1, ac, rfl, hac1, hac2, -, hac4⟩ := (show Row w 9 akv aks from HA.kr).formN a3
  obtain ⟨ak, rfl⟩ := hac4 (by omega)
  obtain ⟨VA1, av, rfl, hav1, hav2, -, hav4⟩ := (show Row w 9 avv avs from HA.vr).formN a3v
  obtain ⟨avg, rfl⟩ := hav4 (by omega)
  obtain ⟨CA1, aq, rfl, haq1, haq2, -, haq4⟩ := (show Row w 99 acv aps from HA.cr).formN pa
  obtain ⟨KB1, bc, rfl, hbc1, hbc2, -, hbc4⟩ := (show Row w 9 bkv bks from HC.kr).formN b3
  obtain ⟨bk, rfl⟩ := hbc4 (by omega)
  obtain ⟨VB1, bv, rfl, hbv1, hbv2, -, hbv4⟩ := (show Row w 9 bvv bvs from HC.vr).formN b3v
  obtain ⟨bvg, rfl⟩ := hbv4 (by omega)
  obtain ⟨CB1, bq, rfl, hbq1, hbq2, -, hbq4⟩ := (show Row w 99 bcv bps from HC.cr).formN pb
  obtain ⟨acg, rfl⟩ := haq4 (by omega)
  obtain ⟨bcg, rfl⟩ := hbq4 (by omega)
  obtain ⟨k3, hk3⟩ : ∃ u, ks[i]? = some u := ⟨_, List.getElem?_eq_getElem (by omega)⟩
  obtain ⟨v3, hv3⟩ : ∃ u, vs[i]? = some u := ⟨_, List.getElem?_eq_getElem (by omega)⟩
  obtain ⟨kl, hkl⟩ : ∃ u, aks[p]? = some u := ⟨_, List.getElem?_eq_getElem (by omega)⟩
  obtain ⟨vl, hvl⟩ : ∃ u, avs[p]? = some u := ⟨_, List.getElem?_eq_getElem (by omega)⟩
  obtain ⟨s3, rfl⟩ := HN.kS k3 (List.mem_of_getElem? hk3)
  obtain ⟨z3, rfl⟩ := HN.vS v3 (List.mem_of_getElem? hv3)
  obtain ⟨sl, rfl⟩ := HA.kS kl (List.mem_of_getElem? hkl)
  obtain ⟨zu, rfl⟩ := HA.vS vl (List.mem_of_getElem? hvl)
  obtain ⟨pl, hpl⟩ : ∃ u, aps[p + 1]? = some u := ⟨_, List.getElem?_eq_getElem (by omega)⟩
  obtain ⟨pb1, rfl⟩ := HA.pS pl (List.mem_of_getElem? hpl)
  have PL := Lib.hid hpl
  clear hpl
  obtain ⟨_, e1, hci, -⟩ := hcc3 i _ ha
  cases e1
  obtain ⟨_, e1, hci1, -⟩ := hcc3 (i + 1) _ hb
  cases e1
  have h2 : w.cell? ⟨b, 2, none⟩ = some (.slice (some ⟨cg, 0, none⟩) (m + 1) cc) := HN.blk.cell 2
  have hiz : (i : Int) < (m : Int) + 1 := by omega
  have him : (i : Int) < (m : Int) := by omega
  have hi1z : (i : Int) + 1 < (m : Int) + 1 := by omega
  have hi0 : (0 : Int) ≤ (i : Int) + 1 := by omega
  have hw1 : IntKind.i64.wrap ((i : Int) + 1) = (i : Int) + 1 := by rw [IntKind.wrap_i64]; omega
  have hw0 : IntKind.i64.wrap (i : Int) = (i : Int) := by rw [IntKind.wrap_i64]; omega
  have hw3 : IntKind.i64.wrap ((i : Int) + 1 - 1) = (i : Int) := by rw [IntKind.wrap_i64]; omega
  have ht1 : ((i : Int) + 1).toNat = i + 1 := by omega
  have hpz : (p : Int) < (p : Int) + 1 := by omega
  have hpz2 : (p : Int) + 1 < (p : Int) + 2 := by omega
  have hp0 : (0 : Int) ≤ (p : Int) + 1 := by omega
  have hp1 : IntKind.i64.wrap ((p : Int) + 1 - 1) = (p : Int) := by rw [IntKind.wrap_i64]; omega
  have hp2 : IntKind.i64.wrap (p : Int) = (p : Int) := by rw [IntKind.wrap_i64]; omega
  have hp3 : IntKind.i64.wrap ((p : Int) + 1) = (p : Int) + 1 := by rw [IntKind.wrap_i64]; omega
  have ht2 : ((p : Int) + 1).toNat = p + 1 := by omega
  have OK := Lib.hid (And.intro HN.kS (And.intro HN.vS HN.pS))
  have OA := Lib.hid (And.intro HA.kS (And.intro HA.vS HA.pS))
  have OB := Lib.hid (And.intro HC.kS (And.intro HC.vS HC.pS))
  have LD := Lib.hid (And.intro a3 (And.intro a3v (And.intro b3 (And.intro b3v (And.intro pa (And.intro pb (And.intro hm (And.intro hv (And.intro hp hp6)))))))))
  have HH := Lib.hid H
  have K3 := Lib.hid hk3
  have V3 := Lib.hid hv3
  have KL := Lib.hid hkl
  have VL := Lib.hid hvl
  have hac0 : ¬ (ac = 0) := by omega
  have hav0 : ¬ (av = 0) := by omega
  have hacz : (p : Int) ≤ (ac : Int) := by omega
  have havz : (p : Int) ≤ (av : Int) := by omega
  have haq0 : ¬ (aq = 0) := by omega
  have haqz : (p : Int) + 1 ≤ (aq : Int) := by omega
  clear H HN HA HC hcc3 hcc4 hka4 hva4 hac4 hav4 hbc4 hbv4 haq4 hbq4 ha hb a3 a3v b3 b3v pa pb hm hv hp
  clear hk3 hv3 hkl hvl
  go_enter Try.func116, Try.ntmps116
  go_upto_region 0 with fail
  go_cut [4, 5] from 6 (fun s4 s5 wc => s4 = .pointer (some ⟨ab, 0, none⟩) ∧ s5 = .pointer (some ⟨bb, 0, none⟩) ∧ Hid (Nds TS L F w0 wc [⟨b, .slice (some ⟨kg, 0, none⟩) m kvc, .slice (some ⟨vg, 0, none⟩) m vvc, .slice (some ⟨cg, 0, none⟩) (m + 1) cc, ks, vs, ps⟩, ⟨ab, .slice (some ⟨ak, 0, none⟩) (p + 1) ac, .slice (some ⟨avg, 0, none⟩) (p + 1) av, .slice (some ⟨acg, 0, none⟩) (p + 2) aq, aks, avs, aps⟩, ⟨bb, .slice (some ⟨bk, 0, none⟩) 3 bc, .slice (some ⟨bvg, 0, none⟩) 3 bv, .slice (some ⟨bcg, 0, none⟩) 4 bq, bks, bvs, bps⟩]))
  case first =>
    go_quiet (fail)
    go_wp2_with fail
    go_meet
    case rel => exact ⟨rfl, rfl, Lib.hid (HH.out.drewN _)⟩
  case rest =>
    obtain ⟨rfl, rfl, HR⟩ := hcut
    clear hci hci1 h2 HH
    have a0 := Lib.hid (HR.out.nod ⟨ab, .slice (some ⟨ak, 0, none⟩) (p + 1) ac, .slice (some ⟨avg, 0, none⟩) (p + 1) av, .slice (some ⟨acg, 0, none⟩) (p + 2) aq, aks, avs, aps⟩ (by simp))
    have c0 : wc.cell? ⟨ab, 0, none⟩ = some (.slice (some ⟨ak, 0, none⟩) (p + 1) ac) := a0.out.blk.cell 0
    go_upto_region 2 with fail
    clear c0 a0
    have HRx := Lib.hid (HR.out.perm (show List.Perm _ [⟨bb, .slice (some ⟨bk, 0, none⟩) 3 bc, .slice (some ⟨bvg, 0, none⟩) 3 bv, .slice (some ⟨bcg, 0, none⟩) 4 bq, bks, bvs, bps⟩, ⟨b, .slice (some ⟨kg, 0, none⟩) m kvc, .slice (some ⟨vg, 0, none⟩) m vvc, .slice (some ⟨cg, 0, none⟩) (m + 1) cc, ks, vs, ps⟩, ⟨ab, .slice (some ⟨ak, 0, none⟩) (p + 1) ac, .slice (some ⟨avg, 0, none⟩) (p + 1) av, .slice (some ⟨acg, 0, none⟩) (p + 2) aq, aks, avs, aps⟩] from (List.Perm.trans (List.Perm.cons _ (List.Perm.swap _ _ _)) (List.Perm.swap _ _ _))))
    clear HR
    have HR := HRx
    clear HRx
    have d1 := Lib.hid (HR.out.nod ⟨bb, .slice (some ⟨bk, 0, none⟩) 3 bc, .slice (some ⟨bvg, 0, none⟩) 3 bv, .slice (some ⟨bcg, 0, none⟩) 4 bq, bks, bvs, bps⟩ (by simp))
    have s1 := Lib.hid (HR.out.nod ⟨b, .slice (some ⟨kg, 0, none⟩) m kvc, .slice (some ⟨vg, 0, none⟩) m vvc, .slice (some ⟨cg, 0, none⟩) (m + 1) cc, ks, vs, ps⟩ (by simp))
    go_wp2_with fail
    refine wp_region_noPanic ?_
    refine wp_region_lateM (fun w' : World => w'.cell? ⟨bb, 0, none⟩ = some (.slice (some ⟨bk, 0, none⟩) 3 bc) ∧ w'.cell? ⟨b, 0, none⟩ = some (.slice (some ⟨kg, 0, none⟩) m kvc) ∧ w'.cell? ⟨kg, i, none⟩ = some (Value.string s3)) [17] (by kernel_rfl) ?_
    have hS0 : (fun w' : World => w'.cell? ⟨bb, 0, none⟩ = some (.slice (some ⟨bk, 0, none⟩) 3 bc) ∧ w'.cell? ⟨b, 0, none⟩ = some (.slice (some ⟨kg, 0, none⟩) m kvc) ∧ w'.cell? ⟨kg, i, none⟩ = some (Value.string s3)) wc.drew := ⟨d1.out.blk.cell 0, s1.out.blk.cell 0, s1.out.kcell K3.out⟩
    refine wpAnyM_take0 0 28 (v := ?_) rfl rfl (by kernel_rfl) (by kernel_rfl) (by kernel_rfl) (fun _ _ _ h => h) (by rfl) ?_ ?_
    rotate_left
    · (intro w'; go_simp; try with_reducible rfl)
    simp only [List.setIfInBounds_toArray, List.set_cons_zero, List.set_cons_succ]
    refine wpAnyM_take0 1 29 (v := ?_) rfl rfl (by kernel_rfl) (by kernel_rfl) (by kernel_rfl) (fun _ _ _ h => h) (by rfl) ?_ ?_
    rotate_left
    · (intro w'; go_simp; try with_reducible rfl)
    simp only [List.setIfInBounds_toArray, List.set_cons_zero, List.set_cons_succ]
    refine wpAnyM_take0 2 30 (v := ?_) rfl rfl (by kernel_rfl) (by kernel_rfl) (by kernel_rfl) (fun _ _ _ h => h) (by rfl) ?_ ?_
    rotate_left
    · (intro w'; go_simp; try with_reducible rfl)
    simp only [List.setIfInBounds_toArray, List.set_cons_zero, List.set_cons_succ]
    refine wpAnyM_take0 3 31 (v := ?_) rfl rfl (by kernel_rfl) (by kernel_rfl) (by kernel_rfl) (fun _ _ _ h => h) (by rfl) ?_ ?_
    rotate_left
    · (intro w'; go_simp; try with_reducible rfl)
    simp only [List.setIfInBounds_toArray, List.set_cons_zero, List.set_cons_succ]
    refine wpAnyM_take 4 32 (v := ?_) rfl rfl (by kernel_rfl) (by kernel_rfl) (by kernel_rfl) (by kernel_rfl) (fun _ _ _ h => h) (by rfl) ?_ hS0 ?_
    rotate_left
    · (intro w' hSw; obtain ⟨q1, q2, q3⟩ := hSw; go_simp; try with_reducible rfl)
    simp only [List.setIfInBounds_toArray, List.set_cons_zero, List.set_cons_succ]
    refine wpAnyM_take0 5 33 (v := ?_) rfl rfl (by kernel_rfl) (by kernel_rfl) (by kernel_rfl) (fun _ _ _ h => h) (by rfl) ?_ ?_
    rotate_left
    · (intro w'; go_simp; try with_reducible rfl)
    simp only [List.setIfInBounds_toArray, List.set_cons_zero, List.set_cons_succ]
    refine wpAnyM_take0 6 34 (v := ?_) rfl rfl (by kernel_rfl) (by kernel_rfl) (by kernel_rfl) (fun _ _ _ h => h) (by rfl) ?_ ?_
    rotate_left
    · (intro w'; go_simp; try with_reducible rfl)
    simp only [List.setIfInBounds_toArray, List.set_cons_zero, List.set_cons_succ]
    refine wpAnyM_take0 7 35 (v := ?_) rfl rfl (by kernel_rfl) (by kernel_rfl) (by kernel_rfl) (fun _ _ _ h => h) (by rfl) ?_ ?_
    rotate_left
    · (intro w'; go_simp; try with_reducible rfl)
    simp only [List.setIfInBounds_toArray, List.set_cons_zero, List.set_cons_succ]
    refine wpAnyM_take 8 36 (v := ?_) rfl rfl (by kernel_rfl) (by kernel_rfl) (by kernel_rfl) (by kernel_rfl) (fun _ _ _ h => h) (by rfl) ?_ hS0 ?_
    rotate_left
    · (intro w' hSw; obtain ⟨q1, q2, q3⟩ := hSw; go_simp; try with_reducible rfl)
    simp only [List.setIfInBounds_toArray, List.set_cons_zero, List.set_cons_succ]
    refine wpAnyM_take0 9 37 (v := ?_) rfl rfl (by kernel_rfl) (by kernel_rfl) (by kernel_rfl) (fun _ _ _ h => h) (by rfl) ?_ ?_
    rotate_left
    · (intro w'; go_simp; try with_reducible rfl)
    simp only [List.setIfInBounds_toArray, List.set_cons_zero, List.set_cons_succ]
    refine wpAnyM_take0 10 38 (v := ?_) rfl rfl (by kernel_rfl) (by kernel_rfl) (by kernel_rfl) (fun _ _ _ h => h) (by rfl) ?_ ?_
    rotate_left
    · (intro w'; go_simp; try with_reducible rfl)
    simp only [List.setIfInBounds_toArray, List.set_cons_zero, List.set_cons_succ]
    refine wpAnyM_take0 11 39 (v := ?_) rfl rfl (by kernel_rfl) (by kernel_rfl) (by kernel_rfl) (fun _ _ _ h => h) (by rfl) ?_ ?_
    rotate_left
    · (intro w'; go_simp; try with_reducible rfl)
    simp only [List.setIfInBounds_toArray, List.set_cons_zero, List.set_cons_succ]
    refine wpAnyM_take 12 40 (v := ?_) rfl rfl (by kernel_rfl) (by kernel_rfl) (by kernel_rfl) (by kernel_rfl) (fun _ _ _ h => h) (by rfl) ?_ hS0 ?_
    rotate_left
    · (intro w' hSw; obtain ⟨q1, q2, q3⟩ := hSw; go_simp; try with_reducible rfl)
    simp only [List.setIfInBounds_toArray, List.set_cons_zero, List.set_cons_succ]
    have HRb := Lib.hid (HR.out.drew.alloc (.cells #[Value.string s3] 9))
    have d2 := Lib.hid (HRb.out.nod ⟨bb, .slice (some ⟨bk, 0, none⟩) 3 bc, .slice (some ⟨bvg, 0, none⟩) 3 bv, .slice (some ⟨bcg, 0, none⟩) 4 bq, bks, bvs, bps⟩ (by simp))
    have s2 := Lib.hid (HRb.out.nod ⟨b, .slice (some ⟨kg, 0, none⟩) m kvc, .slice (some ⟨vg, 0, none⟩) m vvc, .slice (some ⟨cg, 0, none⟩) (m + 1) cc, ks, vs, ps⟩ (by simp))
    have hS1 : (fun w' : World => w'.cell? ⟨bb, 0, none⟩ = some (.slice (some ⟨bk, 0, none⟩) 3 bc) ∧ w'.cell? ⟨b, 0, none⟩ = some (.slice (some ⟨kg, 0, none⟩) m kvc) ∧ w'.cell? ⟨kg, i, none⟩ = some (Value.string s3)) (wc.drew.alloc (.cells #[Value.string s3] 9)) := ⟨d2.out.blk.cell 0, s2.out.blk.cell 0, s2.out.kcell K3.out⟩
    refine wpAnyM_val 13 41 (v := .slice (some ⟨wc.heap.size, 0, none⟩) 1 1) (w' := (wc.drew.alloc (.cells #[Value.string s3] 9))) rfl rfl (by kernel_rfl) (by rfl) (by go_simp; try rfl) (.inr fun _ => hS1) ?_
    simp only [List.setIfInBounds_toArray, List.set_cons_zero, List.set_cons_succ]
    have hcall : Calls Try.prog 86 #[.slice (some ⟨bk, 0, none⟩) 3 bc, .int .i64 0, .slice (some ⟨wc.heap.size, 0, none⟩) 1 1] (wc.drew.alloc (.cells #[Value.string s3] 9)) (InsPostN (wc.drew.alloc (.cells #[Value.string s3] 9)) 9 (.slice (some ⟨bk, 0, none⟩) 3 bc) 4 (Value.string s3 :: bks)) :=
      (insertS (wc.drew.alloc (.cells #[Value.string s3] 9)) (.slice (some ⟨bk, 0, none⟩) 3 bc) bks (Value.string s3) wc.heap.size 0 d2.out.kr (by have := LD.out; omega) (Nat.zero_le _) (Blk.new _ _ _) rfl (StrV.one OB.out.1) (fun h => by have := d1.out.kr.lt _ h; exact absurd this (Nat.lt_irrefl _))).mono fun _ _ h => insPostN (by have := LD.out; simp; omega) h
    refine wpAnyM_call 14 42 (f := 86) (args := #[.slice (some ⟨bk, 0, none⟩) 3 bc, .int .i64 0, .slice (some ⟨wc.heap.size, 0, none⟩) 1 1]) rfl rfl (by kernel_rfl) (by rfl) (by go_simp; try rfl) hcall ?_
    clear hcall
    rintro e w4 ⟨NK, nKq, rfl, hrow, hchg, hown⟩
    have hmid := Nds.mid HRb.out (v := .slice (some ⟨bk, 0, none⟩) 3 bc) (.inl rfl) hchg
    have sn3 : NodR TS w4 ⟨b, .slice (some ⟨kg, 0, none⟩) m kvc, .slice (some ⟨vg, 0, none⟩) m vvc, .slice (some ⟨cg, 0, none⟩) (m + 1) cc, ks, vs, ps⟩ := hmid.2 _ (by simp)
    have hS2 : (fun w' : World => w'.cell? ⟨bb, 0, none⟩ = some (.slice (some ⟨bk, 0, none⟩) 3 bc) ∧ w'.cell? ⟨b, 0, none⟩ = some (.slice (some ⟨kg, 0, none⟩) m kvc) ∧ w'.cell? ⟨kg, i, none⟩ = some (Value.string s3)) w4 := ⟨hmid.1.cell 0, sn3.blk.cell 0, sn3.kcell K3.out⟩
    have hf4 : w4.frozen? ⟨bb, 0, none⟩ = false := hmid.1.frozen 0
    have hc4 : w4.cell? ⟨bb, 0, none⟩ = some (.slice (some ⟨bk, 0, none⟩) 3 bc) := hmid.1.cell 0
    have ok6 : ∀ u ∈ Value.string s3 :: bks, StrV u := fun u hu => by
      rcases List.mem_cons.1 hu with rfl | hu
      · exact ⟨_, rfl⟩
      · exact OB.out.1 u hu
    have h6 := Nds.slotK HRb.out hchg hrow ok6 hown
    have HRc := Lib.hid h6
    clear hrow hchg hown hmid sn3 ok6 h6
    refine ⟨_, rfl, .inr fun _ => hS2, ?_⟩
    simp only [List.setIfInBounds_toArray, List.set_cons_zero, List.set_cons_succ]
    refine wpAnyM_val 15 43 (v := .pointer (some ⟨bb, 0, none⟩)) (w' := w4) rfl rfl (by kernel_rfl) (by rfl) (by go_simp; try rfl) (.inr (fun h => h)) ?_
    simp only [List.setIfInBounds_toArray, List.set_cons_zero, List.set_cons_succ]
    refine wpAnyM_val 16 44 (v := .pointer (some ⟨bb, 0, none⟩)) (w' := w4) rfl rfl (by kernel_rfl) (by rfl) (by go_simp; try rfl) (.inr (fun h => h)) ?_
    simp only [List.setIfInBounds_toArray, List.set_cons_zero, List.set_cons_succ]
    refine wpAnyM_skip 17 (w' := w4.setCell ⟨bb, 0, none⟩ (.slice NK 4 nKq)) rfl rfl (by kernel_rfl) (by rfl) (by go_simp; try rfl) (.inl (by simp)) ?_
    refine wpAnyM_done (by kernel_rfl) ?_ _
    refine NoPanic.normal ?_
    generalize w4.setCell ⟨bb, 0, none⟩ (.slice NK 4 nKq) = X1 at *
    clear hS0 hS1 hS2 hf4 hc4 HR HRb d1 s1 d2 s2
    have HR := HRc
    clear HRc
    have d1 := Lib.hid (HR.out.nod ⟨bb, .slice NK 4 nKq, .slice (some ⟨bvg, 0, none⟩) 3 bv, .slice (some ⟨bcg, 0, none⟩) 4 bq, Value.string s3 :: bks, bvs, bps⟩ (by simp))
    have s1 := Lib.hid (HR.out.nod ⟨b, .slice (some ⟨kg, 0, none⟩) m kvc, .slice (some ⟨vg, 0, none⟩) m vvc, .slice (some ⟨cg, 0, none⟩) (m + 1) cc, ks, vs, ps⟩ (by simp))
    go_wp2_with fail
    refine wp_region_noPanic ?_
    refine wp_region_lateM (fun w' : World => w'.cell? ⟨bb, 1, none⟩ = some (.slice (some ⟨bvg, 0, none⟩) 3 bv) ∧ w'.cell? ⟨b, 1, none⟩ = some (.slice (some ⟨vg, 0, none⟩) m vvc) ∧ w'.cell? ⟨vg, i, none⟩ = some (Value.string z3)) [17] (by kernel_rfl) ?_
    have hS0 : (fun w' : World => w'.cell? ⟨bb, 1, none⟩ = some (.slice (some ⟨bvg, 0, none⟩) 3 bv) ∧ w'.cell? ⟨b, 1, none⟩ = some (.slice (some ⟨vg, 0, none⟩) m vvc) ∧ w'.cell? ⟨vg, i, none⟩ = some (Value.string z3)) X1.drew := ⟨d1.out.blk.cell 1, s1.out.blk.cell 1, s1.out.vcell V3.out⟩
    refine wpAnyM_take0 0 45 (v := ?_) rfl rfl (by kernel_rfl) (by kernel_rfl) (by kernel_rfl) (fun _ _ _ h => h) (by rfl) ?_ ?_
    rotate_left
    · (intro w'; go_simp; try with_reducible rfl)
    simp only [List.setIfInBounds_toArray, List.set_cons_zero, List.set_cons_succ]
    refine wpAnyM_take0 1 46 (v := ?_) rfl rfl (by kernel_rfl) (by kernel_rfl) (by kernel_rfl) (fun _ _ _ h => h) (by rfl) ?_ ?_
    rotate_left
    · (intro w'; go_simp; try with_reducible rfl)
    simp only [List.setIfInBounds_toArray, List.set_cons_zero, List.set_cons_succ]
    refine wpAnyM_take0 2 47 (v := ?_) rfl rfl (by kernel_rfl) (by kernel_rfl) (by kernel_rfl) (fun _ _ _ h => h) (by rfl) ?_ ?_
    rotate_left
    · (intro w'; go_simp; try with_reducible rfl)
    simp only [List.setIfInBounds_toArray, List.set_cons_zero, List.set_cons_succ]
    refine wpAnyM_take0 3 48 (v := ?_) rfl rfl (by kernel_rfl) (by kernel_rfl) (by kernel_rfl) (fun _ _ _ h => h) (by rfl) ?_ ?_
    rotate_left
    · (intro w'; go_simp; try with_reducible rfl)
    simp only [List.setIfInBounds_toArray, List.set_cons_zero, List.set_cons_succ]
    refine wpAnyM_take 4 49 (v := ?_) rfl rfl (by kernel_rfl) (by kernel_rfl) (by kernel_rfl) (by kernel_rfl) (fun _ _ _ h => h) (by rfl) ?_ hS0 ?_
    rotate_left
    · (intro w' hSw; obtain ⟨q1, q2, q3⟩ := hSw; go_simp; try with_reducible rfl)
    simp only [List.setIfInBounds_toArray, List.set_cons_zero, List.set_cons_succ]
    refine wpAnyM_take0 5 50 (v := ?_) rfl rfl (by kernel_rfl) (by kernel_rfl) (by kernel_rfl) (fun _ _ _ h => h) (by rfl) ?_ ?_
    rotate_left
    · (intro w'; go_simp; try with_reducible rfl)
    simp only [List.setIfInBounds_toArray, List.set_cons_zero, List.set_cons_succ]
    refine wpAnyM_take0 6 51 (v := ?_) rfl rfl (by kernel_rfl) (by kernel_rfl) (by kernel_rfl) (fun _ _ _ h => h) (by rfl) ?_ ?_
    rotate_left
    · (intro w'; go_simp; try with_reducible rfl)
    simp only [List.setIfInBounds_toArray, List.set_cons_zero, List.set_cons_succ]
    refine wpAnyM_take0 7 52 (v := ?_) rfl rfl (by kernel_rfl) (by kernel_rfl) (by kernel_rfl) (fun _ _ _ h => h) (by rfl) ?_ ?_
    rotate_left
    · (intro w'; go_simp; try with_reducible rfl)
    simp only [List.setIfInBounds_toArray, List.set_cons_zero, List.set_cons_succ]
    refine wpAnyM_take 8 53 (v := ?_) rfl rfl (by kernel_rfl) (by kernel_rfl) (by kernel_rfl) (by kernel_rfl) (fun _ _ _ h => h) (by rfl) ?_ hS0 ?_
    rotate_left
    · (intro w' hSw; obtain ⟨q1, q2, q3⟩ := hSw; go_simp; try with_reducible rfl)
    simp only [List.setIfInBounds_toArray, List.set_cons_zero, List.set_cons_succ]
    refine wpAnyM_take0 9 54 (v := ?_) rfl rfl (by kernel_rfl) (by kernel_rfl) (by kernel_rfl) (fun _ _ _ h => h) (by rfl) ?_ ?_
    rotate_left
    · (intro w'; go_simp; try with_reducible rfl)
    simp only [List.setIfInBounds_toArray, List.set_cons_zero, List.set_cons_succ]
    refine wpAnyM_take0 10 55 (v := ?_) rfl rfl (by kernel_rfl) (by kernel_rfl) (by kernel_rfl) (fun _ _ _ h => h) (by rfl) ?_ ?_
    rotate_left
    · (intro w'; go_simp; try with_reducible rfl)
    simp only [List.setIfInBounds_toArray, List.set_cons_zero, List.set_cons_succ]
    refine wpAnyM_take0 11 56 (v := ?_) rfl rfl (by kernel_rfl) (by kernel_rfl) (by kernel_rfl) (fun _ _ _ h => h) (by rfl) ?_ ?_
    rotate_left
    · (intro w'; go_simp; try with_reducible rfl)
    simp only [List.setIfInBounds_toArray, List.set_cons_zero, List.set_cons_succ]
    refine wpAnyM_take 12 57 (v := ?_) rfl rfl (by kernel_rfl) (by kernel_rfl) (by kernel_rfl) (by kernel_rfl) (fun _ _ _ h => h) (by rfl) ?_ hS0 ?_
    rotate_left
    · (intro w' hSw; obtain ⟨q1, q2, q3⟩ := hSw; go_simp; try with_reducible rfl)
    simp only [List.setIfInBounds_toArray, List.set_cons_zero, List.set_cons_succ]
    have HRb := Lib.hid (HR.out.drew.alloc (.cells #[Value.string z3] 9))
    have d2 := Lib.hid (HRb.out.nod ⟨bb, .slice NK 4 nKq, .slice (some ⟨bvg, 0, none⟩) 3 bv, .slice (some ⟨bcg, 0, none⟩) 4 bq, Value.string s3 :: bks, bvs, bps⟩ (by simp))
    have s2 := Lib.hid (HRb.out.nod ⟨b, .slice (some ⟨kg, 0, none⟩) m kvc, .slice (some ⟨vg, 0, none⟩) m vvc, .slice (some ⟨cg, 0, none⟩) (m + 1) cc, ks, vs, ps⟩ (by simp))
    have hS1 : (fun w' : World => w'.cell? ⟨bb, 1, none⟩ = some (.slice (some ⟨bvg, 0, none⟩) 3 bv) ∧ w'.cell? ⟨b, 1, none⟩ = some (.slice (some ⟨vg, 0, none⟩) m vvc) ∧ w'.cell? ⟨vg, i, none⟩ = some (Value.string z3)) (X1.drew.alloc (.cells #[Value.string z3] 9)) := ⟨d2.out.blk.cell 1, s2.out.blk.cell 1, s2.out.vcell V3.out⟩
    refine wpAnyM_val 13 58 (v := .slice (some ⟨X1.heap.size, 0, none⟩) 1 1) (w' := (X1.drew.alloc (.cells #[Value.string z3] 9))) rfl rfl (by kernel_rfl) (by rfl) (by go_simp; try rfl) (.inr fun _ => hS1) ?_
    simp only [List.setIfInBounds_toArray, List.set_cons_zero, List.set_cons_succ]
    have hcall : Calls Try.prog 86 #[.slice (some ⟨bvg, 0, none⟩) 3 bv, .int .i64 0, .slice (some ⟨X1.heap.size, 0, none⟩) 1 1] (X1.drew.alloc (.cells #[Value.string z3] 9)) (InsPostN (X1.drew.alloc (.cells #[Value.string z3] 9)) 9 (.slice (some ⟨bvg, 0, none⟩) 3 bv) 4 (Value.string z3 :: bvs)) :=
      (insertS (X1.drew.alloc (.cells #[Value.string z3] 9)) (.slice (some ⟨bvg, 0, none⟩) 3 bv) bvs (Value.string z3) X1.heap.size 0 d2.out.vr (by have := LD.out; omega) (Nat.zero_le _) (Blk.new _ _ _) rfl (StrV.one OB.out.2.1) (fun h => by have := d1.out.vr.lt _ h; exact absurd this (Nat.lt_irrefl _))).mono fun _ _ h => insPostN (by have := LD.out; simp; omega) h
    refine wpAnyM_call 14 59 (f := 86) (args := #[.slice (some ⟨bvg, 0, none⟩) 3 bv, .int .i64 0, .slice (some ⟨X1.heap.size, 0, none⟩) 1 1]) rfl rfl (by kernel_rfl) (by rfl) (by go_simp; try rfl) hcall ?_
    clear hcall
    rintro e w4 ⟨NV, nVq, rfl, hrow, hchg, hown⟩
    have hmid := Nds.mid HRb.out (v := .slice (some ⟨bvg, 0, none⟩) 3 bv) (.inr (.inl rfl)) hchg
    have sn3 : NodR TS w4 ⟨b, .slice (some ⟨kg, 0, none⟩) m kvc, .slice (some ⟨vg, 0, none⟩) m vvc, .slice (some ⟨cg, 0, none⟩) (m + 1) cc, ks, vs, ps⟩ := hmid.2 _ (by simp)
    have hS2 : (fun w' : World => w'.cell? ⟨bb, 1, none⟩ = some (.slice (some ⟨bvg, 0, none⟩) 3 bv) ∧ w'.cell? ⟨b, 1, none⟩ = some (.slice (some ⟨vg, 0, none⟩) m vvc) ∧ w'.cell? ⟨vg, i, none⟩ = some (Value.string z3)) w4 := ⟨hmid.1.cell 1, sn3.blk.cell 1, sn3.vcell V3.out⟩
    have hf4 : w4.frozen? ⟨bb, 1, none⟩ = false := hmid.1.frozen 1
    have hc4 : w4.cell? ⟨bb, 1, none⟩ = some (.slice (some ⟨bvg, 0, none⟩) 3 bv) := hmid.1.cell 1
    have ok6 : ∀ u ∈ Value.string z3 :: bvs, StrV u := fun u hu => by
      rcases List.mem_cons.1 hu with rfl | hu
      · exact ⟨z3, rfl⟩
      · exact OB.out.2.1 u hu
    have h6 := Nds.slotV HRb.out hchg hrow ok6 hown
    have HRc := Lib.hid h6
    clear hrow hchg hown hmid sn3 ok6 h6
    refine ⟨_, rfl, .inr fun _ => hS2, ?_⟩
    simp only [List.setIfInBounds_toArray, List.set_cons_zero, List.set_cons_succ]
    refine wpAnyM_val 15 60 (v := .pointer (some ⟨bb, 0, none⟩)) (w' := w4) rfl rfl (by kernel_rfl) (by rfl) (by go_simp; try rfl) (.inr (fun h => h)) ?_
    simp only [List.setIfInBounds_toArray, List.set_cons_zero, List.set_cons_succ]
    refine wpAnyM_val 16 61 (v := .pointer (some ⟨bb, 1, none⟩)) (w' := w4) rfl rfl (by kernel_rfl) (by rfl) (by go_simp; try rfl) (.inr (fun h => h)) ?_
    simp only [List.setIfInBounds_toArray, List.set_cons_zero, List.set_cons_succ]
    refine wpAnyM_skip 17 (w' := w4.setCell ⟨bb, 1, none⟩ (.slice NV 4 nVq)) rfl rfl (by kernel_rfl) (by rfl) (by go_simp; try rfl) (.inl (by simp)) ?_
    refine wpAnyM_done (by kernel_rfl) ?_ _
    refine NoPanic.normal ?_
    generalize w4.setCell ⟨bb, 1, none⟩ (.slice NV 4 nVq) = X2 at *
    clear hS0 hS1 hS2 hf4 hc4 HR HRb d1 s1 d2 s2
    have HR := HRc
    clear HRc
    have HRx := Lib.hid (HR.out.perm (show List.Perm _ [⟨b, .slice (some ⟨kg, 0, none⟩) m kvc, .slice (some ⟨vg, 0, none⟩) m vvc, .slice (some ⟨cg, 0, none⟩) (m + 1) cc, ks, vs, ps⟩, ⟨bb, .slice NK 4 nKq, .slice NV 4 nVq, .slice (some ⟨bcg, 0, none⟩) 4 bq, Value.string s3 :: bks, Value.string z3 :: bvs, bps⟩, ⟨ab, .slice (some ⟨ak, 0, none⟩) (p + 1) ac, .slice (some ⟨avg, 0, none⟩) (p + 1) av, .slice (some ⟨acg, 0, none⟩) (p + 2) aq, aks, avs, aps⟩] from (List.Perm.swap _ _ _)))
    clear HR
    have HR := HRx
    clear HRx
    have d1 := Lib.hid (HR.out.nod ⟨b, .slice (some ⟨kg, 0, none⟩) m kvc, .slice (some ⟨vg, 0, none⟩) m vvc, .slice (some ⟨cg, 0, none⟩) (m + 1) cc, ks, vs, ps⟩ (by simp))
    have s1 := Lib.hid (HR.out.nod ⟨ab, .slice (some ⟨ak, 0, none⟩) (p + 1) ac, .slice (some ⟨avg, 0, none⟩) (p + 1) av, .slice (some ⟨acg, 0, none⟩) (p + 2) aq, aks, avs, aps⟩ (by simp))
    go_wp2_with fail
    refine wp_region_noPanic ?_
    refine wp_region_lateM (fun w' : World => w'.cell? ⟨b, 0, none⟩ = some (.slice (some ⟨kg, 0, none⟩) m kvc) ∧ w'.cell? ⟨b, 1, none⟩ = some (.slice (some ⟨vg, 0, none⟩) m vvc) ∧ w'.cell? ⟨ab, 0, none⟩ = some (.slice (some ⟨ak, 0, none⟩) (p + 1) ac) ∧ w'.cell? ⟨ab, 1, none⟩ = some (.slice (some ⟨avg, 0, none⟩) (p + 1) av) ∧ w'.cell? ⟨ak, p, none⟩ = some (Value.string sl) ∧ w'.cell? ⟨avg, p, none⟩ = some (Value.string zu)) [27, 29] (by kernel_rfl) ?_
    have hS0 : (fun w' : World => w'.cell? ⟨b, 0, none⟩ = some (.slice (some ⟨kg, 0, none⟩) m kvc) ∧ w'.cell? ⟨b, 1, none⟩ = some (.slice (some ⟨vg, 0, none⟩) m vvc) ∧ w'.cell? ⟨ab, 0, none⟩ = some (.slice (some ⟨ak, 0, none⟩) (p + 1) ac) ∧ w'.cell? ⟨ab, 1, none⟩ = some (.slice (some ⟨avg, 0, none⟩) (p + 1) av) ∧ w'.cell? ⟨ak, p, none⟩ = some (Value.string sl) ∧ w'.cell? ⟨avg, p, none⟩ = some (Value.string zu)) X2.drew := ⟨d1.out.blk.cell 0, d1.out.blk.cell 1, s1.out.blk.cell 0, s1.out.blk.cell 1, s1.out.kcell KL.out, s1.out.vcell VL.out⟩
    refine wpAnyM_take0 0 62 (v := ?_) rfl rfl (by kernel_rfl) (by kernel_rfl) (by kernel_rfl) (fun _ _ _ h => h) (by rfl) ?_ ?_
    rotate_left
    · (intro w'; go_simp; try with_reducible rfl)
    simp only [List.setIfInBounds_toArray, List.set_cons_zero, List.set_cons_succ]
    refine wpAnyM_take0 1 63 (v := ?_) rfl rfl (by kernel_rfl) (by kernel_rfl) (by kernel_rfl) (fun _ _ _ h => h) (by rfl) ?_ ?_
    rotate_left
    · (intro w'; go_simp; try with_reducible rfl)
    simp only [List.setIfInBounds_toArray, List.set_cons_zero, List.set_cons_succ]
    refine wpAnyM_take0 2 64 (v := ?_) rfl rfl (by kernel_rfl) (by kernel_rfl) (by kernel_rfl) (fun _ _ _ h => h) (by rfl) ?_ ?_
    rotate_left
    · (intro w'; go_simp; try with_reducible rfl)
    simp only [List.setIfInBounds_toArray, List.set_cons_zero, List.set_cons_succ]
    refine wpAnyM_take 3 65 (v := ?_) rfl rfl (by kernel_rfl) (by kernel_rfl) (by kernel_rfl) (by kernel_rfl) (fun _ _ _ h => h) (by rfl) ?_ hS0 ?_
    rotate_left
    · (intro w' hSw; obtain ⟨q1, q2, q3, q4, q5, q6⟩ := hSw; go_simp; try with_reducible rfl)
    simp only [List.setIfInBounds_toArray, List.set_cons_zero, List.set_cons_succ]
    refine wpAnyM_take0 4 66 (v := ?_) rfl rfl (by kernel_rfl) (by kernel_rfl) (by kernel_rfl) (fun _ _ _ h => h) (by rfl) ?_ ?_
    rotate_left
    · (intro w'; go_simp; try with_reducible rfl)
    simp only [List.setIfInBounds_toArray, List.set_cons_zero, List.set_cons_succ]
    refine wpAnyM_take0 5 67 (v := ?_) rfl rfl (by kernel_rfl) (by kernel_rfl) (by kernel_rfl) (fun _ _ _ h => h) (by rfl) ?_ ?_
    rotate_left
    · (intro w'; go_simp; try with_reducible rfl)
    simp only [List.setIfInBounds_toArray, List.set_cons_zero, List.set_cons_succ]
    refine wpAnyM_take0 6 68 (v := ?_) rfl rfl (by kernel_rfl) (by kernel_rfl) (by kernel_rfl) (fun _ _ _ h => h) (by rfl) ?_ ?_
    rotate_left
    · (intro w'; go_simp; try with_reducible rfl)
    simp only [List.setIfInBounds_toArray, List.set_cons_zero, List.set_cons_succ]
    refine wpAnyM_take0 7 69 (v := ?_) rfl rfl (by kernel_rfl) (by kernel_rfl) (by kernel_rfl) (fun _ _ _ h => h) (by rfl) ?_ ?_
    rotate_left
    · (intro w'; go_simp; try with_reducible rfl)
    simp only [List.setIfInBounds_toArray, List.set_cons_zero, List.set_cons_succ]
    refine wpAnyM_take0 8 70 (v := ?_) rfl rfl (by kernel_rfl) (by kernel_rfl) (by kernel_rfl) (fun _ _ _ h => h) (by rfl) ?_ ?_
    rotate_left
    · (intro w'; go_simp; try with_reducible rfl)
    simp only [List.setIfInBounds_toArray, List.set_cons_zero, List.set_cons_succ]
    refine wpAnyM_take 9 71 (v := ?_) rfl rfl (by kernel_rfl) (by kernel_rfl) (by kernel_rfl) (by kernel_rfl) (fun _ _ _ h => h) (by rfl) ?_ hS0 ?_
    rotate_left
    · (intro w' hSw; obtain ⟨q1, q2, q3, q4, q5, q6⟩ := hSw; go_simp; try with_reducible rfl)
    simp only [List.setIfInBounds_toArray, List.set_cons_zero, List.set_cons_succ]
    refine wpAnyM_take0 10 72 (v := ?_) rfl rfl (by kernel_rfl) (by kernel_rfl) (by kernel_rfl) (fun _ _ _ h => h) (by rfl) ?_ ?_
    rotate_left
    · (intro w'; go_simp; try with_reducible rfl)
    simp only [List.setIfInBounds_toArray, List.set_cons_zero, List.set_cons_succ]
    refine wpAnyM_take0 11 73 (v := ?_) rfl rfl (by kernel_rfl) (by kernel_rfl) (by kernel_rfl) (fun _ _ _ h => h) (by rfl) ?_ ?_
    rotate_left
    · (intro w'; go_simp; try with_reducible rfl)
    simp only [List.setIfInBounds_toArray, List.set_cons_zero, List.set_cons_succ]
    refine wpAnyM_take0 12 74 (v := ?_) rfl rfl (by kernel_rfl) (by kernel_rfl) (by kernel_rfl) (fun _ _ _ h => h) (by rfl) ?_ ?_
    rotate_left
    · (intro w'; go_simp; try with_reducible rfl)
    simp only [List.setIfInBounds_toArray, List.set_cons_zero, List.set_cons_succ]
    refine wpAnyM_take0 13 75 (v := ?_) rfl rfl (by kernel_rfl) (by kernel_rfl) (by kernel_rfl) (fun _ _ _ h => h) (by rfl) ?_ ?_
    rotate_left
    · (intro w'; go_simp; try with_reducible rfl)
    simp only [List.setIfInBounds_toArray, List.set_cons_zero, List.set_cons_succ]
    refine wpAnyM_take0 14 76 (v := ?_) rfl rfl (by kernel_rfl) (by kernel_rfl) (by kernel_rfl) (fun _ _ _ h => h) (by rfl) ?_ ?_
    rotate_left
    · (intro w'; go_simp; try with_reducible rfl)
    simp only [List.setIfInBounds_toArray, List.set_cons_zero, List.set_cons_succ]
    refine wpAnyM_take 15 77 (v := ?_) rfl rfl (by kernel_rfl) (by kernel_rfl) (by kernel_rfl) (by kernel_rfl) (fun _ _ _ h => h) (by rfl) ?_ hS0 ?_
    rotate_left
    · (intro w' hSw; obtain ⟨q1, q2, q3, q4, q5, q6⟩ := hSw; go_simp; try with_reducible rfl)
    simp only [List.setIfInBounds_toArray, List.set_cons_zero, List.set_cons_succ]
    refine wpAnyM_take0 16 78 (v := ?_) rfl rfl (by kernel_rfl) (by kernel_rfl) (by kernel_rfl) (fun _ _ _ h => h) (by rfl) ?_ ?_
    rotate_left
    · (intro w'; go_simp; try with_reducible rfl)
    simp only [List.setIfInBounds_toArray, List.set_cons_zero, List.set_cons_succ]
    refine wpAnyM_take0 17 79 (v := ?_) rfl rfl (by kernel_rfl) (by kernel_rfl) (by kernel_rfl) (fun _ _ _ h => h) (by rfl) ?_ ?_
    rotate_left
    · (intro w'; go_simp; try with_reducible rfl)
    simp only [List.setIfInBounds_toArray, List.set_cons_zero, List.set_cons_succ]
    refine wpAnyM_take 18 80 (v := ?_) rfl rfl (by kernel_rfl) (by kernel_rfl) (by kernel_rfl) (by kernel_rfl) (fun _ _ _ h => h) (by rfl) ?_ hS0 ?_
    rotate_left
    · (intro w' hSw; obtain ⟨q1, q2, q3, q4, q5, q6⟩ := hSw; go_simp; try with_reducible rfl)
    simp only [List.setIfInBounds_toArray, List.set_cons_zero, List.set_cons_succ]
    refine wpAnyM_take0 19 81 (v := ?_) rfl rfl (by kernel_rfl) (by kernel_rfl) (by kernel_rfl) (fun _ _ _ h => h) (by rfl) ?_ ?_
    rotate_left
    · (intro w'; go_simp; try with_reducible rfl)
    simp only [List.setIfInBounds_toArray, List.set_cons_zero, List.set_cons_succ]
    refine wpAnyM_take0 20 82 (v := ?_) rfl rfl (by kernel_rfl) (by kernel_rfl) (by kernel_rfl) (fun _ _ _ h => h) (by rfl) ?_ ?_
    rotate_left
    · (intro w'; go_simp; try with_reducible rfl)
    simp only [List.setIfInBounds_toArray, List.set_cons_zero, List.set_cons_succ]
    refine wpAnyM_take0 21 83 (v := ?_) rfl rfl (by kernel_rfl) (by kernel_rfl) (by kernel_rfl) (fun _ _ _ h => h) (by rfl) ?_ ?_
    rotate_left
    · (intro w'; go_simp; try with_reducible rfl)
    simp only [List.setIfInBounds_toArray, List.set_cons_zero, List.set_cons_succ]
    refine wpAnyM_take 22 84 (v := ?_) rfl rfl (by kernel_rfl) (by kernel_rfl) (by kernel_rfl) (by kernel_rfl) (fun _ _ _ h => h) (by rfl) ?_ hS0 ?_
    rotate_left
    · (intro w' hSw; obtain ⟨q1, q2, q3, q4, q5, q6⟩ := hSw; go_simp; try with_reducible rfl)
    simp only [List.setIfInBounds_toArray, List.set_cons_zero, List.set_cons_succ]
    refine wpAnyM_take0 23 85 (v := ?_) rfl rfl (by kernel_rfl) (by kernel_rfl) (by kernel_rfl) (fun _ _ _ h => h) (by rfl) ?_ ?_
    rotate_left
    · (intro w'; go_simp; try with_reducible rfl)
    simp only [List.setIfInBounds_toArray, List.set_cons_zero, List.set_cons_succ]
    refine wpAnyM_take0 24 86 (v := ?_) rfl rfl (by kernel_rfl) (by kernel_rfl) (by kernel_rfl) (fun _ _ _ h => h) (by rfl) ?_ ?_
    rotate_left
    · (intro w'; go_simp; try with_reducible rfl)
    simp only [List.setIfInBounds_toArray, List.set_cons_zero, List.set_cons_succ]
    refine wpAnyM_take 25 87 (v := ?_) rfl rfl (by kernel_rfl) (by kernel_rfl) (by kernel_rfl) (by kernel_rfl) (fun _ _ _ h => h) (by rfl) ?_ hS0 ?_
    rotate_left
    · (intro w' hSw; obtain ⟨q1, q2, q3, q4, q5, q6⟩ := hSw; go_simp; try with_reducible rfl)
    simp only [List.setIfInBounds_toArray, List.set_cons_zero, List.set_cons_succ]
    have HRb := Lib.hid (Nds.setK HR.out.drew (i := i) (u := Value.string sl) rfl (show i < m by omega) ⟨_, rfl⟩)
    have d2 := Lib.hid (HRb.out.nod ⟨b, .slice (some ⟨kg, 0, none⟩) m kvc, .slice (some ⟨vg, 0, none⟩) m vvc, .slice (some ⟨cg, 0, none⟩) (m + 1) cc, ks.set i (Value.string sl), vs, ps⟩ (by simp))
    have k1 : X2.drew.cell? ⟨kg, i, none⟩ = some (Value.string s3) := d1.out.kcell K3.out
    have k2 : X2.drew.frozen? ⟨kg, i, none⟩ = false := (show Row X2.drew 9 (.slice (some ⟨kg, 0, none⟩) m kvc) ks from d1.out.kr).frozen_ i
    have v1 : (X2.drew.setCell ⟨kg, i, none⟩ (Value.string sl)).cell? ⟨vg, i, none⟩ = some (Value.string z3) := d2.out.vcell V3.out
    have v2 : (X2.drew.setCell ⟨kg, i, none⟩ (Value.string sl)).frozen? ⟨vg, i, none⟩ = false := (show Row (X2.drew.setCell ⟨kg, i, none⟩ (Value.string sl)) 9 (.slice (some ⟨vg, 0, none⟩) m vvc) vs from d2.out.vr).frozen_ i
    refine wpAnyM_val 26 88 (v := .pointer (some ⟨kg, i, none⟩)) (w' := X2.drew) rfl rfl (by kernel_rfl) (by rfl) (by go_simp; try rfl) (.inr (fun h => h)) ?_
    simp only [List.setIfInBounds_toArray, List.set_cons_zero, List.set_cons_succ]
    refine wpAnyM_skip 27 (w' := (X2.drew.setCell ⟨kg, i, none⟩ (Value.string sl))) rfl rfl (by kernel_rfl) (by rfl) (by go_simp; try rfl) (.inl (by simp)) ?_
    generalize hE : (X2.drew.setCell ⟨kg, i, none⟩ (Value.string sl)) = Y1 at *
    refine wpAnyM_val 28 89 (v := .pointer (some ⟨vg, i, none⟩)) (w' := Y1) rfl rfl (by kernel_rfl) (by rfl) (by go_simp; try rfl) (.inr (fun h => h)) ?_
    simp only [List.setIfInBounds_toArray, List.set_cons_zero, List.set_cons_succ]
    refine wpAnyM_skip 29 (w' := Y1.setCell ⟨vg, i, none⟩ (Value.string zu)) rfl rfl (by kernel_rfl) (by rfl) (by go_simp; try rfl) (.inl (by simp)) ?_
    have HRc := Lib.hid (Nds.setV HRb.out (i := i) (u := Value.string zu) rfl (show i < m by omega) ⟨zu, rfl⟩)
    refine wpAnyM_done (by kernel_rfl) ?_ _
    refine NoPanic.normal ?_
    generalize Y1.setCell ⟨vg, i, none⟩ (Value.string zu) = X3 at *
    clear hS0 k1 k2 v1 v2 HR HRb d1 s1 d2
    try clear hE
    have HR := HRc
    clear HRc
    have HRx := Lib.hid (HR.out.perm (show List.Perm _ [⟨ab, .slice (some ⟨ak, 0, none⟩) (p + 1) ac, .slice (some ⟨avg, 0, none⟩) (p + 1) av, .slice (some ⟨acg, 0, none⟩) (p + 2) aq, aks, avs, aps⟩, ⟨b, .slice (some ⟨kg, 0, none⟩) m kvc, .slice (some ⟨vg, 0, none⟩) m vvc, .slice (some ⟨cg, 0, none⟩) (m + 1) cc, ks.set i (Value.string sl), vs.set i (Value.string zu), ps⟩, ⟨bb, .slice NK 4 nKq, .slice NV 4 nVq, .slice (some ⟨bcg, 0, none⟩) 4 bq, Value.string s3 :: bks, Value.string z3 :: bvs, bps⟩] from (List.Perm.trans (List.Perm.cons _ (List.Perm.swap _ _ _)) (List.Perm.swap _ _ _))))
    clear HR
    have HR := HRx
    clear HRx
    have s1 := Lib.hid (HR.out.nod ⟨ab, .slice (some ⟨ak, 0, none⟩) (p + 1) ac, .slice (some ⟨avg, 0, none⟩) (p + 1) av, .slice (some ⟨acg, 0, none⟩) (p + 2) aq, aks, avs, aps⟩ (by simp))
    go_wp2_with fail
    refine wp_region_noPanic ?_
    refine wp_region_lateM (fun w' : World => w'.cell? ⟨ab, 0, none⟩ = some (.slice (some ⟨ak, 0, none⟩) (p + 1) ac) ∧ w'.cell? ⟨ab, 1, none⟩ = some (.slice (some ⟨avg, 0, none⟩) (p + 1) av)) [16, 19] (by kernel_rfl) ?_
    have hS0 : (fun w' : World => w'.cell? ⟨ab, 0, none⟩ = some (.slice (some ⟨ak, 0, none⟩) (p + 1) ac) ∧ w'.cell? ⟨ab, 1, none⟩ = some (.slice (some ⟨avg, 0, none⟩) (p + 1) av)) X3.drew := ⟨s1.out.blk.cell 0, s1.out.blk.cell 1⟩
    refine wpAnyM_take0 0 90 (v := ?_) rfl rfl (by kernel_rfl) (by kernel_rfl) (by kernel_rfl) (fun _ _ _ h => h) (by rfl) ?_ ?_
    rotate_left
    · (intro w'; go_simp; try with_reducible rfl)
    simp only [List.setIfInBounds_toArray, List.set_cons_zero, List.set_cons_succ]
    refine wpAnyM_take0 1 91 (v := ?_) rfl rfl (by kernel_rfl) (by kernel_rfl) (by kernel_rfl) (fun _ _ _ h => h) (by rfl) ?_ ?_
    rotate_left
    · (intro w'; go_simp; try with_reducible rfl)
    simp only [List.setIfInBounds_toArray, List.set_cons_zero, List.set_cons_succ]
    refine wpAnyM_take0 2 92 (v := ?_) rfl rfl (by kernel_rfl) (by kernel_rfl) (by kernel_rfl) (fun _ _ _ h => h) (by rfl) ?_ ?_
    rotate_left
    · (intro w'; go_simp; try with_reducible rfl)
    simp only [List.setIfInBounds_toArray, List.set_cons_zero, List.set_cons_succ]
    refine wpAnyM_take0 3 93 (v := ?_) rfl rfl (by kernel_rfl) (by kernel_rfl) (by kernel_rfl) (fun _ _ _ h => h) (by rfl) ?_ ?_
    rotate_left
    · (intro w'; go_simp; try with_reducible rfl)
    simp only [List.setIfInBounds_toArray, List.set_cons_zero, List.set_cons_succ]
    refine wpAnyM_take0 4 94 (v := ?_) rfl rfl (by kernel_rfl) (by kernel_rfl) (by kernel_rfl) (fun _ _ _ h => h) (by rfl) ?_ ?_
    rotate_left
    · (intro w'; go_simp; try with_reducible rfl)
    simp only [List.setIfInBounds_toArray, List.set_cons_zero, List.set_cons_succ]
    refine wpAnyM_take 5 95 (v := ?_) rfl rfl (by kernel_rfl) (by kernel_rfl) (by kernel_rfl) (by kernel_rfl) (fun _ _ _ h => h) (by rfl) ?_ hS0 ?_
    rotate_left
    · (intro w' hSw; obtain ⟨q1, q2⟩ := hSw; go_simp; try with_reducible rfl)
    simp only [List.setIfInBounds_toArray, List.set_cons_zero, List.set_cons_succ]
    refine wpAnyM_take0 6 96 (v := ?_) rfl rfl (by kernel_rfl) (by kernel_rfl) (by kernel_rfl) (fun _ _ _ h => h) (by rfl) ?_ ?_
    rotate_left
    · (intro w'; go_simp; try with_reducible rfl)
    simp only [List.setIfInBounds_toArray, List.set_cons_zero, List.set_cons_succ]
    refine wpAnyM_take0 7 97 (v := ?_) rfl rfl (by kernel_rfl) (by kernel_rfl) (by kernel_rfl) (fun _ _ _ h => h) (by rfl) ?_ ?_
    rotate_left
    · (intro w'; go_simp; try with_reducible rfl)
    simp only [List.setIfInBounds_toArray, List.set_cons_zero, List.set_cons_succ]
    refine wpAnyM_take0 8 98 (v := ?_) rfl rfl (by kernel_rfl) (by kernel_rfl) (by kernel_rfl) (fun _ _ _ h => h) (by rfl) ?_ ?_
    rotate_left
    · (intro w'; go_simp; try with_reducible rfl)
    simp only [List.setIfInBounds_toArray, List.set_cons_zero, List.set_cons_succ]
    refine wpAnyM_take0 9 99 (v := ?_) rfl rfl (by kernel_rfl) (by kernel_rfl) (by kernel_rfl) (fun _ _ _ h => h) (by rfl) ?_ ?_
    rotate_left
    · (intro w'; go_simp; try with_reducible rfl)
    simp only [List.setIfInBounds_toArray, List.set_cons_zero, List.set_cons_succ]
    refine wpAnyM_take0 10 100 (v := ?_) rfl rfl (by kernel_rfl) (by kernel_rfl) (by kernel_rfl) (fun _ _ _ h => h) (by rfl) ?_ ?_
    rotate_left
    · (intro w'; go_simp; try with_reducible rfl)
    simp only [List.setIfInBounds_toArray, List.set_cons_zero, List.set_cons_succ]
    refine wpAnyM_take 11 101 (v := ?_) rfl rfl (by kernel_rfl) (by kernel_rfl) (by kernel_rfl) (by kernel_rfl) (fun _ _ _ h => h) (by rfl) ?_ hS0 ?_
    rotate_left
    · (intro w' hSw; obtain ⟨q1, q2⟩ := hSw; go_simp; try with_reducible rfl)
    simp only [List.setIfInBounds_toArray, List.set_cons_zero, List.set_cons_succ]
    refine wpAnyM_take0 12 102 (v := ?_) rfl rfl (by kernel_rfl) (by kernel_rfl) (by kernel_rfl) (fun _ _ _ h => h) (by rfl) ?_ ?_
    rotate_left
    · (intro w'; go_simp; try with_reducible rfl)
    simp only [List.setIfInBounds_toArray, List.set_cons_zero, List.set_cons_succ]
    refine wpAnyM_take0 13 103 (v := ?_) rfl rfl (by kernel_rfl) (by kernel_rfl) (by kernel_rfl) (fun _ _ _ h => h) (by rfl) ?_ ?_
    rotate_left
    · (intro w'; go_simp; try with_reducible rfl)
    simp only [List.setIfInBounds_toArray, List.set_cons_zero, List.set_cons_succ]
    have r1 := Row.pre (show Row X3.drew 9 (.slice (some ⟨ak, 0, none⟩) (p + 1) ac) aks from s1.out.kr) (d := p) (c' := ac) (by omega) (by omega) (by omega) (by simp)
    have HRb := Lib.hid (Nds.slotK HR.out.drew (Chg.refl _ _) r1 (fun u hu => OA.out.1 u (List.mem_of_mem_take hu)) (.inl rfl))
    have s2 := Lib.hid (HRb.out.nod ⟨ab, .slice (some ⟨ak, 0, none⟩) p ac, .slice (some ⟨avg, 0, none⟩) (p + 1) av, .slice (some ⟨acg, 0, none⟩) (p + 2) aq, aks.take p, avs, aps⟩ (by simp))
    have k1 : X3.drew.cell? ⟨ab, 0, none⟩ = some (.slice (some ⟨ak, 0, none⟩) (p + 1) ac) := s1.out.blk.cell 0
    have k2 : X3.drew.frozen? ⟨ab, 0, none⟩ = false := s1.out.blk.frozen 0
    have v1 : (X3.drew.setCell ⟨ab, 0, none⟩ (.slice (some ⟨ak, 0, none⟩) p ac)).cell? ⟨ab, 1, none⟩ = some (.slice (some ⟨avg, 0, none⟩) (p + 1) av) := s2.out.blk.cell 1
    have v2 : (X3.drew.setCell ⟨ab, 0, none⟩ (.slice (some ⟨ak, 0, none⟩) p ac)).frozen? ⟨ab, 1, none⟩ = false := s2.out.blk.frozen 1
    have r2 := Row.pre (show Row (X3.drew.setCell ⟨ab, 0, none⟩ (.slice (some ⟨ak, 0, none⟩) p ac)) 9 (.slice (some ⟨avg, 0, none⟩) (p + 1) av) avs from s2.out.vr) (d := p) (c' := av) (by omega) (by omega) (by omega) (by simp)
    have HRc := Lib.hid (Nds.slotV HRb.out (Chg.refl _ _) r2 (fun u hu => OA.out.2.1 u (List.mem_of_mem_take hu)) (.inl rfl))
    refine wpAnyM_val 14 104 (v := .pointer (some ⟨ab, 0, none⟩)) (w' := X3.drew) rfl rfl (by kernel_rfl) (by rfl) (by go_simp; try rfl) (.inr (fun h => h)) ?_
    simp only [List.setIfInBounds_toArray, List.set_cons_zero, List.set_cons_succ]
    refine wpAnyM_val 15 105 (v := .pointer (some ⟨ab, 0, none⟩)) (w' := X3.drew) rfl rfl (by kernel_rfl) (by rfl) (by go_simp; try rfl) (.inr (fun h => h)) ?_
    simp only [List.setIfInBounds_toArray, List.set_cons_zero, List.set_cons_succ]
    refine wpAnyM_skip 16 (w' := (X3.drew.setCell ⟨ab, 0, none⟩ (.slice (some ⟨ak, 0, none⟩) p ac))) rfl rfl (by kernel_rfl) (by rfl) (by go_simp; try rfl) (.inl (by simp)) ?_
    generalize hE : (X3.drew.setCell ⟨ab, 0, none⟩ (.slice (some ⟨ak, 0, none⟩) p ac)) = Y1 at *
    refine wpAnyM_val 17 106 (v := .pointer (some ⟨ab, 0, none⟩)) (w' := Y1) rfl rfl (by kernel_rfl) (by rfl) (by go_simp; try rfl) (.inr (fun h => h)) ?_
    simp only [List.setIfInBounds_toArray, List.set_cons_zero, List.set_cons_succ]
    refine wpAnyM_val 18 107 (v := .pointer (some ⟨ab, 1, none⟩)) (w' := Y1) rfl rfl (by kernel_rfl) (by rfl) (by go_simp; try rfl) (.inr (fun h => h)) ?_
    simp only [List.setIfInBounds_toArray, List.set_cons_zero, List.set_cons_succ]
    refine wpAnyM_skip 19 (w' := Y1.setCell ⟨ab, 1, none⟩ (.slice (some ⟨avg, 0, none⟩) p av)) rfl rfl (by kernel_rfl) (by rfl) (by go_simp; try rfl) (.inl (by simp)) ?_
    refine wpAnyM_done (by kernel_rfl) ?_ _
    refine NoPanic.normal ?_
    generalize Y1.setCell ⟨ab, 1, none⟩ (.slice (some ⟨avg, 0, none⟩) p av) = X4 at *
    clear hS0 k1 k2 v1 v2 r1 r2 HR HRb s1 s2
    try clear hE
    have HR := HRc
    clear HRc
    have a0 := Lib.hid (HR.out.nod ⟨ab, .slice (some ⟨ak, 0, none⟩) p ac, .slice (some ⟨avg, 0, none⟩) p av, .slice (some ⟨acg, 0, none⟩) (p + 2) aq, aks.take p, avs.take p, aps⟩ (by simp))
    have hl := Lib.hid (leafS X4 ab (p + 2) aq _ _ (some ⟨acg, 0, none⟩) a0.out.blk)
    have hd0 : ((p + 2) = 0) = False := by simp
    go_wp2_with fail
    refine hl.out.mono ?_
    clear hl a0 hd0
    rintro e w' ⟨rfl, rfl⟩
    go_upto_region 7 with fail
    have HRx := Lib.hid (HR.out.perm (show List.Perm _ [⟨bb, .slice NK 4 nKq, .slice NV 4 nVq, .slice (some ⟨bcg, 0, none⟩) 4 bq, Value.string s3 :: bks, Value.string z3 :: bvs, bps⟩, ⟨ab, .slice (some ⟨ak, 0, none⟩) p ac, .slice (some ⟨avg, 0, none⟩) p av, .slice (some ⟨acg, 0, none⟩) (p + 2) aq, aks.take p, avs.take p, aps⟩, ⟨b, .slice (some ⟨kg, 0, none⟩) m kvc, .slice (some ⟨vg, 0, none⟩) m vvc, .slice (some ⟨cg, 0, none⟩) (m + 1) cc, ks.set i (Value.string sl), vs.set i (Value.string zu), ps⟩] from (List.Perm.trans (List.Perm.cons _ (List.Perm.swap _ _ _)) (List.Perm.swap _ _ _))))
    clear HR
    have HR := HRx
    clear HRx
    have d1 := Lib.hid (HR.out.nod ⟨bb, .slice NK 4 nKq, .slice NV 4 nVq, .slice (some ⟨bcg, 0, none⟩) 4 bq, Value.string s3 :: bks, Value.string z3 :: bvs, bps⟩ (by simp))
    have s1 := Lib.hid (HR.out.nod ⟨ab, .slice (some ⟨ak, 0, none⟩) p ac, .slice (some ⟨avg, 0, none⟩) p av, .slice (some ⟨acg, 0, none⟩) (p + 2) aq, aks.take p, avs.take p, aps⟩ (by simp))
    go_wp2_with fail
    refine wp_region_noPanic ?_
    refine wp_region_lateM (fun w' : World => w'.cell? ⟨bb, 2, none⟩ = some (.slice (some ⟨bcg, 0, none⟩) 4 bq) ∧ w'.cell? ⟨ab, 2, none⟩ = some (.slice (some ⟨acg, 0, none⟩) (p + 2) aq) ∧ w'.cell? ⟨acg, (p + 1), none⟩ = some (Value.pointer (some ⟨pb1, 0, none⟩))) [17] (by kernel_rfl) ?_
    have hS0 : (fun w' : World => w'.cell? ⟨bb, 2, none⟩ = some (.slice (some ⟨bcg, 0, none⟩) 4 bq) ∧ w'.cell? ⟨ab, 2, none⟩ = some (.slice (some ⟨acg, 0, none⟩) (p + 2) aq) ∧ w'.cell? ⟨acg, (p + 1), none⟩ = some (Value.pointer (some ⟨pb1, 0, none⟩))) X4.drew := ⟨d1.out.blk.cell 2, s1.out.blk.cell 2, s1.out.ccell PL.out⟩
    refine wpAnyM_take0 0 111 (v := ?_) rfl rfl (by kernel_rfl) (by kernel_rfl) (by kernel_rfl) (fun _ _ _ h => h) (by rfl) ?_ ?_
    rotate_left
    · (intro w'; go_simp; try with_reducible rfl)
    simp only [List.setIfInBounds_toArray, List.set_cons_zero, List.set_cons_succ]
    refine wpAnyM_take0 1 112 (v := ?_) rfl rfl (by kernel_rfl) (by kernel_rfl) (by kernel_rfl) (fun _ _ _ h => h) (by rfl) ?_ ?_
    rotate_left
    · (intro w'; go_simp; try with_reducible rfl)
    simp only [List.setIfInBounds_toArray, List.set_cons_zero, List.set_cons_succ]
    refine wpAnyM_take0 2 113 (v := ?_) rfl rfl (by kernel_rfl) (by kernel_rfl) (by kernel_rfl) (fun _ _ _ h => h) (by rfl) ?_ ?_
    rotate_left
    · (intro w'; go_simp; try with_reducible rfl)
    simp only [List.setIfInBounds_toArray, List.set_cons_zero, List.set_cons_succ]
    refine wpAnyM_take0 3 114 (v := ?_) rfl rfl (by kernel_rfl) (by kernel_rfl) (by kernel_rfl) (fun _ _ _ h => h) (by rfl) ?_ ?_
    rotate_left
    · (intro w'; go_simp; try with_reducible rfl)
    simp only [List.setIfInBounds_toArray, List.set_cons_zero, List.set_cons_succ]
    refine wpAnyM_take 4 115 (v := ?_) rfl rfl (by kernel_rfl) (by kernel_rfl) (by kernel_rfl) (by kernel_rfl) (fun _ _ _ h => h) (by rfl) ?_ hS0 ?_
    rotate_left
    · (intro w' hSw; obtain ⟨q1, q2, q3⟩ := hSw; go_simp; try with_reducible rfl)
    simp only [List.setIfInBounds_toArray, List.set_cons_zero, List.set_cons_succ]
    refine wpAnyM_take0 5 116 (v := ?_) rfl rfl (by kernel_rfl) (by kernel_rfl) (by kernel_rfl) (fun _ _ _ h => h) (by rfl) ?_ ?_
    rotate_left
    · (intro w'; go_simp; try with_reducible rfl)
    simp only [List.setIfInBounds_toArray, List.set_cons_zero, List.set_cons_succ]
    refine wpAnyM_take0 6 117 (v := ?_) rfl rfl (by kernel_rfl) (by kernel_rfl) (by kernel_rfl) (fun _ _ _ h => h) (by rfl) ?_ ?_
    rotate_left
    · (intro w'; go_simp; try with_reducible rfl)
    simp only [List.setIfInBounds_toArray, List.set_cons_zero, List.set_cons_succ]
    refine wpAnyM_take0 7 118 (v := ?_) rfl rfl (by kernel_rfl) (by kernel_rfl) (by kernel_rfl) (fun _ _ _ h => h) (by rfl) ?_ ?_
    rotate_left
    · (intro w'; go_simp; try with_reducible rfl)
    simp only [List.setIfInBounds_toArray, List.set_cons_zero, List.set_cons_succ]
    refine wpAnyM_take 8 119 (v := ?_) rfl rfl (by kernel_rfl) (by kernel_rfl) (by kernel_rfl) (by kernel_rfl) (fun _ _ _ h => h) (by rfl) ?_ hS0 ?_
    rotate_left
    · (intro w' hSw; obtain ⟨q1, q2, q3⟩ := hSw; go_simp; try with_reducible rfl)
    simp only [List.setIfInBounds_toArray, List.set_cons_zero, List.set_cons_succ]
    refine wpAnyM_take0 9 120 (v := ?_) rfl rfl (by kernel_rfl) (by kernel_rfl) (by kernel_rfl) (fun _ _ _ h => h) (by rfl) ?_ ?_
    rotate_left
    · (intro w'; go_simp; try with_reducible rfl)
    simp only [List.setIfInBounds_toArray, List.set_cons_zero, List.set_cons_succ]
    refine wpAnyM_take0 10 121 (v := ?_) rfl rfl (by kernel_rfl) (by kernel_rfl) (by kernel_rfl) (fun _ _ _ h => h) (by rfl) ?_ ?_
    rotate_left
    · (intro w'; go_simp; try with_reducible rfl)
    simp only [List.setIfInBounds_toArray, List.set_cons_zero, List.set_cons_succ]
    refine wpAnyM_take0 11 122 (v := ?_) rfl rfl (by kernel_rfl) (by kernel_rfl) (by kernel_rfl) (fun _ _ _ h => h) (by rfl) ?_ ?_
    rotate_left
    · (intro w'; go_simp; try with_reducible rfl)
    simp only [List.setIfInBounds_toArray, List.set_cons_zero, List.set_cons_succ]
    refine wpAnyM_take 12 123 (v := ?_) rfl rfl (by kernel_rfl) (by kernel_rfl) (by kernel_rfl) (by kernel_rfl) (fun _ _ _ h => h) (by rfl) ?_ hS0 ?_
    rotate_left
    · (intro w' hSw; obtain ⟨q1, q2, q3⟩ := hSw; go_simp; try with_reducible rfl)
    simp only [List.setIfInBounds_toArray, List.set_cons_zero, List.set_cons_succ]
    have HRb := Lib.hid (HR.out.drew.alloc (.cells #[Value.pointer (some ⟨pb1, 0, none⟩)] 99))
    have d2 := Lib.hid (HRb.out.nod ⟨bb, .slice NK 4 nKq, .slice NV 4 nVq, .slice (some ⟨bcg, 0, none⟩) 4 bq, Value.string s3 :: bks, Value.string z3 :: bvs, bps⟩ (by simp))
    have s2 := Lib.hid (HRb.out.nod ⟨ab, .slice (some ⟨ak, 0, none⟩) p ac, .slice (some ⟨avg, 0, none⟩) p av, .slice (some ⟨acg, 0, none⟩) (p + 2) aq, aks.take p, avs.take p, aps⟩ (by simp))
    have hS1 : (fun w' : World => w'.cell? ⟨bb, 2, none⟩ = some (.slice (some ⟨bcg, 0, none⟩) 4 bq) ∧ w'.cell? ⟨ab, 2, none⟩ = some (.slice (some ⟨acg, 0, none⟩) (p + 2) aq) ∧ w'.cell? ⟨acg, (p + 1), none⟩ = some (Value.pointer (some ⟨pb1, 0, none⟩))) (X4.drew.alloc (.cells #[Value.pointer (some ⟨pb1, 0, none⟩)] 99)) := ⟨d2.out.blk.cell 2, s2.out.blk.cell 2, s2.out.ccell PL.out⟩
    refine wpAnyM_val 13 124 (v := .slice (some ⟨X4.heap.size, 0, none⟩) 1 1) (w' := (X4.drew.alloc (.cells #[Value.pointer (some ⟨pb1, 0, none⟩)] 99))) rfl rfl (by kernel_rfl) (by rfl) (by go_simp; try rfl) (.inr fun _ => hS1) ?_
    simp only [List.setIfInBounds_toArray, List.set_cons_zero, List.set_cons_succ]
    have hcall : Calls Try.prog 87 #[.slice (some ⟨bcg, 0, none⟩) 4 bq, .int .i64 0, .slice (some ⟨X4.heap.size, 0, none⟩) 1 1] (X4.drew.alloc (.cells #[Value.pointer (some ⟨pb1, 0, none⟩)] 99)) (InsPostN (X4.drew.alloc (.cells #[Value.pointer (some ⟨pb1, 0, none⟩)] 99)) 99 (.slice (some ⟨bcg, 0, none⟩) 4 bq) 5 (Value.pointer (some ⟨pb1, 0, none⟩) :: bps)) :=
      (insertN (X4.drew.alloc (.cells #[Value.pointer (some ⟨pb1, 0, none⟩)] 99)) (.slice (some ⟨bcg, 0, none⟩) 4 bq) bps (Value.pointer (some ⟨pb1, 0, none⟩)) X4.heap.size 0 d2.out.cr (by have := LD.out; omega) (Nat.zero_le _) (Blk.new _ _ _) rfl (PtrV.one OB.out.2.2) (fun h => by have := d1.out.cr.lt _ h; exact absurd this (Nat.lt_irrefl _))).mono fun _ _ h => insPostN (by have := LD.out; simp; omega) h
    refine wpAnyM_call 14 125 (f := 87) (args := #[.slice (some ⟨bcg, 0, none⟩) 4 bq, .int .i64 0, .slice (some ⟨X4.heap.size, 0, none⟩) 1 1]) rfl rfl (by kernel_rfl) (by rfl) (by go_simp; try rfl) hcall ?_
    clear hcall
    rintro e w4 ⟨NC, nCq, rfl, hrow, hchg, hown⟩
    have hmid := Nds.mid HRb.out (v := .slice (some ⟨bcg, 0, none⟩) 4 bq) (.inr (.inr rfl)) hchg
    have sn3 : NodR TS w4 ⟨ab, .slice (some ⟨ak, 0, none⟩) p ac, .slice (some ⟨avg, 0, none⟩) p av, .slice (some ⟨acg, 0, none⟩) (p + 2) aq, aks.take p, avs.take p, aps⟩ := hmid.2 _ (by simp)
    have hS2 : (fun w' : World => w'.cell? ⟨bb, 2, none⟩ = some (.slice (some ⟨bcg, 0, none⟩) 4 bq) ∧ w'.cell? ⟨ab, 2, none⟩ = some (.slice (some ⟨acg, 0, none⟩) (p + 2) aq) ∧ w'.cell? ⟨acg, (p + 1), none⟩ = some (Value.pointer (some ⟨pb1, 0, none⟩))) w4 := ⟨hmid.1.cell 2, sn3.blk.cell 2, sn3.ccell PL.out⟩
    have hf4 : w4.frozen? ⟨bb, 2, none⟩ = false := hmid.1.frozen 2
    have hc4 : w4.cell? ⟨bb, 2, none⟩ = some (.slice (some ⟨bcg, 0, none⟩) 4 bq) := hmid.1.cell 2
    have ok6 : ∀ u ∈ Value.pointer (some ⟨pb1, 0, none⟩) :: bps, PtrV u := fun u hu => by
      rcases List.mem_cons.1 hu with rfl | hu
      · exact ⟨_, rfl⟩
      · exact OB.out.2.2 u hu
    have h6 := Nds.slotC HRb.out hchg hrow ok6 hown
    have HRc := Lib.hid h6
    clear hrow hchg hown hmid sn3 ok6 h6
    refine ⟨_, rfl, .inr fun _ => hS2, ?_⟩
    simp only [List.setIfInBounds_toArray, List.set_cons_zero, List.set_cons_succ]
    refine wpAnyM_val 15 126 (v := .pointer (some ⟨bb, 0, none⟩)) (w' := w4) rfl rfl (by kernel_rfl) (by rfl) (by go_simp; try rfl) (.inr (fun h => h)) ?_
    simp only [List.setIfInBounds_toArray, List.set_cons_zero, List.set_cons_succ]
    refine wpAnyM_val 16 127 (v := .pointer (some ⟨bb, 2, none⟩)) (w' := w4) rfl rfl (by kernel_rfl) (by rfl) (by go_simp; try rfl) (.inr (fun h => h)) ?_
    simp only [List.setIfInBounds_toArray, List.set_cons_zero, List.set_cons_succ]
    refine wpAnyM_skip 17 (w' := w4.setCell ⟨bb, 2, none⟩ (.slice NC 5 nCq)) rfl rfl (by kernel_rfl) (by rfl) (by go_simp; try rfl) (.inl (by simp)) ?_
    refine wpAnyM_done (by kernel_rfl) ?_ _
    refine NoPanic.normal ?_
    generalize w4.setCell ⟨bb, 2, none⟩ (.slice NC 5 nCq) = X5 at *
    clear hS0 hS1 hS2 hf4 hc4 HR HRb d1 s1 d2 s2
    have HR := HRc
    clear HRc
    have HRx := Lib.hid (HR.out.perm (show List.Perm _ [⟨ab, .slice (some ⟨ak, 0, none⟩) p ac, .slice (some ⟨avg, 0, none⟩) p av, .slice (some ⟨acg, 0, none⟩) (p + 2) aq, aks.take p, avs.take p, aps⟩, ⟨bb, .slice NK 4 nKq, .slice NV 4 nVq, .slice NC 5 nCq, Value.string s3 :: bks, Value.string z3 :: bvs, Value.pointer (some ⟨pb1, 0, none⟩) :: bps⟩, ⟨b, .slice (some ⟨kg, 0, none⟩) m kvc, .slice (some ⟨vg, 0, none⟩) m vvc, .slice (some ⟨cg, 0, none⟩) (m + 1) cc, ks.set i (Value.string sl), vs.set i (Value.string zu), ps⟩] from (List.Perm.swap _ _ _)))
    clear HR
    have HR := HRx
    clear HRx
    have a0 := Lib.hid (HR.out.nod ⟨ab, .slice (some ⟨ak, 0, none⟩) p ac, .slice (some ⟨avg, 0, none⟩) p av, .slice (some ⟨acg, 0, none⟩) (p + 2) aq, aks.take p, avs.take p, aps⟩ (by simp))
    have c0 : X5.cell? ⟨ab, 2, none⟩ = some (.slice (some ⟨acg, 0, none⟩) (p + 2) aq) := a0.out.blk.cell 2
    have f0 : X5.frozen? ⟨ab, 2, none⟩ = false := a0.out.blk.frozen 2
    go_wp2
    have r1 := Row.pre (show Row X5 99 (.slice (some ⟨acg, 0, none⟩) (p + 2) aq) aps from a0.out.cr) (d := p + 1) (c' := aq) (by omega) (by omega) (by omega) (by simp)
    have HRb := Lib.hid (Nds.slotC HR.out (Chg.refl _ _) r1 (fun u hu => OA.out.2.2 u (List.mem_of_mem_take hu)) (.inl rfl))
    clear HR
    have HR := HRb
    go_end0
    have HRx := Lib.hid (HR.out.perm (show List.Perm _ [⟨b, .slice (some ⟨kg, 0, none⟩) m kvc, .slice (some ⟨vg, 0, none⟩) m vvc, .slice (some ⟨cg, 0, none⟩) (m + 1) cc, ks.set i (Value.string sl), vs.set i (Value.string zu), ps⟩, ⟨ab, .slice (some ⟨ak, 0, none⟩) p ac, .slice (some ⟨avg, 0, none⟩) p av, .slice (some ⟨acg, 0, none⟩) (p + 1) aq, aks.take p, avs.take p, aps.take (p + 1)⟩, ⟨bb, .slice NK 4 nKq, .slice NV 4 nVq, .slice NC 5 nCq, Value.string s3 :: bks, Value.string z3 :: bvs, Value.pointer (some ⟨pb1, 0, none⟩) :: bps⟩] from (List.Perm.trans (List.Perm.cons _ (List.Perm.swap _ _ _)) (List.Perm.swap _ _ _))))
    clear HR
    have HR := HRx
    clear HRx
    have g3 : ks.getD i undef = .string s3 := by rw [List.getD_eq_getElem?_getD, K3.out]; rfl
    have g4 : vs.getD i undef = Value.string z3 := by rw [List.getD_eq_getElem?_getD, V3.out]; rfl
    have g5 : aks.getD p undef = .string sl := by rw [List.getD_eq_getElem?_getD, KL.out]; rfl
    have g6 : avs.getD p undef = Value.string zu := by rw [List.getD_eq_getElem?_getD, VL.out]; rfl
    have g7 : aps.getD (p + 1) undef = .pointer (some ⟨pb1, 0, none⟩) := by rw [List.getD_eq_getElem?_getD, PL.out]; rfl
    refine ⟨rfl, _, _, _, HR.out, rfl, rfl, rfl, ?_, ?_, rfl, rfl, rfl, ?_, ?_, ?_⟩
    · show _ = ks.set i (aks.getD p undef)
      rw [g5]
    · show _ = vs.set i (avs.getD p undef)
      rw [g6]
    · show _ = ks.getD i undef :: bks
      rw [g3]
    · show _ = vs.getD i undef :: bvs
      rw [g4]
    · exact ⟨(fun h => by cases h), fun _ => ⟨rfl, (by show _ = aps.getD (p + 1) undef :: bps; rw [g7])⟩⟩

end Go.Proofs.Ytcidmaeclonilaa
