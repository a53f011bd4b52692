/- TreeRuns: for every list of acts the law returns true and leaves its argument as it was. No condition. -/
import Derived.Test.YtcidmaeclonilaaTreeShapeRow
import Derived.Test.YtcidmaeclonilaaTreeRuns
namespace Go.Proofs.Ytcidmaeclonilaa
open Go Go.ChangeShapes Go.WideShapes Go.ChangeAt Go.RowKit Go.Deep

set_option maxRecDepth 100000 in
theorem treeRuns_lifted (os : Os) (started : os.Started) (H : Type) (enc : TypeId × Value → H) :
    ReturnsInHanded {} Try.checked os 10 .any (Rows.treeRunsSpec.pre6 enc Try.prog Try.f10 Rows.treeRunsRow.domain false) (Rows.treeRunsSpec.post enc Try.prog Try.f10 false true false false) := by
  refine returnsInHanded_of_change (C := Try.checked) own_knobG started (by kernel_rfl) Try.func10
    (ChangeSpec.witness6 (enc := enc) (C := Try.checked) false ⟨#[], #[.slice none 0 0], []⟩ 8 (by kernel_rfl) (by kernel_rfl) (by kernel_rfl) (by kernel_rfl)) ?_
  intro W base args ds gs before hval0 hW hcnd _
  have hval : ∀ (j : Nat) t v, Try.f10.params[j]? = some t → args[j]? = some v → Value.okWide Try.prog W .any base t v := hval0
  have hW' := hW
  obtain ⟨p, q, hA0, hV, rfl, hfz, hnd⟩ := hW
  have hA : DataW.TrodAll enc Try.prog W 0 (fun _ => true) true Try.f10.params.toList args.toList ds p := hA0
  rw [Try.params10] at hA hval
  have hlt := hA.lt
  have hA1 := hA
  obtain ⟨v0, d0, rfl, rfl, h0⟩ := trodAll_one hA
  obtain ⟨rfl, rfl⟩ := trodVars_none hV
  obtain ⟨A0, n0, c0, rfl⟩ := okWide_slice Try.underlying68 (hval 0 68 v0 rfl rfl)
  obtain ⟨fuel, h0'⟩ := h0
  obtain ⟨A, n, c, acts, hv, hz⟩ := open_acts (v := .slice A0 n0 c0) (fuel := fuel) h0'
  injection hv with hv1 hv2 hv3
  subst hv1 hv2 hv3
  clear hA0 hval0
  simp only [List.append_nil] at hW'
  refine (treeRuns10 W A0 n0 c0 acts hz).mono fun e W' ⟨he, hb⟩ => ?_
  subst he
  have hb := hb.out
  have hc := trodAll_below laid_outG hb (ts := [68]) (fun t ht => by
    simp only [List.mem_cons, List.not_mem_nil, or_false] at ht
    rcases ht with rfl
    exact readable68) hA1 hlt
  exact ⟨_, rfl, _, _, _, [], _, [], hW', trodAll_mk1 (shut_bool Try.underlying4 _), hc, rfl, hb.frame _, fun h => by cases h⟩

theorem treeRuns_holds : Rows.TreeRunsSaid :=
  OpenClaim.holds_of_wide 10 Try.f10 rfl rfl rfl rfl rfl rfl rfl ⟨rfl, rfl, rfl, rfl, rfl⟩ rfl rfl rfl rfl rfl (by kernel_rfl) Try.func10 (by kernel_rfl)
    (of_decide_eq_true (by kernel_rfl)) (by unfold Func.isWrapper; first | (rw [if_pos (by decide +kernel)]; kernel_rfl) | (rw [if_neg (by decide +kernel)]; exact ⟨rfl, rfl⟩))
    (fun os started H enc _ => treeRuns_lifted os started H enc)

end Go.Proofs.Ytcidmaeclonilaa
