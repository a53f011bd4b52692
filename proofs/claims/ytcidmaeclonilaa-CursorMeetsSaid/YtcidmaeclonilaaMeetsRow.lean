/- CursorMeets: for every two ranges and every key the law returns true and leaves its arguments as they were. No condition. -/
import Derived.Test.YtcidmaeclonilaaRowG
import Derived.Test.YtcidmaeclonilaaMeets
namespace Go.Proofs.Ytcidmaeclonilaa
open Go Go.Joins Go.ChangeShapes Go.WideShapes Go.ChangeAt Go.RowKit

abbrev zeroRange : Value := .agg #[.string ⟨#[]⟩, .string ⟨#[]⟩, .bool false, .bool false, .bool false, .bool false]
set_option maxRecDepth 100000 in
theorem cursorMeets_lifted (os : Os) (started : os.Started) (H : Type) (enc : TypeId × Value → H) :
    ReturnsInHanded {} Try.checked os 4 .any (Rows.cursorMeetsSpec.pre6 enc Try.prog Try.f4 Rows.cursorMeetsRow.domain false) (Rows.cursorMeetsSpec.post enc Try.prog Try.f4 false true false false) := by
  refine returnsInHanded_of_change (C := Try.checked) own_knobG started (by kernel_rfl) Try.func4
    (ChangeSpec.witness6 (enc := enc) (C := Try.checked) false ⟨#[], #[zeroRange, zeroRange, .string ⟨#[]⟩], []⟩ 8 (by kernel_rfl) (by kernel_rfl) (by kernel_rfl) (by kernel_rfl)) ?_
  intro W base args ds gs before hval0 hW hcnd _
  have hval : ∀ (j : Nat) t v, Try.f4.params[j]? = some t → args[j]? = some v → Value.okWide Try.prog W .any base t v := hval0
  have hW' := hW
  obtain ⟨p, q, hA0, hV, rfl, hfz, hnd⟩ := hW
  have hA : DataW.TrodAll enc Try.prog W 0 (fun _ => true) true Try.f4.params.toList args.toList ds p := hA0
  rw [Try.params4] at hA hval
  have hlt := hA.lt
  have hA1 := hA
  obtain ⟨v0, v1, v2, d0, d1, d2, p0, p1, p2, rfl, rfl, rfl, h0, h1, h2⟩ := trodAll_three hA
  obtain ⟨rfl, rfl⟩ := trodVars_none hV
  obtain ⟨f1, t1, hf1, ht1, of1, ot1, rfl, rfl, l1, -⟩ := open_range (hval 0 23 v0 rfl rfl) h0
  obtain ⟨f2, t2, hf2, ht2, of2, ot2, rfl, rfl, -, -⟩ := open_range (hval 1 23 v1 rfl rfl) h1
  obtain ⟨key, rfl, rfl, -⟩ := open_text (hval 2 9 v2 rfl rfl) h2
  clear hA0 hval0 h0 h1 h2
  simp only [List.append_nil] at hW'
  refine (meets4 W f1 t1 hf1 ht1 of1 ot1 f2 t2 hf2 ht2 of2 ot2 key (by unfold maxLen at l1; omega)).mono fun e W' ⟨he, hb⟩ => ?_
  subst he
  have hb := hb.out
  have hc := trodAll_below laid_outG hb (ts := [23, 23, 9]) (fun t ht => by
    simp only [List.mem_cons, List.not_mem_nil, or_false] at ht
    rcases ht with rfl | rfl | rfl
    · exact readable23
    · exact readable23
    · exact readable9) hA1 hlt
  exact ⟨_, rfl, _, _, _, [], _, [], hW', trodAll_mk1 (shut_bool Try.underlying4 _), hc, rfl, hb.frame _, fun h => by cases h⟩

theorem cursorMeets_holds : Rows.CursorMeetsSaid :=
  OpenClaim.holds_of_wide 4 Try.f4 rfl rfl rfl rfl rfl rfl rfl ⟨rfl, rfl, rfl, rfl, rfl⟩ rfl rfl rfl rfl rfl (by kernel_rfl) Try.func4 (by kernel_rfl)
    (of_decide_eq_true (by kernel_rfl)) (by unfold Func.isWrapper; first | (rw [if_pos (by decide +kernel)]; kernel_rfl) | (rw [if_neg (by decide +kernel)]; exact ⟨rfl, rfl⟩))
    (fun os started H enc _ => cursorMeets_lifted os started H enc)

end Go.Proofs.Ytcidmaeclonilaa
