/- CursorRanges: for every two ranges and every key the law returns true and leaves its arguments as they were. Where the arguments are together of bulk at most 1048576. -/
import Derived.Test.YtcidmaeclonilaaRowG
import Derived.Test.YtcidmaeclonilaaRanges
import Derived.JoinedCond
namespace Go.Proofs.Ytcidmaeclonilaa
open Go Go.Joins Go.ChangeShapes Go.WideShapes Go.ChangeAt Go.RowKit

theorem ranges_short {H : Type} {f1 t1 f2 t2 key : ByteArray} {a b c d e g h i : Bool}
    (hk : Rows.uptoSmall H [.agg [.lit (.string f1.data.toList), .lit (.string t1.data.toList), .lit (.bool a), .lit (.bool b), .lit (.bool c), .lit (.bool d)], .agg [.lit (.string f2.data.toList), .lit (.string t2.data.toList), .lit (.bool e), .lit (.bool g), .lit (.bool h), .lit (.bool i)], .lit (.string key.data.toList)] = true) :
    f1.size ≤ 1048576 ∧ t1.size ≤ 1048576 ∧ key.size ≤ 1048576 := by
  have h := of_decide_eq_true hk
  simp only [Rows.uptoBulkAll, Rows.uptoBulk] at h
  have e1 : f1.data.toList.length = f1.size := by rw [Array.length_toList]; rfl
  have e2 : t1.data.toList.length = t1.size := by rw [Array.length_toList]; rfl
  have e3 : key.data.toList.length = key.size := by rw [Array.length_toList]; rfl
  omega

abbrev zeroRangeR : Value := .agg #[.string ⟨#[]⟩, .string ⟨#[]⟩, .bool false, .bool false, .bool false, .bool false]
abbrev zeroRangeD (H : Type) : DataW H := .agg [.lit (.string []), .lit (.string []), .lit (.bool false), .lit (.bool false), .lit (.bool false), .lit (.bool false)]
set_option maxRecDepth 100000 in
theorem cursorRanges_lifted (os : Os) (started : os.Started) (H : Type) (enc : TypeId × Value → H) (F : Stop.Interp) :
    ReturnsInHanded {} Try.checked os 3 .any ((Rows.OpenSpec.upto Rows.cursorRangesSpec).pre6 enc Try.prog Try.f3 Rows.cursorRangesUptoRow.domain false) (((Rows.OpenSpec.upto Rows.cursorRangesSpec).at F).post enc Try.prog Try.f3 false true false false) := by
  refine returnsInHanded_of_cond (C := Try.checked) (s := Rows.OpenSpec.upto Rows.cursorRangesSpec) (k := Rows.uptoSmall) rfl own_knobG started (by kernel_rfl) Try.func3
    (OpenSpec.witness (enc := enc) (C := Try.checked) (s := Rows.OpenSpec.upto Rows.cursorRangesSpec) (k := Rows.uptoSmall) rfl false ⟨#[], #[zeroRangeR, zeroRangeR, .string ⟨#[]⟩], []⟩ 8 (by kernel_rfl) (by kernel_rfl) (by kernel_rfl)
      (x := ([zeroRangeD H, zeroRangeD H, .lit (.string [])], [], [])) (by kernel_rfl) rfl (by kernel_rfl)) ?_
  intro W base args ds gs before hval0 hW hcnd hk0 _
  have hval : ∀ (j : Nat) t v, Try.f3.params[j]? = some t → args[j]? = some v → Value.okWide Try.prog W .any base t v := hval0
  have hk : Rows.uptoSmall H (ds ++ gs) = true := hk0
  have hW' := hW
  obtain ⟨p, q, hA0, hV, rfl, hfz, hnd⟩ := hW
  have hA : DataW.TrodAll enc Try.prog W 0 (fun _ => true) true Try.f3.params.toList args.toList ds p := hA0
  rw [Try.params3] at hA hval
  have hlt := hA.lt
  have hA1 := hA
  obtain ⟨v0, v1, v2, d0, d1, d2, p0, p1, p2, rfl, rfl, rfl, h0, h1, h2⟩ := trodAll_three hA
  obtain ⟨rfl, rfl⟩ := trodVars_none hV
  obtain ⟨f1, t1, hf1, ht1, of1, ot1, rfl, rfl, l1, -⟩ := open_range (hval 0 23 v0 rfl rfl) h0
  obtain ⟨f2, t2, hf2, ht2, of2, ot2, rfl, rfl, -, -⟩ := open_range (hval 1 23 v1 rfl rfl) h1
  obtain ⟨key, rfl, rfl, -⟩ := open_text (hval 2 9 v2 rfl rfl) h2
  clear hA0 hval0 h0 h1 h2 hk0
  simp only [List.append_nil] at hW' hk
  obtain ⟨s1, s2, s3⟩ := ranges_short hk
  refine (ranges3 W f1 t1 hf1 ht1 of1 ot1 f2 t2 hf2 ht2 of2 ot2 key s1 s2 s3).mono fun e W' ⟨he, hb⟩ => ?_
  subst he
  have hb := hb.out
  have hc := trodAll_below laid_outG hb (ts := [23, 23, 9]) (fun t ht => by
    simp only [List.mem_cons, List.not_mem_nil, or_false] at ht
    rcases ht with rfl | rfl | rfl
    · exact readable23
    · exact readable23
    · exact readable9) hA1 hlt
  exact ⟨_, rfl, _, _, _, [], _, [], hW', trodAll_mk1 (shut_bool Try.underlying4 _), hc, rfl, hb.frame _, fun h => by cases h⟩

theorem cursorRanges_holds : Rows.CursorRangesUptoSaid :=
  OpenClaim.holds_of_cond 3 Try.f3 rfl rfl rfl rfl rfl rfl rfl ⟨rfl, rfl, rfl, rfl, rfl⟩ rfl rfl rfl rfl rfl (by kernel_rfl) Try.func3 (by kernel_rfl)
    (of_decide_eq_true (by kernel_rfl)) (by unfold Func.isWrapper; first | (rw [if_pos (by decide +kernel)]; kernel_rfl) | (rw [if_neg (by decide +kernel)]; exact ⟨rfl, rfl⟩))
    (fun os started H enc _ F => cursorRanges_lifted os started H enc F)

end Go.Proofs.Ytcidmaeclonilaa
