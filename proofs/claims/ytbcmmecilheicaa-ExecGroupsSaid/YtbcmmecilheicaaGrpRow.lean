/- ExecGroups: for every rows and columns the law returns true and leaves its arguments as they were. No condition but what the row prints. -/
import Derived.Test.YtbcmmecilheicaaRowB
import Derived.Test.YtbcmmecilheicaaGrpL
namespace Go.Proofs.Ytbcmmecilheicaa
open Go Go.Deep Go.Joins Go.ChangeShapes Go.WideShapes Go.ChangeAt Go.RowKit

set_option maxRecDepth 100000 in
theorem execGroups_lifted (os : Os) (started : os.Started) (H : Type) (enc : TypeId × Value → H) :
    ReturnsInHanded {} Try.checked os 4 .any (Rows.execGroupsSpec.pre6 enc Try.prog Try.f4 Rows.execGroupsRow.domain false) (Rows.execGroupsSpec.post enc Try.prog Try.f4 false true false false) := by
  refine returnsInHanded_of_change_sized (C := Try.checked) own_knobG started (by kernel_rfl) Try.func4
    (ChangeSpec.witness6 (enc := enc) (C := Try.checked) false ⟨#[], #[.slice none 0 0, .slice none 0 0], []⟩ 8 (by kernel_rfl) (by kernel_rfl) (by kernel_rfl) (by kernel_rfl)) ?_
  intro W base args ds gs before hval0 hW hcnd hsz0 _
  have hval : ∀ (j : Nat) t v, Try.f4.params[j]? = some t → args[j]? = some v → Value.okWide Try.prog W .any base t v := hval0
  have hsz : (DataW.weightsEach Try.prog (Try.f4.params.toList ++ Rows.execGroupsSpec.plain.varTypes Try.prog) (ds ++ gs)).all (· ≤ reachBytes) = true := hsz0
  have hW' := hW
  obtain ⟨p, q, hA0, hV, rfl, hfz, hnd⟩ := hW
  have hA : DataW.TrodAll enc Try.prog W 0 (fun _ => true) true Try.f4.params.toList args.toList ds p := hA0
  rw [Try.params4] at hA hval hsz
  have hlt := hA.lt
  have hA1 := hA
  obtain ⟨v0, v1, d0, d1, p0, p1, rfl, rfl, rfl, h0, h1⟩ := trodAll_two hA
  obtain ⟨rfl, rfl⟩ := trodVars_none hV
  obtain ⟨u0, h0'⟩ := h0
  obtain ⟨u1, h1'⟩ := h1
  have s0 : ∀ n ∈ d0.weights Try.prog 44, n ≤ reachBytes := fun n hn => by
    simpa using List.all_eq_true.1 hsz _ (DataW.weights_mem_each (j := 0) rfl rfl n hn)
  have s1 : ∀ n ∈ d1.weights Try.prog 45, n ≤ reachBytes := fun n hn => by
    simpa using List.all_eq_true.1 hsz _ (DataW.weights_mem_each (j := 1) rfl rfl n hn)
  have h0'' : DataW.trod enc Try.prog W 0 (fun _ => true) true u0 44 [v0] = some (d0, p0) := by
    obtain ⟨a0, l0, c0, rfl⟩ := okWide_slice Try.underlying44 (hval 0 44 v0 rfl rfl)
    exact h0'
  have h1'' : DataW.trod enc Try.prog W 0 (fun _ => true) true u1 45 [v1] = some (d1, p1) := by
    obtain ⟨a1, l1, c1, rfl⟩ := okWide_slice Try.underlying45 (hval 1 45 v1 rfl rfl)
    exact h1'
  obtain ⟨A, n, c, rs, rfl, hr, -, hn⟩ := open_rows Try.underlying44 h0'' s0
  obtain ⟨CA, cn, cc, cols, rfl, hc, hcn⟩ := open_intsB Try.underlying45 h1'' s1
  rw [bytes29] at hn
  rw [bytes3] at hcn
  simp only [reachBytes] at hn hcn
  clear hA0 hval0 hsz0
  simp only [List.append_nil] at hW'
  refine (execGroups4 W A n c rs hr (by omega) CA cn cc cols hc (by omega)).mono fun e W' ⟨he, hb⟩ => ?_
  subst he
  have hb := hb.out
  have hc := trodAll_below laid_outG hb (ts := [44, 45]) (fun t ht => by
    simp only [List.mem_cons, List.not_mem_nil, or_false] at ht
    rcases ht with rfl | rfl
    · exact readable44
    · exact readable45) hA1 hlt
  exact ⟨_, rfl, _, _, _, [], _, [], hW', trodAll_mk1 (shut_bool Try.underlying4 _), hc, rfl, hb.frame _, fun h => by cases h⟩

theorem execGroups_holds : Rows.ExecGroupsSaid :=
  OpenClaim.holds_of_wide 4 Try.f4 rfl rfl rfl rfl rfl rfl rfl ⟨rfl, rfl, rfl, rfl, rfl⟩ rfl rfl rfl rfl rfl (by kernel_rfl) Try.func4 (by kernel_rfl)
    (of_decide_eq_true (by kernel_rfl)) (by unfold Func.isWrapper; first | (rw [if_pos (by decide +kernel)]; kernel_rfl) | (rw [if_neg (by decide +kernel)]; exact ⟨rfl, rfl⟩))
    (fun os started H enc _ => execGroups_lifted os started H enc)

end Go.Proofs.Ytbcmmecilheicaa
