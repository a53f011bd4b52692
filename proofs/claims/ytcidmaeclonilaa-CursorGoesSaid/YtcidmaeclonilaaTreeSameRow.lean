/- TreeSame: for every two lists of keys the law returns true and leaves its arguments as they were. No condition. -/
import Derived.Test.YtcidmaeclonilaaRows
import Derived.Test.YtcidmaeclonilaaTreeSame
import Derived.Test.YtcidmaeclonilaaRowG
import Derived.ProofKit
import Derived.SizedLaws
import Derived.SliceStrings
namespace Go.Proofs.Ytcidmaeclonilaa
open Go Go.ChangeShapes Go.WideShapes Go.ChangeAt Go.RowKit

theorem cells9S : Try.prog.cellsOf 9 = 1 := by kernel_rfl

theorem add_offS (b off j : Nat) : (⟨b, off, none⟩ : Addr).add j = ⟨b, off + j, none⟩ := by
  unfold Addr.add; split <;> simp_all
theorem weightsAll_mem {H : Type} {P : Program} {e : TypeId} {z : ByteArray} : ∀ {zs : List ByteArray}, z ∈ zs → z.data.toList.length ∈ DataW.weightsAll P e (strs zs : List (DataW H))
  | [], h => by cases h
  | y :: ys, h => by
    show _ ∈ DataW.weightsAll P e (DataW.lit (.string y.data.toList) :: strs ys)
    rw [DataW.weightsAll]
    rcases List.mem_cons.1 h with rfl | h
    · exact List.mem_append_left _ (by simp [DataW.weights])
    · exact List.mem_append_right _ (weightsAll_mem h)
/-- a slice of texts that came in, each of a length that a process can hold -/
theorem open_texts_sized {H : Type} {enc : TypeId × Value → H} {W : World} {fuel : Nat} {v : Value} {x : DataW H × List MemPlace}
    (hf : DataW.trod enc Try.prog W 0 (fun _ => true) true fuel 37 [v] = some x) (hs : ∀ n ∈ x.1.weights Try.prog 37, n ≤ reachBytes) :
    ∃ (A : Option Addr) (n c : Nat) (zs : List ByteArray), v = .slice A n c ∧ ArgS W A n zs ∧ ∀ z ∈ zs, z.size ≤ 140737488355328 := by
  rcases open_strings Try.underlying37 Try.underlying9 cells9S hf with ⟨hcs, hx⟩ | ⟨a, len', cap', ss, hcs, _, hl, hm, hz, hx, hcell, _⟩
  · simp at hcs
    subst hcs
    exact ⟨none, 0, 0, [], rfl, ⟨rfl, fun j z h => by simp at h⟩, fun z h => by cases h⟩
  · simp at hcs
    subst hcs
    simp only [if_true] at hz
    have hx1 := congrArg Prod.fst hx
    simp only at hx1
    rw [hx1] at hs
    refine ⟨some a, len', cap', ss.take len', rfl, ⟨by simp; omega, fun j z hj => ?_⟩, fun z hzm => ?_⟩
    · have hj1 : j < len' := by
        have := (List.getElem?_eq_some_iff.1 hj).1
        simp at this; omega
      have hc := hcell j (by omega)
      obtain ⟨b, off, spot⟩ := a
      have hspot : spot = none := by simpa [Addr.add] using World.cell?_spot (hcell 0 (by omega))
      subst hspot
      have hX' : ss.getD j ByteArray.empty = z := by
        rw [List.getElem?_take_of_lt hj1] at hj
        simp [List.getD, hj]
      rw [hX', add_offS] at hc
      exact ⟨b, off, rfl, blk_lt' hc, hc⟩
    · have := hs z.data.toList.length (by
        simp only [DataW.weights, Try.underlying37]
        exact List.mem_cons_of_mem _ (List.mem_append_left _ (weightsAll_mem hzm)))
      rw [show z.data.toList.length = z.size from by rw [Array.length_toList]; rfl] at this
      simp only [reachBytes] at this
      omega

set_option maxRecDepth 100000 in
theorem treeSame_lifted (os : Os) (started : os.Started) (H : Type) (enc : TypeId × Value → H) :
    ReturnsInHanded {} Try.checked os 8 .any (Rows.treeSameSpec.pre6 enc Try.prog Try.f8 Rows.treeSameRow.domain false) (Rows.treeSameSpec.post enc Try.prog Try.f8 false true false false) := by
  refine returnsInHanded_of_change_sized (C := Try.checked) own_knobG started (by kernel_rfl) Try.func8
    (ChangeSpec.witness6 (enc := enc) (C := Try.checked) false ⟨#[], #[.slice none 0 0, .slice none 0 0], []⟩ 8 (by kernel_rfl) (by kernel_rfl) (by kernel_rfl) (by kernel_rfl)) ?_
  intro W base args ds gs before hval0 hW hcnd hsz0 _
  have hval : ∀ (j : Nat) t v, Try.f8.params[j]? = some t → args[j]? = some v → Value.okWide Try.prog W .any base t v := hval0
  have hsz : (DataW.weightsEach Try.prog (Try.f8.params.toList ++ Rows.treeSameSpec.plain.varTypes Try.prog) (ds ++ gs)).all (· ≤ reachBytes) = true := hsz0
  have hW' := hW
  obtain ⟨p, q, hA0, hV, rfl, hfz, hnd⟩ := hW
  have hA : DataW.TrodAll enc Try.prog W 0 (fun _ => true) true Try.f8.params.toList args.toList ds p := hA0
  rw [Try.params8] at hA hval hsz
  have hlt := hA.lt
  have hA1 := hA
  obtain ⟨v0, v1, d0, d1, p0, p1, rfl, rfl, rfl, h0, h1⟩ := trodAll_two hA
  obtain ⟨rfl, rfl⟩ := trodVars_none hV
  obtain ⟨A0, n0, c0, rfl⟩ := okWide_slice Try.underlying37 (hval 0 37 v0 rfl rfl)
  obtain ⟨B0, m0, e0, rfl⟩ := okWide_slice Try.underlying37 (hval 1 37 v1 rfl rfl)
  obtain ⟨fuel0, h0'⟩ := h0
  obtain ⟨fuel1, h1'⟩ := h1
  have s0 : ∀ n ∈ d0.weights Try.prog 37, n ≤ reachBytes := fun n hn => by
    simpa using List.all_eq_true.1 hsz _ (DataW.weights_mem_each (j := 0) rfl rfl n hn)
  have s1 : ∀ n ∈ d1.weights Try.prog 37, n ≤ reachBytes := fun n hn => by
    simpa using List.all_eq_true.1 hsz _ (DataW.weights_mem_each (j := 1) rfl rfl n hn)
  obtain ⟨A, n, c, zs, hv, hz, hzs⟩ := open_texts_sized (v := .slice A0 n0 c0) (fuel := fuel0) h0' s0
  injection hv with hv1 hv2 hv3
  subst hv1 hv2 hv3
  obtain ⟨B, m, e, gs, hv, hg, -⟩ := open_texts_sized (v := .slice B0 m0 e0) (fuel := fuel1) h1' s1
  injection hv with hv1 hv2 hv3
  subst hv1 hv2 hv3
  clear hA0 hval0 hsz0
  simp only [List.append_nil] at hW'
  refine (treeSame8 W A0 n0 c0 zs hz B0 m0 e0 gs hg hzs).mono fun e W' ⟨he, hb⟩ => ?_
  subst he
  have hb := hb.out
  have hc := trodAll_below laid_outG hb (ts := [37, 37]) (fun t ht => by
    simp only [List.mem_cons, List.not_mem_nil, or_false] at ht
    rcases ht with rfl | rfl
    · exact readable37
    · exact readable37) hA1 hlt
  exact ⟨_, rfl, _, _, _, [], _, [], hW', trodAll_mk1 (shut_bool Try.underlying4 _), hc, rfl, hb.frame _, fun h => by cases h⟩

theorem treeSame_holds : Rows.TreeSameSaid :=
  OpenClaim.holds_of_wide 8 Try.f8 rfl rfl rfl rfl rfl rfl rfl ⟨rfl, rfl, rfl, rfl, rfl⟩ rfl rfl rfl rfl rfl (by kernel_rfl) Try.func8 (by kernel_rfl)
    (of_decide_eq_true (by kernel_rfl)) (by unfold Func.isWrapper; first | (rw [if_pos (by decide +kernel)]; kernel_rfl) | (rw [if_neg (by decide +kernel)]; exact ⟨rfl, rfl⟩))
    (fun os started H enc _ => treeSame_lifted os started H enc)

end Go.Proofs.Ytcidmaeclonilaa
