/- TreeNear: for every list of keys the law returns true and leaves its argument as it was. No condition. -/
import Derived.Test.YtcidmaeclonilaaRows
import Derived.Test.YtcidmaeclonilaaTreeNear
import Derived.ProofKit
import Derived.SliceStrings
namespace Go.Proofs.Ytcidmaeclonilaa
open Go Go.ChangeShapes Go.WideShapes Go.ChangeAt Go.RowKit

theorem own_knob : ownKnob Try.prog.godebug = none := by kernel_rfl
theorem laid_out : laidOutB Try.prog = true := by kernel_rfl
theorem cells9 : Try.prog.cellsOf 9 = 1 := by kernel_rfl

theorem add_off (b off j : Nat) : (⟨b, off, none⟩ : Addr).add j = ⟨b, off + j, none⟩ := by
  unfold Addr.add; split <;> simp_all
theorem blk_lt {w : World} {a : Addr} {v : Value} (h : w.cell? a = some v) : a.block < w.heap.size := by
  by_cases hlt : a.block < w.heap.size
  · exact hlt
  · exfalso
    have : w.heap[a.block]? = none := Array.getElem?_eq_none (by omega)
    unfold World.cell? at h
    rw [this] at h
    cases h
/-- a slice of texts that came in -/
theorem open_texts {H : Type} {enc : TypeId × Value → H} {W : World} {fuel : Nat} {v : Value} {x : DataW H × List MemPlace}
    (hf : DataW.trod enc Try.prog W 0 (fun _ => true) true fuel 37 [v] = some x) :
    ∃ (A : Option Addr) (n c : Nat) (zs : List ByteArray), v = .slice A n c ∧ ArgS W A n zs := by
  rcases open_strings Try.underlying37 Try.underlying9 cells9 hf with ⟨hcs, hx⟩ | ⟨a, len', cap', ss, hcs, _, hl, hm, hz, hx, hcell, _⟩
  · simp at hcs
    subst hcs
    exact ⟨none, 0, 0, [], rfl, ⟨rfl, fun j z h => by simp at h⟩⟩
  · simp at hcs
    subst hcs
    simp only [if_true] at hz
    refine ⟨some a, len', cap', ss.take len', rfl, ⟨by simp; omega, fun j z hj => ?_⟩⟩
    have hj1 : j < len' := by
      have := (List.getElem?_eq_some_iff.1 hj).1
      simp at this; omega
    have hc := hcell j (by omega)
    obtain ⟨b, off, spot⟩ := a
    have hspot : spot = none := by simpa [Addr.add] using World.cell?_spot (hcell 0 (by omega))
    subst hspot
    have hX' : ss.getD j ByteArray.empty = z := by
      rw [List.getElem?_take_of_lt hj1] at hj
      simp [List.getD, hj]
    rw [hX', add_off] at hc
    exact ⟨b, off, rfl, blk_lt hc, hc⟩

set_option maxRecDepth 100000 in
theorem treeNear_lifted (os : Os) (started : os.Started) (H : Type) (enc : TypeId × Value → H) :
    ReturnsInHanded {} Try.checked os 5 .any (Rows.treeNearSpec.pre6 enc Try.prog Try.f5 Rows.treeNearRow.domain false) (Rows.treeNearSpec.post enc Try.prog Try.f5 false true false false) := by
  refine returnsInHanded_of_change (C := Try.checked) own_knob started (by kernel_rfl) Try.func5
    (ChangeSpec.witness6 (enc := enc) (C := Try.checked) false ⟨#[], #[.slice none 0 0], []⟩ 8 (by kernel_rfl) (by kernel_rfl) (by kernel_rfl) (by kernel_rfl)) ?_
  intro W base args ds gs before hval0 hW hcnd _
  have hval : ∀ (j : Nat) t v, Try.f5.params[j]? = some t → args[j]? = some v → Value.okWide Try.prog W .any base t v := hval0
  have hW' := hW
  obtain ⟨p, q, hA0, hV, rfl, hfz, hnd⟩ := hW
  have hA : DataW.TrodAll enc Try.prog W 0 (fun _ => true) true Try.f5.params.toList args.toList ds p := hA0
  rw [Try.params5] at hA hval
  obtain ⟨v0, d0, rfl, rfl, h0⟩ := trodAll_one hA
  obtain ⟨rfl, rfl⟩ := trodVars_none hV
  obtain ⟨A0, n0, c0, rfl⟩ := okWide_slice Try.underlying37 (hval 0 37 v0 rfl rfl)
  have h0k := h0
  obtain ⟨fuel, h0'⟩ := h0
  obtain ⟨A, n, c, zs, hv, hz⟩ := open_texts (v := .slice A0 n0 c0) (fuel := fuel) h0'
  injection hv with hv1 hv2 hv3
  subst hv1 hv2 hv3
  have hlt := hA.lt
  clear hA0 hval0
  simp only [List.append_nil] at hW'
  refine (treeNear5 W A0 n0 c0 zs hz).mono fun e W' ⟨he, hb⟩ => ?_
  subst he
  have hb := hb.out
  exact ⟨_, rfl, _, _, _, [], p, [], hW', trodAll_mk1 (shut_bool Try.underlying4 _), trodAll_mk1 (Below.trod laid_out (by kernel_rfl) (of_decide_eq_true (by kernel_rfl)) h0k hb hlt), rfl, hb.frame _, fun h => by cases h⟩

theorem treeNear_holds : Rows.TreeNearSaid :=
  OpenClaim.holds_of_wide 5 Try.f5 rfl rfl rfl rfl rfl rfl rfl ⟨rfl, rfl, rfl, rfl, rfl⟩ rfl rfl rfl rfl rfl (by kernel_rfl) Try.func5 (by kernel_rfl)
    (of_decide_eq_true (by kernel_rfl)) (by unfold Func.isWrapper; first | (rw [if_pos (by decide +kernel)]; kernel_rfl) | (rw [if_neg (by decide +kernel)]; exact ⟨rfl, rfl⟩))
    (fun os started H enc _ => treeNear_lifted os started H enc)

end Go.Proofs.Ytcidmaeclonilaa
