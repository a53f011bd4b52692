/- TreeShape: for every list of acts the law returns true and leaves its argument as it was. No condition. -/
import Derived.Test.YtcidmaeclonilaaRows
import Derived.Test.YtcidmaeclonilaaTreeShape
import Derived.Test.YtcidmaeclonilaaRowS
import Derived.ProofKit
namespace Go.Proofs.Ytcidmaeclonilaa
open Go Go.ChangeShapes Go.WideShapes Go.ChangeAt Go.RowKit Go.Deep

theorem cells71 : Try.prog.cellsOf 71 = 3 := by kernel_rfl
theorem readable68 : Try.prog.readableRec 68 = true ∧ 68 < Try.prog.types.size := ⟨by kernel_rfl, of_decide_eq_true (by kernel_rfl)⟩
theorem add_offT (b off j : Nat) : (⟨b, off, none⟩ : Addr).add j = ⟨b, off + j, none⟩ := by
  unfold Addr.add; split <;> simp_all
/-- a slice of acts that came in -/
theorem open_acts {H : Type} {enc : TypeId × Value → H} {W : World} {fuel : Nat} {v : Value} {x : DataW H × List MemPlace}
    (hf : DataW.trod enc Try.prog W 0 (fun _ => true) true fuel 68 [v] = some x) :
    ∃ (A : Option Addr) (n c : Nat) (acts : List (Int × ByteArray × ByteArray)), v = .slice A n c ∧ ArgA W A n acts := by
  rcases open_slice_fields Try.underlying68 Try.underlying71 (by kernel_rfl) (by rw [cells71]; rfl) hf with ⟨hcs, hx⟩ | ⟨a, len, cap, m, D, Pl, hcs, -, hlc, -, hm, -, hi⟩
  · simp at hcs
    subst hcs
    exact ⟨none, 0, 0, [], rfl, ⟨rfl, fun j k z v h => by simp at h⟩⟩
  · simp at hcs
    subst hcs
    simp only [if_true] at hm
    have each : ∀ i, i < len → ∃ (k : Int) (z u : ByteArray), W.cell? (a.add (i * 3 + 0)) = some (.int .i64 k) ∧ W.cell? (a.add (i * 3 + 1)) = some (.string z) ∧ W.cell? (a.add (i * 3 + 2)) = some (.string u) := fun i hil => by
      obtain ⟨ys, n, -, -, -, hj⟩ := hi i (by omega)
      obtain ⟨v0, y0, c0, -, t0⟩ := hj 0 _ rfl
      obtain ⟨v1, y1, c1, -, t1⟩ := hj 1 _ rfl
      obtain ⟨v2, y2, c2, -, t2⟩ := hj 2 _ rfl
      obtain ⟨k, e0, -⟩ := DataW.trod_int Try.underlying3 t0
      obtain ⟨z, e1, -⟩ := DataW.trod_string Try.underlying9 t1
      obtain ⟨u, e2, -⟩ := DataW.trod_string Try.underlying9 t2
      simp only [List.cons.injEq, and_true] at e0 e1 e2
      subst e0 e1 e2
      exact ⟨k, z, u, c0, c1, c2⟩
    classical
    have pick : ∀ i : Nat, ∃ t : Int × ByteArray × ByteArray, i < len → W.cell? (a.add (i * 3 + 0)) = some (.int .i64 t.1) ∧ W.cell? (a.add (i * 3 + 1)) = some (.string t.2.1) ∧ W.cell? (a.add (i * 3 + 2)) = some (.string t.2.2) := fun i => by
      by_cases hil : i < len
      · obtain ⟨k, z, u, h⟩ := each i hil
        exact ⟨(k, z, u), fun _ => h⟩
      · exact ⟨(0, ⟨#[]⟩, ⟨#[]⟩), fun h => absurd h hil⟩
    let F : Nat → Int × ByteArray × ByteArray := fun i => (pick i).choose
    have hF : ∀ i, i < len → W.cell? (a.add (i * 3 + 0)) = some (.int .i64 (F i).1) ∧ W.cell? (a.add (i * 3 + 1)) = some (.string (F i).2.1) ∧ W.cell? (a.add (i * 3 + 2)) = some (.string (F i).2.2) := fun i => (pick i).choose_spec
    refine ⟨some a, len, cap, (List.range len).map F, rfl, ⟨by simp, fun j k z v hj => ?_⟩⟩
    have hj1 : j < len := by
      have := (List.getElem?_eq_some_iff.1 hj).1
      simpa using this
    have hFj : F j = (k, z, v) := by
      rw [List.getElem?_map, List.getElem?_range hj1] at hj
      simpa using hj
    obtain ⟨c0, c1, c2⟩ := hF j hj1
    rw [hFj] at c0 c1 c2
    obtain ⟨b, off, spot⟩ := a
    have hspot : spot = none := by simpa [Addr.add] using World.cell?_spot (hF 0 (by omega)).1
    subst hspot
    rw [add_offT] at c0 c1 c2
    exact ⟨b, off, rfl, blk_lt2 c0, by simpa using c0, by rw [Nat.add_assoc]; exact c1, by rw [Nat.add_assoc]; exact c2⟩

set_option maxRecDepth 100000 in
theorem treeShape_lifted (os : Os) (started : os.Started) (H : Type) (enc : TypeId × Value → H) :
    ReturnsInHanded {} Try.checked os 9 .any (Rows.treeShapeSpec.pre6 enc Try.prog Try.f9 Rows.treeShapeRow.domain false) (Rows.treeShapeSpec.post enc Try.prog Try.f9 false true false false) := by
  refine returnsInHanded_of_change (C := Try.checked) own_knobG started (by kernel_rfl) Try.func9
    (ChangeSpec.witness6 (enc := enc) (C := Try.checked) false ⟨#[], #[.slice none 0 0], []⟩ 8 (by kernel_rfl) (by kernel_rfl) (by kernel_rfl) (by kernel_rfl)) ?_
  intro W base args ds gs before hval0 hW hcnd _
  have hval : ∀ (j : Nat) t v, Try.f9.params[j]? = some t → args[j]? = some v → Value.okWide Try.prog W .any base t v := hval0
  have hW' := hW
  obtain ⟨p, q, hA0, hV, rfl, hfz, hnd⟩ := hW
  have hA : DataW.TrodAll enc Try.prog W 0 (fun _ => true) true Try.f9.params.toList args.toList ds p := hA0
  rw [Try.params9] at hA hval
  have hlt := hA.lt
  have hA1 := hA
  obtain ⟨v0, d0, rfl, rfl, h0⟩ := trodAll_one hA
  obtain ⟨rfl, rfl⟩ := trodVars_none hV
  obtain ⟨A0, n0, c0, rfl⟩ := okWide_slice Try.underlying68 (hval 0 68 v0 rfl rfl)
  obtain ⟨fuel, h0'⟩ := h0
  obtain ⟨A, n, c, acts, hv, hz⟩ := open_acts (v := .slice A0 n0 c0) (fuel := fuel) h0'
  injection hv with hv1 hv2 hv3
  subst hv1 hv2 hv3
  clear hA0 hval0
  simp only [List.append_nil] at hW'
  refine (treeShape9 W A0 n0 c0 acts hz).mono fun e W' ⟨he, hb⟩ => ?_
  subst he
  have hb := hb.out
  have hc := trodAll_below laid_outG hb (ts := [68]) (fun t ht => by
    simp only [List.mem_cons, List.not_mem_nil, or_false] at ht
    rcases ht with rfl
    exact readable68) hA1 hlt
  exact ⟨_, rfl, _, _, _, [], _, [], hW', trodAll_mk1 (shut_bool Try.underlying4 _), hc, rfl, hb.frame _, fun h => by cases h⟩

theorem treeShape_holds : Rows.TreeShapeSaid :=
  OpenClaim.holds_of_wide 9 Try.f9 rfl rfl rfl rfl rfl rfl rfl ⟨rfl, rfl, rfl, rfl, rfl⟩ rfl rfl rfl rfl rfl (by kernel_rfl) Try.func9 (by kernel_rfl)
    (of_decide_eq_true (by kernel_rfl)) (by unfold Func.isWrapper; first | (rw [if_pos (by decide +kernel)]; kernel_rfl) | (rw [if_neg (by decide +kernel)]; exact ⟨rfl, rfl⟩))
    (fun os started H enc _ => treeShape_lifted os started H enc)

end Go.Proofs.Ytcidmaeclonilaa
