/- VersionTravel: for every list of acts the law returns true and leaves its argument as it was. No condition. -/
import Derived.Test.YtcidmaeclonilaaRows
import Derived.Test.YtcidmaeclonilaaTravel
import Derived.Test.YtcidmaeclonilaaRowS
import Derived.ProofKit
import Derived.SizedLaws
namespace Go.Proofs.Ytcidmaeclonilaa
open Go Go.ChangeShapes Go.WideShapes Go.ChangeAt Go.RowKit Go.Deep

theorem cells55 : Try.prog.cellsOf 55 = 5 := by kernel_rfl
theorem readable47 : Try.prog.readableRec 47 = true ∧ 47 < Try.prog.types.size := ⟨by kernel_rfl, of_decide_eq_true (by kernel_rfl)⟩
theorem add_offV (b off j : Nat) : (⟨b, off, none⟩ : Addr).add j = ⟨b, off + j, none⟩ := by
  unfold Addr.add; split <;> simp_all
theorem weightsAll_of {H : Type} {P : Program} {e : TypeId} {d : DataW H} {n : Nat} (hn : n ∈ d.weights P e) : ∀ {ds : List (DataW H)}, d ∈ ds → n ∈ DataW.weightsAll P e ds
  | [], h => by cases h
  | x :: xs, h => by
    rw [DataW.weightsAll]
    rcases List.mem_cons.1 h with rfl | h
    · exact List.mem_append_left _ hn
    · exact List.mem_append_right _ (weightsAll_of hn h)
/-- a slice of acts that came in -/
theorem open_actsV {H : Type} {enc : TypeId × Value → H} {W : World} {fuel : Nat} {v : Value} {x : DataW H × List MemPlace}
    (hf : DataW.trod enc Try.prog W 0 (fun _ => true) true fuel 47 [v] = some x) (hs : ∀ n ∈ x.1.weights Try.prog 47, n ≤ reachBytes) :
    ∃ (A : Option Addr) (n c : Nat) (acts : List (ByteArray × Bool)), v = .slice A n c ∧ ArgV W A n acts ∧ ∀ x ∈ acts, x.1.size ≤ 140737488355328 := by
  rcases open_slice_fields Try.underlying47 Try.underlying55 (by kernel_rfl) (by rw [cells55]; rfl) hf with ⟨hcs, hx⟩ | ⟨a, len, cap, m, D, Pl, hcs, -, hlc, -, hm, hx, hi⟩
  · simp at hcs
    subst hcs
    exact ⟨none, 0, 0, [], rfl, ⟨rfl, fun j z g h => by simp at h⟩, fun x h => by cases h⟩
  · simp at hcs
    subst hcs
    simp only [if_true] at hm
    subst hx
    have each : ∀ i, i < len → ∃ (z : ByteArray) (g : Bool), W.cell? (a.add (i * 5 + 3)) = some (.string z) ∧ W.cell? (a.add (i * 5 + 4)) = some (.bool g) ∧ z.size ≤ 140737488355328 := fun i hil => by
      obtain ⟨ys, n, hD, -, hyl, hj⟩ := hi i (by omega)
      obtain ⟨v3, y3, c3, e3, t3⟩ := hj 3 _ rfl
      obtain ⟨v4, y4, c4, -, t4⟩ := hj 4 _ rfl
      obtain ⟨z, q3, q3', -⟩ := DataW.trod_string Try.underlying9 t3
      obtain ⟨g, q4, -⟩ := DataW.trod_bool Try.underlying4 t4
      simp only [List.cons.injEq, and_true] at q3 q4
      subst q3 q4
      refine ⟨z, g, c3, c4, ?_⟩
      have hw : z.data.toList.length ∈ (D i).weights Try.prog 55 := by
        rw [hD]
        simp only [DataW.weights, Try.underlying55]
        refine DataW.weights_mem_each (j := 3) (t := 9) (d := y3.1) rfl (by rw [List.getElem?_map, e3]; rfl) _ ?_
        rw [q3']
        simp [DataW.weights]
      have := hs z.data.toList.length (by
        simp only [DataW.weights, Try.underlying47]
        exact List.mem_cons_of_mem _ (List.mem_append_left _ (weightsAll_of hw (List.mem_map.2 ⟨i, List.mem_range.2 hil, rfl⟩))))
      rw [show z.data.toList.length = z.size from by rw [Array.length_toList]; rfl] at this
      simp only [reachBytes] at this
      omega
    classical
    have pick : ∀ i : Nat, ∃ t : ByteArray × Bool, i < len → W.cell? (a.add (i * 5 + 3)) = some (.string t.1) ∧ W.cell? (a.add (i * 5 + 4)) = some (.bool t.2) ∧ t.1.size ≤ 140737488355328 := fun i => by
      by_cases hil : i < len
      · obtain ⟨z, g, h⟩ := each i hil
        exact ⟨(z, g), fun _ => h⟩
      · exact ⟨(⟨#[]⟩, false), fun h => absurd h hil⟩
    let F : Nat → ByteArray × Bool := fun i => (pick i).choose
    have hF : ∀ i, i < len → W.cell? (a.add (i * 5 + 3)) = some (.string (F i).1) ∧ W.cell? (a.add (i * 5 + 4)) = some (.bool (F i).2) ∧ (F i).1.size ≤ 140737488355328 := fun i => (pick i).choose_spec
    refine ⟨some a, len, cap, (List.range len).map F, rfl, ⟨by simp, fun j z g hj => ?_⟩, fun x hx => ?_⟩
    · have hj1 : j < len := by
        have := (List.getElem?_eq_some_iff.1 hj).1
        simpa using this
      have hFj : F j = (z, g) := by
        rw [List.getElem?_map, List.getElem?_range hj1] at hj
        simpa using hj
      obtain ⟨c0, c1, -⟩ := hF j hj1
      rw [hFj] at c0 c1
      obtain ⟨b, off, spot⟩ := a
      obtain ⟨ys, n, hD, -, hyl, hjj⟩ := hi 0 (by omega)
      obtain ⟨v0, y0, q0, -, -⟩ := hjj 0 _ rfl
      have hspot : spot = none := by simpa [Addr.add] using World.cell?_spot q0
      subst hspot
      rw [add_offV] at c0 c1
      exact ⟨b, off, rfl, World.block_lt_of_cell? _ _ c0, by rw [Nat.add_assoc]; exact c0, by rw [Nat.add_assoc]; exact c1⟩
    · obtain ⟨j, hj, rfl⟩ := List.mem_map.1 hx
      exact (hF j (List.mem_range.1 hj)).2.2

set_option maxRecDepth 100000 in
theorem versionTravel_lifted (os : Os) (started : os.Started) (H : Type) (enc : TypeId × Value → H) :
    ReturnsInHanded {} Try.checked os 6 .any (Rows.versionTravelSpec.pre6 enc Try.prog Try.f6 Rows.versionTravelRow.domain false) (Rows.versionTravelSpec.post enc Try.prog Try.f6 false true false false) := by
  refine returnsInHanded_of_change_sized (C := Try.checked) own_knobG started (by kernel_rfl) Try.func6
    (ChangeSpec.witness6 (enc := enc) (C := Try.checked) false ⟨#[], #[.slice none 0 0], []⟩ 8 (by kernel_rfl) (by kernel_rfl) (by kernel_rfl) (by kernel_rfl)) ?_
  intro W base args ds gs before hval0 hW hcnd hsz0 _
  have hval : ∀ (j : Nat) t v, Try.f6.params[j]? = some t → args[j]? = some v → Value.okWide Try.prog W .any base t v := hval0
  have hsz : (DataW.weightsEach Try.prog (Try.f6.params.toList ++ Rows.versionTravelSpec.plain.varTypes Try.prog) (ds ++ gs)).all (· ≤ reachBytes) = true := hsz0
  have hW' := hW
  obtain ⟨p, q, hA0, hV, rfl, hfz, hnd⟩ := hW
  have hA : DataW.TrodAll enc Try.prog W 0 (fun _ => true) true Try.f6.params.toList args.toList ds p := hA0
  rw [Try.params6] at hA hval hsz
  have hlt := hA.lt
  have hA1 := hA
  obtain ⟨v0, d0, rfl, rfl, h0⟩ := trodAll_one hA
  obtain ⟨rfl, rfl⟩ := trodVars_none hV
  obtain ⟨A0, n0, c0, rfl⟩ := okWide_slice Try.underlying47 (hval 0 47 v0 rfl rfl)
  obtain ⟨fuel, h0'⟩ := h0
  have s0 : ∀ n ∈ d0.weights Try.prog 47, n ≤ reachBytes := fun n hn => by
    simpa using List.all_eq_true.1 hsz _ (DataW.weights_mem_each (j := 0) rfl rfl n hn)
  obtain ⟨A, n, c, acts, hv, hz, hzs⟩ := open_actsV (v := .slice A0 n0 c0) (fuel := fuel) h0' s0
  injection hv with hv1 hv2 hv3
  subst hv1 hv2 hv3
  clear hA0 hval0 hsz0
  simp only [List.append_nil] at hW'
  refine (versionTravel6 W A0 n0 c0 acts hz hzs).mono fun e W' ⟨he, hb⟩ => ?_
  subst he
  have hb := hb.out
  have hc := trodAll_below laid_outG hb (ts := [47]) (fun t ht => by
    simp only [List.mem_cons, List.not_mem_nil, or_false] at ht
    rcases ht with rfl
    exact readable47) hA1 hlt
  exact ⟨_, rfl, _, _, _, [], _, [], hW', trodAll_mk1 (shut_bool Try.underlying4 _), hc, rfl, hb.frame _, fun h => by cases h⟩

theorem versionTravel_holds : Rows.VersionTravelSaid :=
  OpenClaim.holds_of_wide 6 Try.f6 rfl rfl rfl rfl rfl rfl rfl ⟨rfl, rfl, rfl, rfl, rfl⟩ rfl rfl rfl rfl rfl (by kernel_rfl) Try.func6 (by kernel_rfl)
    (of_decide_eq_true (by kernel_rfl)) (by unfold Func.isWrapper; first | (rw [if_pos (by decide +kernel)]; kernel_rfl) | (rw [if_neg (by decide +kernel)]; exact ⟨rfl, rfl⟩))
    (fun os started H enc _ => versionTravel_lifted os started H enc)

end Go.Proofs.Ytcidmaeclonilaa
