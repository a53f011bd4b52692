/- The contracts of slices.Insert, slices.Delete and slices.Clone, as the tree calls them, at one element type. -/
import Derived.Test.YtcidmaeclonilaaMemA
import Derived.Test.YtcidmaeclonilaaProg
import Derived.Lib.Overlaps
import Derived.Lib.AppendZeros
import Derived.Lib.AppendZerosOnto
import Derived.Deep.RegionLaw
import Derived.KernelRfl
namespace Go.Proofs.Ytcidmaeclonilaa
open Go Go.RowKit

theorem slTyC : SlTy Try.prog 141 113 (Value.slice none 0 0) 24 := by
  refine ⟨Try.underlying141, ?_, rfl, rfl, by decide⟩
  have h : (Try.prog.info? 113).map (fun i => (i.zero, i.size, i.bytes)) = some (some (Value.slice none 0 0), 1, 24) := by kernel_rfl
  obtain ⟨i0, hi, hz0, hz1, hz2⟩ := info_parts h
  exact ⟨i0, hi, hz0, hz1, hz2⟩

set_option maxHeartbeats 4000000 in
set_option maxRecDepth 100000 in
/-- slices.Insert of one element, at the end -/
theorem insertC_end (w : World) (v : Value) (xs : List Value) (x : Value) (vb : Nat) (hr : Row w 113 v xs) (hlen : xs.length ≤ 64) (hx : Blk w vb 113 #[x]) (hx1 : x.oneCell' = true) :
    Calls Try.prog 109 #[v, .int .i64 (xs.length : Nat), .slice (some ⟨vb, 0, none⟩) 1 1] w (InsPost w 113 v (xs ++ [x])) := by
  obtain ⟨v', w', hrun, hrow, hchg, hown⟩ : ∃ v' w', (Builtin.append_ #[141, 141] 141 #[v, .slice (some ⟨vb, 0, none⟩) 1 1]).run Try.prog w = .ok v' w' ∧ Row w' 113 v' (xs ++ [x]) ∧ Chg (ob v) w w' ∧ OwnNew w v v' :=
    run_append_row slTyC 141 hr ⟨vb, 0, none⟩ 1 1 [x] rfl (fun j u hj => by
      cases j with
      | zero => rw [add_lit0]; exact (hx.cell 0).trans (by simpa using hj)
      | succ j => simp at hj) (by simpa using hx1) (by omega) (by omega)
  obtain ⟨A, c, rfl, h1, h2, h⟩ := hr
  have Hfin : Hid (InsPost w 113 (.slice A xs.length c) (xs ++ [x]) (.returned v') w') := ⟨v', rfl, hrow, hchg, hown⟩
  clear hrow hchg hown
  rcases h with ⟨rfl, rfl⟩ | ⟨g, cur, rfl, hB, hcs, hxs⟩
  · have hx0 : xs = [] := List.eq_nil_of_length_eq_zero (by omega)
    subst hx0
    clear h1 h2
    go_enter Try.func109, Try.ntmps109
    go_wp2_with (at_builtin; refine Lib.wpList_append_run _ rfl _ _ _ _ rfl _ _ rfl rfl _ _ hrun ?_)
    go_ret
    exact Hfin
  · clear hcs hxs hB
    generalize xs.length = n at *
    have h63 : c ≤ 9223372036854775807 := by unfold maxLen at h2; exact h2
    clear h2
    go_enter Try.func109, Try.ntmps109
    go_wp2_with (at_builtin; refine Lib.wpList_append_run _ rfl _ _ _ _ rfl _ _ rfl rfl _ _ hrun ?_)
    all_goals (go_ret; exact Hfin)

set_option maxHeartbeats 4000000 in
set_option maxRecDepth 100000 in
/-- slices.Insert of one element, in the middle, with room -/
theorem insertC_room (w : World) (g n c i : Nat) (cur : Array Value) (xs : List Value) (x : Value) (vb : Nat) (hB : Blk w g 113 cur) (hcs : c ≤ cur.size) (hxs : ∀ (j : Nat) (u : Value), xs[j]? = some u → cur[j]? = some u)
    (hn : xs.length = n) (h63 : c ≤ maxLen) (hroom : n + 1 ≤ c) (hi : i < n) (hx : Blk w vb 113 #[x]) (hx1 : x.oneCell' = true) (hxs1 : ∀ u ∈ xs, u.oneCell' = true) (hne : vb ≠ g) :
    Calls Try.prog 109 #[.slice (some ⟨g, 0, none⟩) n c, .int .i64 i, .slice (some ⟨vb, 0, none⟩) 1 1] w (InsPost w 113 (.slice (some ⟨g, 0, none⟩) n c) (xs.take i ++ x :: xs.drop i)) := by
  have h63' : c ≤ 9223372036854775807 := by unfold maxLen at h63; exact h63
  obtain ⟨i0, hi0, hz0, hzs, hzb⟩ := slTyC.info
  have hsz : (Try.prog.info? 113).map (·.size) = some 1 := by rw [hi0]; simp [hzs]
  have hsE : ∀ w, (Go.sizeOf 113).run Try.prog w = .ok 1 w := fun w => by simp [Go.sizeOf, Go.typeInfo, hi0, hzs]
  have hdl : (xs.drop i).length = n - i := by rw [List.length_drop, hn]
  have hcell : ∀ (j : Nat) (u : Value), xs[j]? = some u → w.cell? ⟨g, j, none⟩ = some u := fun j u hj => (hB.cell j).trans (hxs j u hj)
  have hsome : ∀ j, j < c → (w.cell? ⟨g, j, none⟩).isSome = true := fun j hj => by rw [hB.cell, Array.getElem?_eq_getElem (by omega)]; rfl
  have hov : ∀ lb cb, (callFunc 120 #[.slice (some ⟨vb, 0, none⟩) 1 1, .slice (some ⟨g, i + 1, none⟩) lb cb]).run Try.prog w = .ok (.value (.bool false)) w := fun lb cb => by
    rw [run_callFunc_extern Try.func120 (by kernel_rfl) (by kernel_rfl) (by kernel_rfl) (e := Extern.SlicesOverlaps.overlaps #[141, 141] #[4]) (by kernel_rfl),
      Lib.run_overlaps_apart w 141 4 113 Try.underlying141 1 hsE ⟨vb, 0, none⟩ ⟨g, i + 1, none⟩ 1 1 lb cb hne 113 113 1 cur.size (by unfold Blk at hx; simp [World.shape?, hx]) (by unfold Blk at hB; simp [World.shape?, hB]) (by omega) (hx.frozen 0) (hx.frozen 1)]
    rfl
  have hcp1 : ∀ ty dc sc, (Builtin.copy_ #[141, 141] ty #[.slice (some ⟨g, i + 1, none⟩) (n - i) dc, .slice (some ⟨g, i, none⟩) (n + 1 - i) sc]).run Try.prog w.drew = .ok (goInt (xs.drop i).length) (w.drew.setCells g (i + 1) (xs.drop i)) := fun ty dc sc =>
    run_copy_cells w.drew _ _ ty 113 g (i + 1) (n - i) dc ⟨g, i, none⟩ (n + 1 - i) sc (xs.drop i) Try.underlying141 hsz (by rw [hdl]; simp only [Nat.min_def]; split <;> omega)
      (fun j v hj => by rw [Addr.add_lit]; exact hcell (i + j) v (by rwa [List.getElem?_drop] at hj))
      (fun j hj => hsome _ (by omega)) (fun j hj => hB.frozen _) (fun v hv => hxs1 v (List.mem_of_mem_drop hv))
  obtain ⟨c1, b1, s1, l1, m1, r1⟩ := (hB.drew).setCells (xs.drop i) (i + 1) _ cur (by rw [hdl]; omega)
  have hx' : Blk (w.drew.setCells g (i + 1) (xs.drop i)) vb 113 #[x] := hx.chg (Chg.setCells (L := [g]) (.inl (by simp)) _ _ _ (Chg.refl _ w).drew) (by simpa using hne)
  obtain ⟨W1, hW1⟩ : ∃ W1, W1 = w.drew.setCells g (i + 1) (xs.drop i) := ⟨_, rfl⟩
  have hcp2 : ∀ ty dc, (Builtin.copy_ #[141, 141] ty #[.slice (some ⟨g, i, none⟩) (n + 1 - i) dc, .slice (some ⟨vb, 0, none⟩) 1 1]).run Try.prog W1 = .ok (goInt [x].length) (W1.setCells g i [x]) := fun ty dc =>
    run_copy_cells W1 _ _ ty 113 g i (n + 1 - i) dc ⟨vb, 0, none⟩ 1 1 [x] Try.underlying141 hsz (by simp only [Nat.min_def, List.length_singleton]; split <;> omega)
      (fun j v hj => by
        cases j with
        | zero => rw [add_lit0, hW1]; exact (hx'.cell 0).trans (by simpa using hj)
        | succ j => simp at hj)
      (fun j hj => by rw [hW1, b1.cell, Array.getElem?_eq_getElem (by simp at hj; omega)]; rfl) (fun j hj => by rw [hW1]; exact b1.frozen _) (by simpa using hx1)
  have Hfin : Hid (InsPost w 113 (.slice (some ⟨g, 0, none⟩) n c) (xs.take i ++ x :: xs.drop i) (.returned (.slice (some ⟨g, 0, none⟩) (n + 1) c)) (W1.setCells g i [x])) := by
    refine ⟨_, rfl, ?_, ?_, .inl rfl⟩
    · rw [hW1, ← hn]; exact Row.shift (w := w.drew) hB.drew hcs hxs (by omega) h63 (by omega)
    · rw [hW1]; exact Chg.setCells (.inl (by simp)) _ _ _ (Chg.setCells (.inl (by simp)) _ _ _ (Chg.refl _ w).drew)
  rw [← hW1] at hcp1
  clear hW1 hx' b1 s1 l1 m1 r1 hcell hsome hdl hsE hsz hB hx hxs hcs hxs1 hn hi0 hz0 hzs hzb
  have hw1 : IntKind.i64.wrap ((i : Int) + 1) = (i : Int) + 1 := by rw [IntKind.wrap_i64]; omega
  have hb1 : (0 : Int) ≤ (i : Int) + 1 := by omega
  have hin : i ≤ n := by omega
  have htn : ((i : Int) + 1).toNat = i + 1 := by omega
  have hb2 : ¬ (c = i + 1) := by omega
  have hb3 : (i : Int) ≤ (n : Int) + 1 := by omega
  have hb4 : ¬ (c = i) := by omega
  have hz2 : ¬ ((i : Int) = (n : Int)) := by omega
  go_enter Try.func109, Try.ntmps109
  go_wp2_with (simp only [hov])
  go_region_law (refine step_copy_runI rfl _ _ 141 141 rfl _ _ (by simp [Act.eval, Act.put]) (by simp [Act.eval, Act.put]) (hcp1 _ _ _) ?_)
  go_wp2_with (at_builtin; refine wpList_copy_runI _ rfl _ _ 141 141 rfl _ _ rfl rfl (hcp2 _ _) ?_)
  go_ret
  exact Hfin

set_option maxHeartbeats 4000000 in
set_option maxRecDepth 100000 in
/-- slices.Insert of one element, in the middle, without room: a new row -/
theorem insertC_grow (w : World) (g n c i : Nat) (cur : Array Value) (xs : List Value) (x : Value) (vb : Nat) (hB : Blk w g 113 cur) (_hcs : c ≤ cur.size) (hxs : ∀ (j : Nat) (u : Value), xs[j]? = some u → cur[j]? = some u)
    (hn : xs.length = n) (hnc : n ≤ c) (hn64 : n ≤ 64) (hroom : c < n + 1) (hi : i < n) (hx : Blk w vb 113 #[x]) (hx1 : x.oneCell' = true) (hxs1 : ∀ u ∈ xs, u.oneCell' = true) :
    Calls Try.prog 109 #[.slice (some ⟨g, 0, none⟩) n c, .int .i64 i, .slice (some ⟨vb, 0, none⟩) 1 1] w (InsPost w 113 (.slice (some ⟨g, 0, none⟩) n c) (xs.take i ++ x :: xs.drop i)) := by
  obtain rfl : c = n := by omega
  obtain ⟨i0, hi0, hz0, hzs, hzb⟩ := slTyC.info
  have hsz : (Try.prog.info? 113).map (·.size) = some 1 := by rw [hi0]; simp [hzs]
  have hdl : (xs.drop i).length = c - i := by rw [List.length_drop, hn]
  have hcell : ∀ (j : Nat) (u : Value), xs[j]? = some u → w.cell? ⟨g, j, none⟩ = some u := fun j u hj => (hB.cell j).trans (hxs j u hj)
  have hkk : (c : Int) + 1 - (i : Int) = ((c + 1 - i : Nat) : Int) := by omega
  have hik : i + (c + 1 - i) = c + 1 := by omega
  have hold : (Builtin.firstCells i0.size i (.slice (some ⟨g, 0, none⟩) i c)).run Try.prog w.drew = .ok (xs.take i).toArray w.drew := by
    rw [hzs]
    exact run_firstCells_some w.drew 1 i ⟨g, 0, none⟩ i c (xs.take i) (by rw [List.length_take]; omega) (fun j v hj => by
      rw [add_lit0]
      rw [List.getElem?_take] at hj
      split at hj
      · exact hcell j v hj
      · cases hj)
  have hrz : ∀ ty, (Builtin.append_ #[141, 3] ty #[.slice (some ⟨g, 0, none⟩) i c, .int .i64 ((c : Int) + 1 - (i : Int))]).run Try.prog w =
      .ok (.slice (some ⟨w.heap.size, 0, none⟩) (c + 1) (grownCap w (c + 1) c 113)) (w.drew.alloc (.cells ((xs.take i).toArray ++ Builtin.zeroCells (Value.slice none 0 0 : Value).cells (c + 1 - i) ++ Builtin.zeroCells (Value.slice none 0 0 : Value).cells (grownCap w (c + 1) c 113 - (c + 1))) 113)) := fun ty => by
    have h := Lib.run_append_grow_zeros w 141 3 ty 113 i0 _ .i64 .i64 Try.underlying141 Try.underlying3 hi0 hz0 (some ⟨g, 0, none⟩) i c (xs.take i) hold (c + 1 - i) (by omega) (by omega) (by omega) (by omega) (by rw [hzb]; omega) (by rw [hzb, hik]; exact growslice_fits hroom (by omega))
    rw [hik] at h
    rw [hkk]
    exact h
  have hGn : c + 1 ≤ grownCap w (c + 1) c 113 := grownCap_ge w _ _ _
  have hGm : grownCap w (c + 1) c 113 ≤ maxLen := grownCap_le_maxLen w (c + 1) c 113 (by unfold maxLen; omega)
  have hG63 : grownCap w (c + 1) c 113 ≤ 9223372036854775807 := by unfold maxLen at hGm; exact hGm
  generalize grownCap w (c + 1) c 113 = G at hrz hGn hGm hG63
  obtain ⟨ROW, hROW⟩ : ∃ ROW : Array Value, ROW = (xs.take i).toArray ++ Builtin.zeroCells (Value.slice none 0 0 : Value).cells (c + 1 - i) ++ Builtin.zeroCells (Value.slice none 0 0 : Value).cells (G - (c + 1)) := ⟨_, rfl⟩
  rw [← hROW] at hrz
  have hRl : G ≤ ROW.size := by
    rw [hROW]
    simp [Builtin.zeroCells, Value.cells]
    omega
  have hRh : ∀ (j : Nat) (u : Value), j < i → xs[j]? = some u → ROW[j]? = some u := fun j u hj hu => by
    rw [hROW, Array.append_assoc, Array.getElem?_append_left (by simp; omega)]
    simp only [List.getElem?_toArray]
    rw [List.getElem?_take_of_lt hj]; exact hu
  clear hROW
  obtain ⟨W1, hW1⟩ : ∃ W1, W1 = w.drew.alloc (.cells ROW 113) := ⟨_, rfl⟩
  rw [← hW1] at hrz
  have hN : Blk W1 w.heap.size 113 ROW := by rw [hW1]; exact Blk.new w.drew 113 ROW
  have hB1 : Blk W1 g 113 cur := by rw [hW1]; exact hB.drew.alloc _
  have hx1' : Blk W1 vb 113 #[x] := by rw [hW1]; exact hx.drew.alloc _
  have hgN : g ≠ w.heap.size := Nat.ne_of_lt hB.lt
  have hvN : vb ≠ w.heap.size := Nat.ne_of_lt hx.lt
  obtain ⟨c1, b1, s1, l1, m1, r1⟩ := hN.setCells [x] i _ ROW (by simp; omega)
  obtain ⟨W2, hW2⟩ : ∃ W2, W2 = W1.setCells w.heap.size i [x] := ⟨_, rfl⟩
  have hB2 : Blk W2 g 113 cur := by rw [hW2]; exact hB1.chg (Chg.setCells (L := [w.heap.size]) (.inl (by simp)) _ _ _ (Chg.refl _ W1)) (by simpa using hgN)
  have hcpA : ∀ ty dc, (Builtin.copy_ #[141, 141] ty #[.slice (some ⟨w.heap.size, i, none⟩) (c + 1 - i) dc, .slice (some ⟨vb, 0, none⟩) 1 1]).run Try.prog W1 = .ok (goInt [x].length) W2 := fun ty dc => by
    rw [hW2]
    exact run_copy_cells W1 _ _ ty 113 w.heap.size i (c + 1 - i) dc ⟨vb, 0, none⟩ 1 1 [x] Try.underlying141 hsz (by simp only [Nat.min_def, List.length_singleton]; split <;> omega)
      (fun j v hj => by
        cases j with
        | zero => rw [add_lit0]; exact (hx1'.cell 0).trans (by simpa using hj)
        | succ j => simp at hj)
      (fun j hj => by rw [hN.cell, Array.getElem?_eq_getElem (by simp at hj; omega)]; rfl) (fun j hj => hN.frozen _) (by simpa using hx1)
  rw [← hW2] at b1
  have hcpB : ∀ (W : World), W.heap = W2.heap → ∀ ty dc sc, (Builtin.copy_ #[141, 141] ty #[.slice (some ⟨w.heap.size, i + 1, none⟩) (c - i) dc, .slice (some ⟨g, i, none⟩) (c - i) sc]).run Try.prog W = .ok (goInt (xs.drop i).length) (W.setCells w.heap.size (i + 1) (xs.drop i)) := fun W hW ty dc sc => by
    have hBW : Blk W g 113 cur := by unfold Blk; rw [hW]; exact hB2
    have hNW : Blk W w.heap.size 113 c1 := by unfold Blk; rw [hW]; exact b1
    exact run_copy_cells W _ _ ty 113 w.heap.size (i + 1) (c - i) dc ⟨g, i, none⟩ (c - i) sc (xs.drop i) Try.underlying141 hsz (by rw [hdl]; simp only [Nat.min_def]; split <;> omega)
      (fun j v hj => by
        rw [Addr.add_lit]
        rw [List.getElem?_drop] at hj
        exact (hBW.cell _).trans (hxs _ v hj))
      (fun j hj => by rw [hNW.cell, Array.getElem?_eq_getElem (by omega)]; rfl)
      (fun j hj => hNW.frozen _) (fun v hv => hxs1 v (List.mem_of_mem_drop hv))
  have hB3 : ∀ ty dc sc, (Builtin.copy_ #[141, 141] ty #[.slice (some ⟨w.heap.size, i + 1, none⟩) (c - i) dc, .slice (some ⟨g, i, none⟩) (c - i) sc]).run Try.prog W2.drew = .ok (goInt (xs.drop i).length) (W2.drew.setCells w.heap.size (i + 1) (xs.drop i)) := fun ty dc sc => hcpB W2.drew rfl ty dc sc
  have Hfin : Hid (InsPost w 113 (.slice (some ⟨g, 0, none⟩) c c) (xs.take i ++ x :: xs.drop i) (.returned (.slice (some ⟨w.heap.size, 0, none⟩) (c + 1) G)) (W2.drew.setCells w.heap.size (i + 1) (xs.drop i))) := by
    refine ⟨_, rfl, ?_, ?_, .inr ⟨_, rfl, Nat.le_refl _⟩⟩
    · rw [← hn]; exact Row.laid (w := W1) hN hRl hRh (by omega) hGm (by omega) hW2 rfl
    · refine Chg.setCells (.inr (Nat.le_refl _)) _ _ _ ?_
      rw [hW2, hW1]
      exact (Chg.setCells (.inr (Nat.le_refl _)) _ _ _ ((Chg.refl _ w).drew.alloc _)).drew
  clear hW2 hW1 hcpB hB2 hB1 hx1' hN hRh hRl b1 s1 l1 m1 r1 hcell hsz hdl hB hx hxs _hcs hxs1 hn hi0 hz0 hzs hzb hold hkk hik hGm
  generalize w.heap.size = N at *
  have hw1 : IntKind.i64.wrap ((i : Int) + 1) = (i : Int) + 1 := by rw [IntKind.wrap_i64]; omega
  have hb1 : (0 : Int) ≤ (i : Int) + 1 := by omega
  have hin : i ≤ c := by omega
  have htn : ((i : Int) + 1).toNat = i + 1 := by omega
  have hz2 : ¬ ((i : Int) = (c : Int)) := by omega
  have hGi : ¬ (G = i) := by omega
  have hGim : ¬ (G = i + 1) := by omega
  have hci : ¬ (c = i) := by omega
  go_enter Try.func109, Try.ntmps109
  go_wp2_with (first
    | (at_builtin; refine Lib.wpList_append_run _ rfl _ _ _ _ rfl _ _ rfl rfl _ _ (hrz _) ?_)
    | (at_builtin; refine wpList_copy_runI _ rfl _ _ 141 141 rfl _ _ rfl rfl (hcpA _ _) ?_))
  go_region_law (refine step_copy_runI rfl _ _ 141 141 rfl _ _ (by simp [Act.eval, Act.put]) (by simp [Act.eval, Act.put]) (hB3 _ _ _) ?_)
  go_wp2
  go_ret
  exact Hfin

/-- slices.Insert of one element, wherever -/
theorem insertC (w : World) (v : Value) (xs : List Value) (x : Value) (vb i : Nat) (hr : Row w 113 v xs) (hlen : xs.length ≤ 64) (hi : i ≤ xs.length) (hx : Blk w vb 113 #[x]) (hx1 : x.oneCell' = true) (hxs1 : ∀ u ∈ xs, u.oneCell' = true) (hne : vb ∉ ob v) :
    Calls Try.prog 109 #[v, .int .i64 i, .slice (some ⟨vb, 0, none⟩) 1 1] w (InsPost w 113 v (xs.take i ++ x :: xs.drop i)) := by
  rcases Nat.eq_or_lt_of_le hi with rfl | hlt
  · have := insertC_end w v xs x vb hr hlen hx hx1
    simpa using this
  · obtain ⟨A, c, rfl, h1, h2, h⟩ := hr
    rcases h with ⟨rfl, rfl⟩ | ⟨g, cur, rfl, hB, hcs, hxs⟩
    · omega
    · by_cases hroom : xs.length + 1 ≤ c
      · exact insertC_room w g xs.length c i cur xs x vb hB hcs hxs rfl h2 hroom hlt hx hx1 hxs1 (by simpa using hne)
      · exact insertC_grow w g xs.length c i cur xs x vb hB hcs hxs rfl h1 hlen (by omega) hlt hx hx1 hxs1

set_option maxHeartbeats 4000000 in
set_option maxRecDepth 100000 in
/-- slices.Clone of a slice with an element, wherever it lies -/
theorem cloneC (w : World) (a : Addr) (n c : Nat) (xs : List Value) (hn : xs.length = n) (h0 : 0 < n) (hlen : n ≤ 64) (hxs : ∀ (j : Nat) (u : Value), xs[j]? = some u → w.cell? (a.add j) = some u) (hxs1 : ∀ u ∈ xs, u.oneCell' = true) :
    Calls Try.prog 107 #[.slice (some a) n c] w (ClonePost w 113 xs) := by
  have hlt : a.block < w.heap.size := by
    have := World.block_lt_of_cell? w _ (hxs 0 _ (List.getElem?_eq_getElem (by omega)))
    unfold Addr.add at this
    simpa using this
  have hr0 : Row (w.alloc (.cells #[] 113)) 113 (.slice (some ⟨w.heap.size, 0, none⟩) 0 0) [] := ⟨_, 0, rfl, Nat.le_refl _, Nat.zero_le _, .inr ⟨w.heap.size, #[], rfl, Blk.new w 113 #[], Nat.zero_le _, fun j u h => by simp at h⟩⟩
  obtain ⟨v', w', hrun, hrow, hchg, hown⟩ := run_append_row slTyC 141 hr0 a n c xs hn (fun j u hj => by
    rw [World.cell?_alloc_lt _ _ _ (by rw [show (a.add j).block = a.block by unfold Addr.add; split <;> rfl]; exact hlt)]; exact hxs j u hj) hxs1 h0 (by simp; omega)
  have Hfin : Hid (ClonePost w 113 xs (.returned v') w') := by
    refine ⟨v', rfl, by simpa using hrow, ?_, ?_⟩
    · exact ((Chg.refl [] w).alloc _ |>.trans hchg (fun x hx => .inr (by simp at hx; omega))).below (by simp) (Nat.le_refl _)
    · intro k hk
      rcases hown with h | ⟨q, h, hq⟩
      · rw [h] at hk; simp at hk; omega
      · rw [h] at hk; simp at hk hq; omega
  have hnil : ∀ ty : TypeId, (binOp .eql 141 (.slice (some a) n c) (.slice none 0 0)).run Try.prog w = .ok (.bool false) w := fun _ => by
    rw [Lib.run_eql_slice_nil w 141 113 (some a) n c 0 0 Try.underlying141]; rfl
  clear hr0 hrow hchg hown hxs hxs1 hn hlen hlt
  have hnil' := hnil 0
  clear hnil
  go_enter Try.func107, Try.ntmps107
  go_wp2_with (at_builtin; refine Lib.wpList_append_run _ rfl _ _ _ _ rfl _ _ rfl rfl _ _ hrun ?_)
  go_ret
  exact Hfin

end Go.Proofs.Ytcidmaeclonilaa
