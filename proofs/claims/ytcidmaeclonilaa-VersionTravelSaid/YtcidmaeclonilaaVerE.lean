/- Store.Changed. -/
import Derived.Test.YtcidmaeclonilaaVerD
namespace Go.Proofs.Ytcidmaeclonilaa
open Go Go.RowKit Go.Shelf

/-- what closure 73 leaves -/
def chV {xs : List CK} (lb : Bool) : List { x : CK // x ∈ xs } → Value
  | [] => .bool false
  | _ :: _ => .bool lb
theorem chV_snoc {xs : List CK} (lb : Bool) (pre : List { x : CK // x ∈ xs }) (x : { x : CK // x ∈ xs }) : chV lb (pre ++ [x]) = .bool lb := by cases pre <;> rfl
theorem chV_bool {xs : List CK} (lb : Bool) (pre : List { x : CK // x ∈ xs }) : ∃ o, chV lb pre = .bool o := by cases pre <;> exact ⟨_, rfl⟩

set_option maxRecDepth 100000 in
set_option maxHeartbeats 2000000 in
theorem changed35 {w0 w : World} {s : Nat} {key : ByteArray} {vs : List Ver} {rs : List ByteArray} (H : SO w0 w s key vs rs) (hn : vs.length ≤ 100000) (fr tt : ByteArray) (hf ht of ot : Bool) (since : Int) :
    Calls Try.prog 35 #[.pointer (some ⟨s, 0, none⟩), .agg #[.string fr, .string tt, .bool hf, .bool ht, .bool of, .bool ot], .int .i64 since] w fun e w' => e = .returned (.bool (hasB fr tt hf ht of ot key && lastB vs since)) ∧ Hid (Below w.heap.size w w') := by
  obtain ⟨a, L, A, n, c, h⟩ := H
  obtain ⟨wb, hwb⟩ : ∃ x, x = ((w.alloc (.cells #[.string fr, .string tt, .bool hf, .bool ht, .bool of, .bool ot] 24)).alloc (.cells #[.int .i64 since] 3)).alloc (.cells #[.bool false] 4) := ⟨_, rfl⟩
  have bb : Below w.heap.size w wb := by rw [hwb]; exact (((Below.refl _ w).alloc (Nat.le_refl _) _).alloc (by simp) _).alloc (by simp; omega) _
  have sb : wb.heap.size = w.heap.size + 1 + 1 + 1 := by rw [hwb]; simp
  have f2 : Blk wb (w.heap.size + 1) 3 #[.int .i64 since] := by
    have := (Blk.new (w.alloc (.cells #[.string fr, .string tt, .bool hf, .bool ht, .bool of, .bool ot] 24)) 3 #[.int .i64 since]).alloc (.cells #[.bool false] 4)
    rw [World.size_alloc] at this
    rw [hwb]; exact this
  have f3 : Blk wb (w.heap.size + 1 + 1) 4 #[.bool false] := by
    have := Blk.new ((w.alloc (.cells #[.string fr, .string tt, .bool hf, .bool ht, .bool of, .bool ot] 24)).alloc (.cells #[.int .i64 since] 3)) 4 #[.bool false]
    rw [World.size_alloc, World.size_alloc] at this
    rw [hwb]; exact this
  obtain ⟨xs, hxs⟩ : ∃ xs, xs = (inR fr tt hf ht of ot (treeL key vs (.slice A n c))).map kvC := ⟨_, rfl⟩
  have hx2 := tree_xs key vs A n c fr tt hf ht of ot
  rw [← hxs] at hx2
  have hmem : ∀ x ∈ xs, x = (key, (A, n, c)) ∧ vs ≠ [] ∧ hasB fr tt hf ht of ot key = true := fun x hx => by
    rw [hx2] at hx
    by_cases hc : vs = [] ∨ hasB fr tt hf ht of ot key = false
    · rw [if_pos hc] at hx; cases hx
    · rw [if_neg hc] at hx
      refine ⟨by simpa using hx, fun e => hc (.inl e), ?_⟩
      cases hh : hasB fr tt hf ht of ot key
      · exact absurd (.inr hh) hc
      · rfl
  obtain ⟨lb, hlb⟩ : ∃ lb, lb = lastB vs since := ⟨_, rfl⟩
  have call := all72c h bb fr tt hf ht of ot (.pointer (some ⟨w.heap.size + 1, 0, none⟩)) (.pointer (some ⟨w.heap.size + 1 + 1, 0, none⟩)) (w.heap.size + 1 + 1) (by omega) f3.lt xs hxs (chV lb) (fun _ => !lb) (fun pre x W hb => by
    obtain ⟨hx, hv, -⟩ := hmem x.1 x.2
    obtain ⟨o, ho⟩ := chV_bool lb pre
    rw [ho] at hb
    rw [chV_snoc, hx]
    obtain ⟨m, hm⟩ : ∃ m, vs.length = m + 1 := ⟨vs.length - 1, by have := List.length_pos_iff.2 hv; omega⟩
    have hnm : n = m + 1 := by rw [← hm]; exact h.chain.len.symm
    subst hnm
    obtain ⟨v, hvm⟩ : ∃ v, vs[m]? = some v := ⟨_, List.getElem?_eq_getElem (by omega)⟩
    obtain ⟨g, e1, e2, e3, -, -⟩ := h.chain.at_ hvm
    subst e1
    have hlast : lb = decide (since < v.at_) := by
      rw [hlb]; unfold lastB
      rw [List.getLast?_eq_getElem?, hm, Nat.add_sub_cancel, hvm]
    have hg : g ≠ w.heap.size + 1 + 1 := by omega
    have c1 : W.cell? ⟨g, m * 3, none⟩ = some (.int .i64 v.at_) := (hb.chg.cell (p := ⟨g, m * 3, none⟩) (by show g < wb.heap.size; omega) (by simpa using hg)).trans ((bb.cell (p := ⟨g, m * 3, none⟩) e2).trans e3)
    have c2 : W.cell? ⟨w.heap.size + 1, 0, none⟩ = some (.int .i64 since) := (hb.chg.cell (p := ⟨w.heap.size + 1, 0, none⟩) (by show w.heap.size + 1 < wb.heap.size; omega) (by simp)).trans (f2.cell 0)
    rw [hlast]
    exact closure73 wb W (w.heap.size + 1 + 1) (w.heap.size + 1) m g c key o v.at_ since hb c2 c1 (by omega)) ⟨f3.cell 0, f3.frozen 0, Chg.refl _ _⟩
  have HC := Lib.hid (call.mono fun e w' hh => (show ∃ v, e = .returned v ∧ w'.cell? ⟨w.heap.size + 1 + 1, 0, none⟩ = some (.bool (hasB fr tt hf ht of ot key && lastB vs since)) ∧ Hid (Below w.heap.size w w') from by
    obtain ⟨v, pre, e1, e2, e3⟩ := hh
    refine ⟨v, e1, ?_, Lib.hid (bb.trans (e3.out.chg.below (fun k hk => by simp at hk; omega) bb.size))⟩
    rw [e3.out.cell]
    by_cases hc : vs = [] ∨ hasB fr tt hf ht of ot key = false
    · rw [if_pos hc] at hx2
      subst hx2
      have hp : pre = [] := by
        rcases e2 with e2 | ⟨-, e2⟩
        · exact List.map_eq_nil_iff.1 e2
        · exact List.map_eq_nil_iff.1 (List.prefix_nil.1 e2)
      rw [hp]
      rcases hc with hc | hc
      · rw [hc]; simp [chV, lastB]
      · rw [hc]; simp [chV]
    · rw [if_neg hc] at hx2
      subst hx2
      obtain ⟨y, rfl, hy⟩ := one_pre e2
      have hh := (hmem _ (by simp : (key, (A, n, c)) ∈ [(key, (A, n, c))])).2.2
      rw [hh, ← hlb]; simp [chV]))
  have WB := Lib.hid hwb
  clear h hwb bb f2 f3 hxs hx2 call hmem hlb sb
  generalize (hasB fr tt hf ht of ot key && lastB vs since) = rb at *
  go_enter Try.func35, Try.ntmps35
  go_wp2_with fail
  rw [← WB.out]
  refine HC.out.mono ?_
  rintro e w1 ⟨v, rfl, c0, hb⟩
  go_wp2_with fail
  go_ret
  exact ⟨rfl, hb⟩

end Go.Proofs.Ytcidmaeclonilaa
