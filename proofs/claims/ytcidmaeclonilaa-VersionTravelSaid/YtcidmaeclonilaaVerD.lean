/- Store.Versions. -/
import Derived.Test.YtcidmaeclonilaaVerC
namespace Go.Proofs.Ytcidmaeclonilaa
open Go Go.RowKit Go.Shelf

theorem sumC_nil {xs : List CK} : sumC ([] : List { x : CK // x ∈ xs }) = 0 := List.foldl_nil
theorem sumC_one {xs : List CK} (y : { x : CK // x ∈ xs }) {n : Nat} (h : y.1.2.2.1 = n) (hn : n ≤ 1000000) : sumC [y] = (n : Int) := by
  have e := sumC_snoc [] y
  rw [List.nil_append, sumC_nil, h, wz hn] at e
  exact e

set_option maxRecDepth 100000 in
set_option maxHeartbeats 2000000 in
theorem versions36 {w0 w : World} {s : Nat} {key : ByteArray} {vs : List Ver} {rs : List ByteArray} (H : SO w0 w s key vs rs) (hn : vs.length ≤ 100000) :
    Calls Try.prog 36 #[.pointer (some ⟨s, 0, none⟩)] w fun e w' => e = .returned (.int .i64 vs.length) ∧ Hid (Below w.heap.size w w') := by
  obtain ⟨a, L, A, n, c, h⟩ := H
  obtain ⟨wb, hwb⟩ : ∃ x, x = w.alloc (.cells #[.int .i64 0] 3) := ⟨_, rfl⟩
  have bb : Below w.heap.size w wb := by rw [hwb]; exact (Below.refl _ w).alloc (Nat.le_refl _) _
  have fb : Blk wb w.heap.size 3 #[.int .i64 0] := by rw [hwb]; exact Blk.new w 3 _
  obtain ⟨xs, hxs⟩ : ∃ xs, xs = (inR ⟨#[]⟩ ⟨#[]⟩ false false false false (treeL key vs (.slice A n c))).map kvC := ⟨_, rfl⟩
  have hx2 := tree_xs key vs A n c ⟨#[]⟩ ⟨#[]⟩ false false false false
  rw [← hxs] at hx2
  have hh : hasB ⟨#[]⟩ ⟨#[]⟩ false false false false key = true := by simp [hasB, loB, hiB]
  simp only [hh, Bool.true_eq_false, or_false] at hx2
  have call := all72v h bb ⟨#[]⟩ ⟨#[]⟩ false false false false (.pointer (some ⟨w.heap.size, 0, none⟩)) w.heap.size (Nat.le_refl _) fb.lt xs hxs (fun pre => .int .i64 (sumC pre)) (fun _ => true) (fun pre x W hb => by
    have h := closure74 wb W w.heap.size (sumC pre) x.1.1 x.1.2.1 x.1.2.2.1 x.1.2.2.2 hb
    rw [← sumC_snoc] at h
    exact h) ⟨by rw [sumC_nil]; exact fb.cell 0, fb.frozen 0, Chg.refl _ _⟩
  have hlen := h.chain.len
  have hn6 : n ≤ 1000000 := by omega
  have HC := Lib.hid (call.mono fun e w' hh => (show ∃ v, e = .returned v ∧ w'.cell? ⟨w.heap.size, 0, none⟩ = some (.int .i64 vs.length) ∧ Hid (Below w.heap.size w w') from by
    obtain ⟨v, pre, e1, e2, e3⟩ := hh
    refine ⟨v, e1, ?_, Lib.hid (bb.trans (e3.out.chg.below (fun k hk => by simp at hk; omega) bb.size))⟩
    rw [e3.out.cell]
    by_cases hv : vs = []
    · rw [if_pos hv] at hx2
      subst hx2
      have hp : pre = [] := by
        rcases e2 with e2 | ⟨-, e2⟩
        · exact List.map_eq_nil_iff.1 e2
        · exact List.map_eq_nil_iff.1 (List.prefix_nil.1 e2)
      rw [hp, hv, sumC_nil]; rfl
    · rw [if_neg hv] at hx2
      subst hx2
      obtain ⟨y, rfl, hy⟩ := one_pre e2
      have e4 : sumC [y] = (vs.length : Int) := by rw [hlen]; exact sumC_one y (by rw [hy]) hn6
      rw [e4]))
  have WB := Lib.hid hwb
  clear h hwb bb fb hxs hx2 call hh hlen hn6
  go_enter Try.func36, Try.ntmps36
  go_wp2_with fail
  rw [← WB.out]
  refine HC.out.mono ?_
  rintro e w1 ⟨v, rfl, c0, hb⟩
  go_wp2_with fail
  go_ret
  exact ⟨rfl, hb⟩


end Go.Proofs.Ytcidmaeclonilaa
