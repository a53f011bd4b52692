/- Cells of a node's slices, for the pieces of drop. -/
import Derived.Test.YtcidmaeclonilaaNds
namespace Go.Proofs.Ytcidmaeclonilaa
open Go Go.RowKit

theorem Row.frozen_ {w : World} {e : TypeId} {g n c : Nat} {xs : List Value} (h : Row w e (.slice (some ⟨g, 0, none⟩) n c) xs) (j : Nat) : w.frozen? ⟨g, j, none⟩ = false := by
  obtain ⟨A, c', he, _, _, hh⟩ := h
  injection he with e1 _ _
  subst e1
  rcases hh with ⟨h, _⟩ | ⟨g', cur, h', hB, _, _⟩
  · cases h
  · injection h' with h'; injection h' with h'; subst h'
    exact hB.frozen j
theorem NodR.ccell {T : Tys} {W : World} {b g n c : Nat} {kv vv : Value} {ks vs ps : List Value} (H : NodR T W ⟨b, kv, vv, .slice (some ⟨g, 0, none⟩) n c, ks, vs, ps⟩) {j : Nat} {u : Value} (h : ps[j]? = some u) : W.cell? ⟨g, j, none⟩ = some u := by
  obtain ⟨A, c', he, _, _, hh⟩ := H.cr
  injection he with e1 _ _
  subst e1
  rcases hh with ⟨h, _⟩ | ⟨g', cur, h', hB, _, hxs⟩
  · cases h
  · injection h' with h'; injection h' with h'; subst h'
    exact (hB.cell j).trans (hxs j u h)

end Go.Proofs.Ytcidmaeclonilaa
