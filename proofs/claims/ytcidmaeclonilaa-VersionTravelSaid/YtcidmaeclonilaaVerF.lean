/- A store of one key's versions: Put. -/
import Derived.Test.YtcidmaeclonilaaVerO
import Derived.Deep.RegionHeld3
import Derived.Deep.RegionLaw
import Derived.Deep.Cut
namespace Go.Proofs.Ytcidmaeclonilaa
open Go Go.RowKit

theorem below_drew3 (w : World) : Below w.heap.size w w.drew := by have hb := Below.refl w.heap.size w; go_grown
theorem ins_one (key : ByteArray) (u : Value) (vs : List Ver) (v : Value) : ins key u (treeL key vs v) = [(key, u)] := by
  unfold treeL
  by_cases hv : vs = []
  · rw [if_pos hv]; simp [ins]
  · rw [if_neg hv]; simp [ins, klt_irrefl]
/-- the tree's Put, at the end of Store.Put -/
theorem put_fin {w0 w wP wQ : World} {s : Nat} {key : ByteArray} {vs : List Ver} {rs : List ByteArray} {a : Nat} {L : List Nat} {A : Option Addr} {n c c' g' : Nat} (h : SOat w0 w s key vs rs a L A n c) (hwP : Below w.heap.size w wP) (hPQ : Below wP.heap.size wP wQ)
    {v : Ver} (hcq : ChainAt wQ (some ⟨g', 0, none⟩) (n + 1) (vs ++ [v])) (hc1 : n + 1 ≤ c') (hg1 : wP.heap.size ≤ g') (hg2 : g' < wQ.heap.size) {row : Sl} {txt : ByteArray} (hv : v.row = row) (RB : BytesAt wP row txt) (hTX : txt.size ≤ 140737488355328) (hRN : ∀ g, row.1 = some ⟨g, 0, none⟩ → w.heap.size ≤ g) (b : Nat) (hbs : w.heap.size ≤ b) (hbQ : b < wQ.heap.size) :
    Calls Try.prog 69 #[.pointer (some ⟨a, 0, none⟩), .string key, .slice (some ⟨g', 0, none⟩) (n + 1) c'] wQ fun e w9 => ∃ b9 : Bool, e = .returned (.tuple #[(look key (treeL key vs (.slice A n c))).getD (.slice none 0 0), .bool b9]) ∧ Hid (SO w0 w9 s key (vs ++ [v]) (rs ++ [txt])) ∧ w9.heap[b]? = wQ.heap[b]? ∧ w9.heap[s]? = wQ.heap[s]? := by
  have hwQ : Below w.heap.size w wQ := hwP.trans (hPQ.mono hwP.size)
  have hL : ∀ k ∈ L, k < w.heap.size := h.tree.lt
  have hp1 := hwP.size
  have hp2 := hPQ.size
  have hne : ¬ (vs ++ [v] = []) := by simp
  refine (tputC wQ a _ L key _ _ _ (h.tree.below hwQ) (by unfold treeL; split <;> simp)).mono ?_
  rintro e w9 ⟨L', q1, q2, q3, q4⟩
  rw [ins_one] at q1
  have keep : ∀ k, w.heap.size ≤ k → k < wQ.heap.size → w9.heap[k]? = wQ.heap[k]? := fun k h1 h2 => q2.block k h2 (fun hm => by have := hL k hm; omega)
  have far : ∀ k, k < wQ.heap.size → k ∉ L → k ∉ L' := fun k h1 h2 hm => (q3 k hm).elim h2 (fun x => by omega)
  refine ⟨_, q4, Lib.hid ⟨a, L', some ⟨g', 0, none⟩, n + 1, c', ⟨by unfold treeL; rw [if_neg hne]; exact q1, fun k hk => (q3 k hk).elim (h.new_ k) (fun x => by have := h.world.size; have := hwQ.size; omega), (h.world.trans (hwQ.mono h.world.size)).trans (q2.below h.new_ (by have := h.world.size; have := hwQ.size; omega)), (q2.block s (Nat.lt_of_lt_of_le h.box.lt hwQ.size) h.sout).trans ((hwQ.block s h.box.lt).trans h.box), far s (Nat.lt_of_lt_of_le h.box.lt hwQ.size) h.sout, h.snew, ?_, hc1, fun e => (by cases e), fun e => absurd e hne, ?_, (by simp [h.rows]), ?_⟩⟩, keep b hbs hbQ, q2.block s (Nat.lt_of_lt_of_le h.box.lt hwQ.size) h.sout⟩
  · refine ⟨hcq.len, ?_⟩
    rcases hcq.form with ⟨hx, -⟩ | ⟨g, hx, hgl, hcell⟩
    · cases hx
    · have hgg : g' = g := by injection hx with hx; injection hx
      subst hgg
      exact .inr ⟨g', rfl, Nat.lt_of_lt_of_le hgl q2.size, fun j u hj => (World.cell?_of_block (keep g' (by omega) hgl)).trans (hcell j u hj)⟩
  · intro g hg
    have hgg : g' = g := by injection hg with hg; injection hg
    subst hgg
    exact far g' hg2 (fun hm => by have := hL _ hm; omega)
  · intro i v' r' h1 h2
    have old : ∀ (row' : Sl) (t : ByteArray), BytesAt wQ row' t → (∀ g, row'.1 = some ⟨g, 0, none⟩ → g ∉ L) → BytesAt w9 row' t ∧ ∀ g, row'.1 = some ⟨g, 0, none⟩ → g ∉ L' := fun row' t hb hg => by
      rcases hb.form with hf | ⟨g, e1, e2, e3⟩
      · exact ⟨⟨hb.len, hb.cap, .inl hf⟩, fun g hg' => by rw [hf.1] at hg'; cases hg'⟩
      · exact ⟨⟨hb.len, hb.cap, .inr ⟨g, e1, Nat.lt_of_lt_of_le e2 q2.size, fun j hj => (World.cell?_of_block (q2.block g e2 (hg g e1))).trans (e3 j hj)⟩⟩, fun g2 hg' => by
          have : g = g2 := by rw [e1] at hg'; injection hg' with hg'; injection hg'
          subst this
          exact far g e2 (hg g e1)⟩
    by_cases hi : i < vs.length
    · rw [List.getElem?_append_left hi] at h1
      rw [List.getElem?_append_left (by rw [h.rows]; exact hi)] at h2
      obtain ⟨x1, x2, x3⟩ := h.bytes i v' r' h1 h2
      obtain ⟨y1, y2⟩ := old _ _ (x1.below hwQ) x3
      exact ⟨y1, x2, y2⟩
    · have hi2 : i = vs.length := by
        have := (List.getElem?_eq_some_iff.1 h1).1
        simp at this; omega
      subst hi2
      rw [List.getElem?_append_right (Nat.le_refl _)] at h1
      rw [List.getElem?_append_right (by rw [h.rows]; exact Nat.le_refl _), h.rows] at h2
      obtain rfl : v = v' := by simpa using h1
      obtain rfl : txt = r' := by simpa using h2
      rw [hv]
      obtain ⟨y1, y2⟩ := old row txt (RB.below hPQ) (fun g hg hm => by have := hL _ hm; have := hRN g hg; omega)
      exact ⟨y1, hTX, y2⟩

end Go.Proofs.Ytcidmaeclonilaa
