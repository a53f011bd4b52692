/- A tree of the call's own beside a list of pairs and an act in a box. -/
import Derived.Test.YtcidmaeclonilaaRefV
namespace Go.Proofs.Ytcidmaeclonilaa
open Go Go.RowKit

theorem OwnR.weak {W : World} {base base' : Nat} {A : Option Addr} {n c : Nat} {l : List KV} (H : OwnR W base A n c l) (hb : base' ≤ base) : OwnR W base' A n c l := by
  refine ⟨H.len, H.row.1, ?_⟩
  rcases H.row.2 with h | ⟨g, cap, cur, he, hbg, rest⟩
  · exact .inl h
  · exact .inr ⟨g, cap, cur, he, Nat.le_trans hb hbg, rest⟩
theorem OwnR.chg {W W' : World} {base : Nat} {A : Option Addr} {n c : Nat} {l : List KV} {L : List Nat} (H : OwnR W base A n c l) (hb : Chg L W W') (hL : ∀ k, Value.ownBlock (.slice A n c) = some k → k ∉ L) : OwnR W' base A n c l := by
  refine ⟨H.len, H.row.1, ?_⟩
  rcases H.row.2 with h | ⟨g, cap, cur, he, hbg, hg, rest⟩
  · exact .inl h
  · exact .inr ⟨g, cap, cur, he, hbg, (hb.block g (Array.getElem?_eq_some_iff.1 hg).1 (hL g (by rw [he]; rfl))).trans hg, rest⟩
/-- a tree, a list, a box: apart -/
def TL (w0 w : World) (a : Nat) (l : List KV) (A : Option Addr) (n c : Nat) (r : List KV) (X : List Nat) : Prop :=
  ∃ L, IsTreeS w a l L ∧ (∀ k ∈ L, w0.heap.size ≤ k) ∧ Below w0.heap.size w0 w ∧ OwnR w w0.heap.size A n c r ∧ (∀ k, Value.ownBlock (.slice A n c) = some k → k ∉ L) ∧ (∀ k ∈ X, k < w.heap.size ∧ k ∉ L)
section
variable {w0 w : World} {a : Nat} {l r : List KV} {A : Option Addr} {n c : Nat} {X : List Nat}
theorem TL.tree (H : TL w0 w a l A n c r X) : TOwnS w0 w a l := by obtain ⟨L, h1, h2, h3, -⟩ := H; exact ⟨L, h1, h2, h3⟩
theorem TL.list (H : TL w0 w a l A n c r X) : OwnR w w0.heap.size A n c r := by obtain ⟨L, h1, h2, h3, h4, -⟩ := H; exact h4
theorem TL.world (H : TL w0 w a l A n c r X) : Below w0.heap.size w0 w := H.tree.world
theorem TL.below (H : TL w0 w a l A n c r X) {w' : World} (hb : Below w.heap.size w w') : TL w0 w' a l A n c r X := by
  obtain ⟨L, h1, h2, h3, h4, h5, h6⟩ := H
  exact ⟨L, h1.below hb, h2, h3.trans (hb.mono h3.size), h4.kept hb, h5, fun k hk => ⟨Nat.lt_of_lt_of_le (h6 k hk).1 hb.size, (h6 k hk).2⟩⟩
theorem TL.less (H : TL w0 w a l A n c r X) {Y : List Nat} (h : ∀ k ∈ Y, k ∈ X) : TL w0 w a l A n c r Y := by
  obtain ⟨L, h1, h2, h3, h4, h5, h6⟩ := H
  exact ⟨L, h1, h2, h3, h4, h5, fun k hk => h6 k (h k hk)⟩
theorem TL.box (H : TL w0 w a l A n c r X) {w' : World} (hb : Below w.heap.size w w') (hlt : w.heap.size < w'.heap.size) : TL w0 w' a l A n c r (w.heap.size :: X) := by
  have hlt' : ∀ L, IsTreeS w a l L → w.heap.size ∉ L := fun L h hm => by have := h.lt _ hm; omega
  have H' := H.below hb
  obtain ⟨L, h1, h2, h3, h4, h5, h6⟩ := H
  exact ⟨L, h1.below hb, h2, h3.trans (hb.mono h3.size), h4.kept hb, h5, fun k hk => by
    rcases List.mem_cons.1 hk with rfl | hk
    · exact ⟨hlt, hlt' L h1⟩
    · exact ⟨Nat.lt_of_lt_of_le (h6 k hk).1 hb.size, (h6 k hk).2⟩⟩
theorem TL.start {w' : World} (H : TOwnS w w' a []) : TL w w' a [] none 0 0 [] [] := by
  obtain ⟨L, h1, h2, h3⟩ := H
  exact ⟨L, h1, h2, h3, OwnR.nil _ _, fun k hk => by simp [Value.ownBlock] at hk, fun k hk => by cases hk⟩
/-- the blocks of X keep -/
def Kept (X : List Nat) (w w' : World) : Prop := ∀ k ∈ X, w'.heap[k]? = w.heap[k]?
theorem tl_change {w' : World} {l' : List KV} {L : List Nat} (_ : IsTreeS w a l L) (h2 : ∀ k ∈ L, w0.heap.size ≤ k) (h3 : Below w0.heap.size w0 w) (h4 : OwnR w w0.heap.size A n c r) (h5 : ∀ k, Value.ownBlock (.slice A n c) = some k → k ∉ L) (h6 : ∀ k ∈ X, k < w.heap.size ∧ k ∉ L)
    {L' : List Nat} (q1 : IsTreeS w' a l' L') (q2 : Chg L w w') (q3 : Sub w L' L) : TL w0 w' a l' A n c r X ∧ Kept X w w' :=
  ⟨⟨L', q1, fun k hk => (q3 k hk).elim (h2 k) (fun x => Nat.le_trans h3.size x), h3.trans (q2.below h2 h3.size), h4.chg q2 h5, fun k hk hm => (q3 k hm).elim (h5 k hk) (fun x => by have := (h4.row.lt k hk).2; omega), fun k hk => ⟨Nat.lt_of_lt_of_le (h6 k hk).1 q2.size, fun hm => (q3 k hm).elim (h6 k hk).2 (fun x => by have := (h6 k hk).1; omega)⟩⟩,
    fun k hk => q2.block k (h6 k hk).1 (h6 k hk).2⟩
theorem put_tl (H : TL w0 w a l A n c r X) (key z3 : ByteArray) (hlen : l.length ≤ 1000000) :
    Calls Try.prog 26 #[.pointer (some ⟨a, 0, none⟩), .string key, .string z3] w fun e w' => e = .returned (.tuple #[(look key l).getD (Value.string ⟨#[]⟩), .bool (look key l).isSome]) ∧ Hid (TL w0 w' a (ins key (.string z3) l) A n c r X ∧ Kept X w w') := by
  obtain ⟨L, h1, h2, h3, h4, h5, h6⟩ := H
  refine (tputS w a l L key z3 h1 hlen).mono ?_
  rintro e w' ⟨L', q1, q2, q3, q4⟩
  exact ⟨q4, Lib.hid (tl_change h1 h2 h3 h4 h5 h6 q1 q2 q3)⟩
theorem drop_tl (H : TL w0 w a l A n c r X) (key : ByteArray) (hlen : l.length ≤ 1000000) :
    Calls Try.prog 42 #[.pointer (some ⟨a, 0, none⟩), .string key] w fun e w' => e = .returned (.tuple #[(look key l).getD (Value.string ⟨#[]⟩), .bool (look key l).isSome]) ∧ Hid (TL w0 w' a (del key l) A n c r X ∧ Kept X w w') := by
  obtain ⟨L, h1, h2, h3, h4, h5, h6⟩ := H
  refine (tdropS w a l L key h1 hlen).mono ?_
  rintro e w' ⟨L', q1, q2, q3, q4⟩
  exact ⟨q4, Lib.hid (tl_change h1 h2 h3 h4 h5 h6 q1 q2 q3)⟩
theorem tl_list {w' : World} {A' : Option Addr} {n' c' : Nat} {r' : List KV} (H : TL w0 w a l A n c r X) (hb : Below w.heap.size w w') (own : OwnR w' w.heap.size A' n' c' r') : TL w0 w' a l A' n' c' r' X ∧ Kept X w w' := by
  have hlt : ∀ L, IsTreeS w a l L → ∀ k, w.heap.size ≤ k → k ∉ L := fun L h k hk hm => by have := h.lt _ hm; omega
  obtain ⟨L, h1, h2, h3, h4, h5, h6⟩ := H
  exact ⟨⟨L, h1.below hb, h2, h3.trans (hb.mono h3.size), own.weak h3.size, fun k hk => hlt L h1 k (own.own k hk), fun k hk => ⟨Nat.lt_of_lt_of_le (h6 k hk).1 hb.size, (h6 k hk).2⟩⟩, fun k hk => hb.block k (h6 k hk).1⟩
theorem rput_tl (H : TL w0 w a l A n c r X) (hn : n ≤ 60000) (hs : Srt r) (hv : ∀ p ∈ r, StrV p.2) (key z3 : ByteArray) :
    Calls Try.prog 46 #[.slice A n c, .string key, .string z3] w fun e w' => ∃ A' n' c', e = .returned (.tuple #[.slice A' n' c', (look key r).getD (Value.string ⟨#[]⟩), .bool (look key r).isSome]) ∧ Hid (TL w0 w' a l A' n' c' (ins key (.string z3) r) X ∧ Kept X w w') :=
  (put46 H.list hn hs hv key z3).mono fun _ _ ⟨A', n', c', he, h1, h2⟩ => ⟨A', n', c', he, Lib.hid (tl_list H h2.out h1.out)⟩
theorem rdrop_tl (H : TL w0 w a l A n c r X) (hn : n ≤ 60000) (hs : Srt r) (hv : ∀ p ∈ r, StrV p.2) (key : ByteArray) :
    Calls Try.prog 47 #[.slice A n c, .string key] w fun e w' => ∃ A' n' c', e = .returned (.tuple #[.slice A' n' c', (look key r).getD (Value.string ⟨#[]⟩), .bool (look key r).isSome]) ∧ Hid (TL w0 w' a l A' n' c' (del key r) X ∧ Kept X w w') :=
  (drop47 H.list hn hs hv key).mono fun _ w' h => by
    rcases h with ⟨A', n', c', he, h1, h2⟩ | ⟨he, h1, h2⟩
    · exact ⟨A', n', c', he, Lib.hid (tl_list H h2.out h1.out)⟩
    · have hk : Kept X w w' := by
        obtain ⟨L, -, -, -, -, -, h6⟩ := H
        exact fun k hk => h2.block k (h6 k hk).1
      exact ⟨A, n, c, he, Lib.hid ⟨by rw [h1]; exact H.below h2, hk⟩⟩
end

end Go.Proofs.Ytcidmaeclonilaa
