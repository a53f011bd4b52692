/- What the tree's nodes and slices are in memory, and what keeps them: no program in sight. -/
import Derived.Test.YtcidmaeclonilaaPure
import Derived.WalkKit
import Derived.Lib.AppendZerosOnto
import Derived.Lib.SliceRun
import Derived.Laws.IdiomCopy
import Derived.Deep.Draws
namespace Go.Proofs.Ytcidmaeclonilaa
open Go Go.RowKit

/-! ### what a piece of work may change -/
/-- of what was there, only blocks of L may have changed -/
structure Chg (L : List Nat) (w w' : World) : Prop where
  os : w'.os = w.os
  tape : w'.tape = w.tape
  output : w'.output = w.output
  size : w.heap.size ≤ w'.heap.size
  block : ∀ k, k < w.heap.size → k ∉ L → w'.heap[k]? = w.heap[k]?

section
variable {L M : List Nat} {a w w' w'' : World}
theorem Chg.refl (L : List Nat) (w : World) : Chg L w w := ⟨rfl, rfl, rfl, Nat.le_refl _, fun _ _ _ => rfl⟩
theorem Chg.trans (h : Chg L w w') (k : Chg M w' w'') (hM : ∀ x, x ∈ M → x ∈ L ∨ w.heap.size ≤ x) : Chg L w w'' :=
  ⟨k.os.trans h.os, k.tape.trans h.tape, k.output.trans h.output, Nat.le_trans h.size k.size, fun x hx hn =>
    (k.block x (Nat.lt_of_lt_of_le hx h.size) (fun hm => (hM x hm).elim hn (fun hh => by omega))).trans (h.block x hx hn)⟩
theorem Chg.mono (h : Chg L w w') (hL : ∀ x, x ∈ L → x ∈ M ∨ w.heap.size ≤ x) : Chg M w w' :=
  ⟨h.os, h.tape, h.output, h.size, fun x hx hn => h.block x hx (fun hm => (hL x hm).elim hn (fun hh => by omega))⟩
theorem Chg.drewN (h : Chg L a w) (n : Nat) : Chg L a (w.drewN n) := ⟨h.os, h.tape, h.output, h.size, h.block⟩
theorem Chg.drew (h : Chg L a w) : Chg L a w.drew := ⟨h.os, h.tape, h.output, h.size, h.block⟩
theorem Chg.alloc (h : Chg L a w) (o : Obj) : Chg L a (w.alloc o) :=
  ⟨h.os, h.tape, h.output, Nat.le_trans h.size (by simp), fun k hk hn => (Below.heap_alloc w o k (Nat.lt_of_lt_of_le hk h.size)).trans (h.block k hk hn)⟩
theorem Chg.setCell (h : Chg L a w) {p : Addr} (hp : p.block ∈ L ∨ a.heap.size ≤ p.block) (u : Value) : Chg L a (w.setCell p u) :=
  ⟨h.os, h.tape, h.output, by simpa [World.setCell] using h.size, fun k hk hn => (Below.heap_setCell w p u k (by
    rintro rfl; rcases hp with hp | hp
    · exact hn hp
    · omega)).trans (h.block k hk hn)⟩
theorem Chg.of_below (h : Below w.heap.size w w') : Chg L w w' := ⟨h.os, h.tape, h.output, h.size, fun k hk _ => h.block k hk⟩
theorem Chg.below {B : Nat} (h : Chg L w w') (hB : ∀ x ∈ L, B ≤ x) (hs : B ≤ w.heap.size) : Below B w w' :=
  ⟨h.os, h.tape, h.output, h.size, fun k hk => h.block k (by omega) (fun hm => by have := hB k hm; omega)⟩
theorem Chg.of_grown {v : Value} (h : w.grownBy w' v.ownBlock) : Chg v.ownBlock.toList w w' :=
  ⟨h.os, h.tape, h.output, h.size, fun k hk hn => h.block k hk (fun e => hn (by rw [← e]; simp))⟩
theorem Chg.cell (h : Chg L w w') {p : Addr} (hp : p.block < w.heap.size) (hn : p.block ∉ L) : w'.cell? p = w.cell? p := World.cell?_of_block (h.block p.block hp hn)
theorem Chg.frozen (h : Chg L w w') {p : Addr} (hp : p.block < w.heap.size) (hn : p.block ∉ L) : w'.frozen? p = w.frozen? p := World.frozen?_of_block (h.block p.block hp hn)
end

/-! ### a block known whole -/
def Blk (w : World) (g : Nat) (t : TypeId) (cs : Array Value) : Prop := w.heap[g]? = some (.cells cs t (0, 0))
section
variable {w w' : World} {g : Nat} {t : TypeId} {cs : Array Value}
theorem Blk.lt (h : Blk w g t cs) : g < w.heap.size := (Array.getElem?_eq_some_iff.1 h).1
theorem Blk.cell (h : Blk w g t cs) (i : Nat) : w.cell? ⟨g, i, none⟩ = cs[i]? := cell_of_row w g i cs t (0, 0) h
theorem Blk.frozen (h : Blk w g t cs) (i : Nat) : w.frozen? ⟨g, i, none⟩ = false := by
  unfold Blk at h
  simp [World.frozen?, h]
theorem Blk.new (w : World) (t : TypeId) (cs : Array Value) : Blk (w.alloc (.cells cs t)) w.heap.size t cs := heap_alloc_new w _
theorem Blk.drew (h : Blk w g t cs) : Blk w.drew g t cs := h
theorem Blk.drewN (h : Blk w g t cs) (n : Nat) : Blk (w.drewN n) g t cs := h
theorem Blk.alloc (h : Blk w g t cs) (o : Obj) : Blk (w.alloc o) g t cs := (Below.heap_alloc w o g h.lt).trans h
theorem Blk.set_ (h : Blk w g t cs) (i : Nat) (u : Value) : Blk (w.setCell ⟨g, i, none⟩ u) g t (cs.setIfInBounds i u) := by
  unfold Blk at h ⊢
  simp [World.setCell, Array.getElem?_modify, h]
theorem Blk.far (h : Blk w g t cs) {p : Addr} (hp : g ≠ p.block) (u : Value) : Blk (w.setCell p u) g t cs := (Below.heap_setCell w p u g hp).trans h
theorem Blk.chg {L : List Nat} (h : Blk w g t cs) (hb : Chg L w w') (hg : g ∉ L) : Blk w' g t cs := (hb.block g h.lt hg).trans h
theorem Blk.eq_ (h : Blk w g t cs) {g' : Nat} {t' : TypeId} {cs' : Array Value} (h' : Blk w g' t' cs') (hne : t ≠ t') : g ≠ g' := by
  rintro rfl
  unfold Blk at h h'
  rw [h] at h'
  injection h' with h'
  injection h' with _ ht
  exact hne ht
end

/-! ### a slice that has a block of its own, from the block's head on -/
def RowAt (w : World) (e : TypeId) (A : Option Addr) (xs : List Value) (c : Nat) : Prop :=
  xs.length ≤ c ∧ c ≤ maxLen ∧ ((A = none ∧ c = 0) ∨ ∃ (g : Nat) (cur : Array Value), A = some ⟨g, 0, none⟩ ∧ Blk w g e cur ∧ c ≤ cur.size ∧ ∀ (j : Nat) (u : Value), xs[j]? = some u → cur[j]? = some u)

def Row (w : World) (e : TypeId) (v : Value) (xs : List Value) : Prop := ∃ (A : Option Addr) (c : Nat), v = .slice A xs.length c ∧ RowAt w e A xs c

/-- the block that a slice owns -/
def ob (v : Value) : List Nat := v.ownBlock.toList
@[simp] theorem ob_none (n c : Nat) : ob (.slice none n c) = [] := rfl
@[simp] theorem ob_some (a : Addr) (n c : Nat) : ob (.slice (some a) n c) = [a.block] := rfl

section
variable {w w' : World} {e : TypeId} {A : Option Addr} {c : Nat} {v : Value} {xs : List Value}
theorem Row.nil (w : World) (e : TypeId) : Row w e (.slice none 0 0) [] := ⟨none, 0, rfl, Nat.le_refl _, Nat.zero_le _, .inl ⟨rfl, rfl⟩⟩
theorem Row.lt (h : Row w e v xs) : ∀ k ∈ ob v, k < w.heap.size := by
  obtain ⟨A, c, rfl, _, _, h⟩ := h
  rcases h with ⟨rfl, _⟩ | ⟨g, cur, rfl, hb, _⟩
  · simp
  · simpa using hb.lt
theorem Row.kept (h : Row w e v xs) (hk : ∀ k ∈ ob v, w'.heap[k]? = w.heap[k]?) : Row w' e v xs := by
  obtain ⟨A, c, rfl, h1, h2, h⟩ := h
  refine ⟨A, c, rfl, h1, h2, ?_⟩
  rcases h with ⟨rfl, h⟩ | ⟨g, cur, rfl, hb, h⟩
  · exact .inl ⟨rfl, h⟩
  · exact .inr ⟨g, cur, rfl, (hk g (by simp)).trans hb, h⟩
theorem Row.chg {L : List Nat} (h : Row w e v xs) (hb : Chg L w w') (hd : ∀ k ∈ ob v, k ∉ L) : Row w' e v xs :=
  h.kept fun k hk => hb.block k (h.lt k hk) (hd k hk)
theorem Row.drew (h : Row w e v xs) : Row w.drew e v xs := h
theorem Row.drewN (h : Row w e v xs) (n : Nat) : Row (w.drewN n) e v xs := h
theorem Row.alloc (h : Row w e v xs) (o : Obj) : Row (w.alloc o) e v xs := h.kept fun k hk => Below.heap_alloc w o k (h.lt k hk)
theorem Row.setCell (h : Row w e v xs) {p : Addr} (hp : p.block ∉ ob v) (u : Value) : Row (w.setCell p u) e v xs :=
  h.kept fun k hk => Below.heap_setCell w p u k (fun e => hp (e ▸ hk))
/-- with an element: its block -/
theorem Row.open_ (h : Row w e v xs) (hx : 0 < xs.length) : ∃ g c cur, v = .slice (some ⟨g, 0, none⟩) xs.length c ∧ xs.length ≤ c ∧ c ≤ maxLen ∧ Blk w g e cur ∧ c ≤ cur.size ∧
    (∀ j u, xs[j]? = some u → w.cell? ⟨g, j, none⟩ = some u) ∧ ∀ j, w.frozen? ⟨g, j, none⟩ = false := by
  obtain ⟨A, c, rfl, h1, h2, h⟩ := h
  rcases h with ⟨rfl, h⟩ | ⟨g, cur, rfl, hb, h3, h4⟩
  · omega
  · exact ⟨g, c, cur, rfl, h1, h2, hb, h3, fun j u hj => (hb.cell j).trans (h4 j u hj), hb.frozen⟩
end

/-! ### the element's type -/
structure SlTy (P : Program) (t e : TypeId) (z : Value) (bytes : Nat) : Prop where
  und : P.underlying t = some (.slice e)
  info : ∃ i, P.info? e = some i ∧ i.zero = some z ∧ i.size = 1 ∧ i.bytes = bytes
  zc : z.cells = #[z]
  z1 : z.oneCell' = true
  small : bytes ≤ 64

/-- the block of the new slice: the old one's, or a new one -/
def OwnNew (w : World) (v v' : Value) : Prop := ob v' = ob v ∨ ∃ k, ob v' = [k] ∧ w.heap.size ≤ k

theorem add_lit0 (g j : Nat) : (⟨g, 0, none⟩ : Addr).add j = ⟨g, j, none⟩ := by unfold Addr.add; split <;> simp_all

section
variable {P : Program} {t e : TypeId} {z : Value} {bytes : Nat} {w : World} {v : Value} {xs : List Value}

theorem zeroCells_one (hz : z.cells = #[z]) (n : Nat) : (Builtin.zeroCells z.cells n).toList = List.replicate n z := by
  rw [hz]
  simp only [Builtin.zeroCells]
  apply List.ext_getElem
  · simp
  · intro i h1 h2
    simp [Nat.mod_one]

/-- append, of whatever lies from an address on -/
theorem run_append_row (T : SlTy P t e z bytes) (ty : TypeId) (h : Row w e v xs) (a : Addr) (m c : Nat) (news : List Value) (hl : news.length = m) (hnews : ∀ j u, news[j]? = some u → w.cell? (a.add j) = some u)
    (h1 : ∀ u ∈ news, u.oneCell' = true) (hm : 0 < m) (hsmall : xs.length + m ≤ 65536) :
    ∃ v' w', (Builtin.append_ #[t, t] ty #[v, .slice (some a) m c]).run P w = .ok v' w' ∧ Row w' e v' (xs ++ news) ∧ Chg (ob v) w w' ∧ OwnNew w v v' := by
  obtain ⟨i, hi, hz, hsz, hby⟩ := T.info
  have hb : (xs.length + m) * i.bytes ≤ 140737488355328 := by
    have := T.small
    rw [hby]
    exact Nat.le_trans (Nat.mul_le_mul hsmall this) (by decide)
  have hml : xs.length + m ≤ maxLen := by unfold maxLen; omega
  have grown : ∀ (old : Nat), ∀ (L : List Nat),
      Row (w.drew.alloc (.cells (xs.toArray ++ news.toArray ++ Builtin.zeroCells z.cells (grownCap w (xs.length + m) old e - (xs.length + m))) e)) e
        (.slice (some ⟨w.heap.size, 0, none⟩) (xs.length + m) (grownCap w (xs.length + m) old e)) (xs ++ news) ∧
      Chg L w (w.drew.alloc (.cells (xs.toArray ++ news.toArray ++ Builtin.zeroCells z.cells (grownCap w (xs.length + m) old e - (xs.length + m))) e)) := by
    intro old L
    have hge := grownCap_ge w (xs.length + m) old e
    have hcm : grownCap w (xs.length + m) old e ≤ maxLen := grownCap_le_maxLen w (xs.length + m) old e hml
    refine ⟨⟨_, _, by rw [List.length_append, hl], by rw [List.length_append, hl]; exact hge, hcm, .inr ⟨w.heap.size, _, rfl, Blk.new w.drew e _, ?_, ?_⟩⟩, (Chg.refl L w).drew.alloc _⟩
    · simp only [Array.size_append, List.size_toArray, size_zeroCells, T.zc]
      simp [hl]
      omega
    · intro j u hj
      rw [Array.getElem?_append_left (by
        have := (List.getElem?_eq_some_iff.1 hj).1
        simpa using this)]
      simpa using hj
  obtain ⟨A, cap, rfl, hc1, hc2, h⟩ := h
  rcases h with ⟨rfl, rfl⟩ | ⟨g, cur, rfl, hB, hcs, hxs⟩
  · have hx : xs = [] := List.eq_nil_of_length_eq_zero (by omega)
    subst hx
    have hr := run_append_nil (P := P) w t ty e i z T.und hi hz a m c news (by rw [hl, hsz, Nat.mul_one]) hnews (by omega) (by omega) (by have hb := hb; simp only [List.length_nil, Nat.zero_add] at hb; omega)
    have hgr := grown 0 (ob (.slice none 0 0))
    simp only [List.length_nil, Nat.zero_add, List.nil_append, Array.empty_append] at hgr ⊢
    exact ⟨_, _, hr, hgr.1, hgr.2, .inr ⟨_, rfl, Nat.le_refl _⟩⟩
  · have hlen : xs.length * i.size = xs.length := by rw [hsz, Nat.mul_one]
    by_cases hroom : xs.length + m ≤ cap
    · have hr := run_append_room (P := P) w t ty e i T.und hi g xs.length cap cur hB a m c news (by rw [hl, hsz, Nat.mul_one]) hnews h1 hroom (by rw [hlen, hl]; omega)
      have htk : cur.toList.take xs.length = xs := by
        apply List.ext_getElem?
        intro j
        rw [List.getElem?_take]
        split
        · rename_i hj
          have h0 := hxs j _ (List.getElem?_eq_getElem hj)
          rw [List.getElem?_eq_getElem hj]
          simpa using h0
        · rw [List.getElem?_eq_none (by omega)]
      refine ⟨_, _, hr, ⟨_, cap, by rw [List.length_append, hl], by rw [List.length_append, hl]; exact hroom, hc2, .inr ⟨g, _, rfl, setRow_heap w g cur _ e _ hB, ?_, ?_⟩⟩, ⟨rfl, rfl, rfl, by simp, fun k _ hk => setRow_other w g k _ (fun e => hk (by simp [e]))⟩, .inl (by simp)⟩
      · simp only [List.size_toArray, List.length_append, List.length_take, List.length_drop, Array.length_toList, hlen, hl]
        omega
      · intro j u hj
        rw [hlen, htk]
        rw [List.getElem?_toArray, List.getElem?_append_left (by
          have := (List.getElem?_eq_some_iff.1 hj).1
          simpa using this)]
        exact hj
    · have holds : ∀ j u, xs[j]? = some u → w.cell? ((⟨g, 0, none⟩ : Addr).add j) = some u := fun j u hj => by
        rw [add_lit0]; exact (hB.cell j).trans (hxs j u hj)
      have hr := run_append_grow (P := P) w t ty e i z T.und hi hz ⟨g, 0, none⟩ xs.length cap xs (by rw [hsz, Nat.mul_one]) holds a m c news (by rw [hl, hsz, Nat.mul_one]) hnews (by omega) (by omega) (growslice_fits (by omega) hb)
      have hgr := grown cap (ob (.slice (some ⟨g, 0, none⟩) xs.length cap))
      exact ⟨_, _, hr, hgr.1, hgr.2, .inr ⟨_, rfl, Nat.le_refl _⟩⟩
end

/-! ### cells set one by one in a block -/
theorem Blk.setCells {t : TypeId} {g : Nat} : ∀ (vs : List Value) (o : Nat) (w : World) (cur : Array Value), Blk w g t cur → o + vs.length ≤ cur.size →
    ∃ cur' : Array Value, Blk (w.setCells g o vs) g t cur' ∧ cur'.size = cur.size ∧ (∀ j, j < o → cur'[j]? = cur[j]?) ∧ (∀ (j : Nat) (u : Value), vs[j]? = some u → cur'[o + j]? = some u) ∧ (∀ j, o + vs.length ≤ j → cur'[j]? = cur[j]?)
  | [], _, _, cur, hb, _ => ⟨cur, hb, rfl, fun _ _ => rfl, fun j u h => by simp at h, fun _ _ => rfl⟩
  | v :: r, o, w, cur, hb, hs => by
    simp only [List.length_cons] at hs
    obtain ⟨cur', h1, h2, h3, h4, h5⟩ := Blk.setCells r (o + 1) (w.setCell ⟨g, o, none⟩ v) (cur.setIfInBounds o v) (hb.set_ o v) (by simp; omega)
    refine ⟨cur', h1, by rw [h2]; simp, fun j hj => ?_, fun j u hj => ?_, fun j hj => ?_⟩
    · rw [h3 j (by omega), Array.getElem?_setIfInBounds_ne (by omega)]
    · cases j with
      | zero =>
        rw [Nat.add_zero, h3 o (by omega), Array.getElem?_setIfInBounds_self_of_lt (by omega)]
        simpa using hj
      | succ j =>
        rw [show o + (j + 1) = o + 1 + j by omega]
        exact h4 j u (by simpa using hj)
    · simp only [List.length_cons] at hj
      rw [h5 j (by omega), Array.getElem?_setIfInBounds_ne (by omega)]
theorem Chg.setCells {L : List Nat} {a : World} {g : Nat} (hg : g ∈ L ∨ a.heap.size ≤ g) : ∀ (vs : List Value) (o : Nat) (w : World), Chg L a w → Chg L a (w.setCells g o vs)
  | [], _, _, h => h
  | v :: r, o, _, h => Chg.setCells hg r (o + 1) _ (h.setCell (p := ⟨g, o, none⟩) hg v)
theorem size_setCells (g : Nat) : ∀ (vs : List Value) (o : Nat) (w : World), (w.setCells g o vs).heap.size = w.heap.size
  | [], _, _ => rfl
  | v :: r, o, w => by rw [World.setCells, size_setCells g r]; simp [World.setCell]

/-- one element laid in at place i, the rest moved up: there is room -/
theorem Row.shift {w : World} {e : TypeId} {g c i : Nat} {cur : Array Value} {xs : List Value} {x : Value} (hB : Blk w g e cur) (hcs : c ≤ cur.size) (hxs : ∀ (j : Nat) (u : Value), xs[j]? = some u → cur[j]? = some u)
    (hroom : xs.length + 1 ≤ c) (hm : c ≤ maxLen) (hi : i ≤ xs.length) :
    Row ((w.setCells g (i + 1) (xs.drop i)).setCells g i [x]) e (.slice (some ⟨g, 0, none⟩) (xs.length + 1) c) (xs.take i ++ x :: xs.drop i) := by
  have hl : (xs.take i ++ x :: xs.drop i).length = xs.length + 1 := by simp; omega
  obtain ⟨c1, b1, s1, l1, m1, r1⟩ := hB.setCells (xs.drop i) (i + 1) w cur (by simp; omega)
  obtain ⟨c2, b2, s2, l2, m2, r2⟩ := b1.setCells [x] i _ c1 (by simp; omega)
  refine ⟨_, c, by rw [hl], by rw [hl]; exact hroom, hm, .inr ⟨g, c2, rfl, b2, by omega, fun j u hj => ?_⟩⟩
  rcases Nat.lt_trichotomy j i with h | rfl | h
  · rw [l2 j h, l1 j (by omega)]
    rw [List.getElem?_append_left (by simp; omega), List.getElem?_take_of_lt h] at hj
    exact hxs j u hj
  · rw [List.getElem?_append_right (by rw [List.length_take]; omega), List.length_take, Nat.min_eq_left hi, Nat.sub_self] at hj
    have := m2 0 u (by simpa using hj)
    simpa using this
  · rw [r2 j (by simp; omega)]
    rw [List.getElem?_append_right (by simp; omega), List.length_take, Nat.min_eq_left hi] at hj
    obtain ⟨q, rfl⟩ : ∃ q, j = i + 1 + q := ⟨j - (i + 1), by omega⟩
    rw [show i + 1 + q - i = q + 1 by omega, List.getElem?_cons_succ] at hj
    exact m1 q u hj

/-- the same in a new row: its head has been laid, zero values behind -/
theorem Row.laid {w : World} {e : TypeId} {g c i : Nat} {cur : Array Value} {xs : List Value} {x : Value} (hB : Blk w g e cur) (hcs : c ≤ cur.size) (hxs : ∀ (j : Nat) (u : Value), j < i → xs[j]? = some u → cur[j]? = some u)
    (hroom : xs.length + 1 ≤ c) (hm : c ≤ maxLen) (hi : i ≤ xs.length) {w1 w2 : World} (e1 : w1 = w.setCells g i [x]) (e2 : w2.heap = w1.heap) :
    Row (w2.setCells g (i + 1) (xs.drop i)) e (.slice (some ⟨g, 0, none⟩) (xs.length + 1) c) (xs.take i ++ x :: xs.drop i) := by
  have hl : (xs.take i ++ x :: xs.drop i).length = xs.length + 1 := by simp; omega
  obtain ⟨c1, b1, s1, l1, m1, r1⟩ := hB.setCells [x] i w cur (by simp; omega)
  have b1' : Blk w2 g e c1 := by unfold Blk; rw [e2, e1]; exact b1
  obtain ⟨c2, b2, s2, l2, m2, r2⟩ := b1'.setCells (xs.drop i) (i + 1) _ c1 (by simp; omega)
  refine ⟨_, c, by rw [hl], by rw [hl]; exact hroom, hm, .inr ⟨g, c2, rfl, b2, by omega, fun j u hj => ?_⟩⟩
  rcases Nat.lt_trichotomy j i with h | rfl | h
  · rw [l2 j (by omega), l1 j h]
    rw [List.getElem?_append_left (by simp; omega), List.getElem?_take_of_lt h] at hj
    exact hxs j u h hj
  · rw [List.getElem?_append_right (by rw [List.length_take]; omega), List.length_take, Nat.min_eq_left hi, Nat.sub_self] at hj
    rw [l2 j (by omega)]
    have := m1 0 u (by simpa using hj)
    simpa using this
  · rw [List.getElem?_append_right (by simp; omega), List.length_take, Nat.min_eq_left hi] at hj
    obtain ⟨q, rfl⟩ : ∃ q, j = i + 1 + q := ⟨j - (i + 1), by omega⟩
    rw [show i + 1 + q - i = q + 1 by omega, List.getElem?_cons_succ] at hj
    exact m2 q u hj

/-- one element taken out at place i, the rest moved down, the last place cleared -/
theorem Row.cut {w : World} {e : TypeId} {g c i : Nat} {cur : Array Value} {xs : List Value} {z : Value} (hB : Blk w g e cur) (hcs : c ≤ cur.size) (hxs : ∀ (j : Nat) (u : Value), xs[j]? = some u → cur[j]? = some u)
    (hn : xs.length ≤ c) (hm : c ≤ maxLen) (hi : i < xs.length) :
    Row ((w.setCells g i (xs.drop (i + 1))).setCells g (xs.length - 1) [z]) e (.slice (some ⟨g, 0, none⟩) (xs.length - 1) c) (xs.take i ++ xs.drop (i + 1)) := by
  have hl : (xs.take i ++ xs.drop (i + 1)).length = xs.length - 1 := by simp; omega
  obtain ⟨c1, b1, s1, l1, m1, r1⟩ := hB.setCells (xs.drop (i + 1)) i w cur (by simp; omega)
  obtain ⟨c2, b2, s2, l2, m2, r2⟩ := b1.setCells [z] (xs.length - 1) _ c1 (by simp; omega)
  refine ⟨_, c, by rw [hl], by rw [hl]; omega, hm, .inr ⟨g, c2, rfl, b2, by omega, fun j u hj => ?_⟩⟩
  have hjl : j < xs.length - 1 := by rw [← hl]; exact (List.getElem?_eq_some_iff.1 hj).1
  rw [l2 j hjl]
  rcases Nat.lt_or_ge j i with h | h
  · rw [l1 j h]
    rw [List.getElem?_append_left (by simp; omega), List.getElem?_take_of_lt h] at hj
    exact hxs j u hj
  · rw [List.getElem?_append_right (by simp; omega), List.length_take, Nat.min_eq_left (by omega)] at hj
    have := m1 (j - i) u hj
    rwa [show i + (j - i) = j by omega] at this

end Go.Proofs.Ytcidmaeclonilaa
