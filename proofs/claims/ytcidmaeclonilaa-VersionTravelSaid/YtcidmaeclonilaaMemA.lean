/- Several texts in one. -/
import Derived.Test.YtcidmaeclonilaaPure
import Derived.WalkKit
import Derived.Lib.AppendZerosOnto
import Derived.Lib.SliceRun
import Derived.Laws.IdiomCopy
import Derived.Deep.Draws
import Derived.Deep.RegionLaw

/- What the tree's nodes and slices are in memory, and what keeps them: no program in sight. -/
namespace Go.Proofs.Ytcidmaeclonilaa
open Go Go.RowKit

/-! ### what a piece of work may change -/
/-- of what was there, only blocks of L may have changed -/
structure Chg (L : List Nat) (w w' : World) : Prop where
  os : w'.os = w.os
  tape : w'.tape = w.tape
  output : w'.output = w.output
  size : w.heap.size ≤ w'.heap.size
  block : ∀ k, k < w.heap.size → k ∉ L → w'.heap[k]? = w.heap[k]?

section
variable {L M : List Nat} {a w w' w'' : World}
theorem Chg.refl (L : List Nat) (w : World) : Chg L w w := ⟨rfl, rfl, rfl, Nat.le_refl _, fun _ _ _ => rfl⟩
theorem Chg.trans (h : Chg L w w') (k : Chg M w' w'') (hM : ∀ x, x ∈ M → x ∈ L ∨ w.heap.size ≤ x) : Chg L w w'' :=
  ⟨k.os.trans h.os, k.tape.trans h.tape, k.output.trans h.output, Nat.le_trans h.size k.size, fun x hx hn =>
    (k.block x (Nat.lt_of_lt_of_le hx h.size) (fun hm => (hM x hm).elim hn (fun hh => by omega))).trans (h.block x hx hn)⟩
theorem Chg.mono (h : Chg L w w') (hL : ∀ x, x ∈ L → x ∈ M ∨ w.heap.size ≤ x) : Chg M w w' :=
  ⟨h.os, h.tape, h.output, h.size, fun x hx hn => h.block x hx (fun hm => (hL x hm).elim hn (fun hh => by omega))⟩
theorem Chg.drewN (h : Chg L a w) (n : Nat) : Chg L a (w.drewN n) := ⟨h.os, h.tape, h.output, h.size, h.block⟩
theorem Chg.drew (h : Chg L a w) : Chg L a w.drew := ⟨h.os, h.tape, h.output, h.size, h.block⟩
theorem Chg.alloc (h : Chg L a w) (o : Obj) : Chg L a (w.alloc o) :=
  ⟨h.os, h.tape, h.output, Nat.le_trans h.size (by simp), fun k hk hn => (Below.heap_alloc w o k (Nat.lt_of_lt_of_le hk h.size)).trans (h.block k hk hn)⟩
theorem Chg.setCell (h : Chg L a w) {p : Addr} (hp : p.block ∈ L ∨ a.heap.size ≤ p.block) (u : Value) : Chg L a (w.setCell p u) :=
  ⟨h.os, h.tape, h.output, by simpa [World.setCell] using h.size, fun k hk hn => (Below.heap_setCell w p u k (by
    rintro rfl; rcases hp with hp | hp
    · exact hn hp
    · omega)).trans (h.block k hk hn)⟩
theorem Chg.of_below (h : Below w.heap.size w w') : Chg L w w' := ⟨h.os, h.tape, h.output, h.size, fun k hk _ => h.block k hk⟩
theorem Chg.below {B : Nat} (h : Chg L w w') (hB : ∀ x ∈ L, B ≤ x) (hs : B ≤ w.heap.size) : Below B w w' :=
  ⟨h.os, h.tape, h.output, h.size, fun k hk => h.block k (by omega) (fun hm => by have := hB k hm; omega)⟩
theorem Chg.of_grown {v : Value} (h : w.grownBy w' v.ownBlock) : Chg v.ownBlock.toList w w' :=
  ⟨h.os, h.tape, h.output, h.size, fun k hk hn => h.block k hk (fun e => hn (by rw [← e]; simp))⟩
theorem Chg.cell (h : Chg L w w') {p : Addr} (hp : p.block < w.heap.size) (hn : p.block ∉ L) : w'.cell? p = w.cell? p := World.cell?_of_block (h.block p.block hp hn)
theorem Chg.frozen (h : Chg L w w') {p : Addr} (hp : p.block < w.heap.size) (hn : p.block ∉ L) : w'.frozen? p = w.frozen? p := World.frozen?_of_block (h.block p.block hp hn)
end

/-! ### a block known whole -/
def Blk (w : World) (g : Nat) (t : TypeId) (cs : Array Value) : Prop := w.heap[g]? = some (.cells cs t (0, 0))
section
variable {w w' : World} {g : Nat} {t : TypeId} {cs : Array Value}
theorem Blk.lt (h : Blk w g t cs) : g < w.heap.size := (Array.getElem?_eq_some_iff.1 h).1
theorem Blk.cell (h : Blk w g t cs) (i : Nat) : w.cell? ⟨g, i, none⟩ = cs[i]? := cell_of_row w g i cs t (0, 0) h
theorem Blk.frozen (h : Blk w g t cs) (i : Nat) : w.frozen? ⟨g, i, none⟩ = false := by
  unfold Blk at h
  simp [World.frozen?, h]
theorem Blk.new (w : World) (t : TypeId) (cs : Array Value) : Blk (w.alloc (.cells cs t)) w.heap.size t cs := heap_alloc_new w _
theorem Blk.drew (h : Blk w g t cs) : Blk w.drew g t cs := h
theorem Blk.drewN (h : Blk w g t cs) (n : Nat) : Blk (w.drewN n) g t cs := h
theorem Blk.alloc (h : Blk w g t cs) (o : Obj) : Blk (w.alloc o) g t cs := (Below.heap_alloc w o g h.lt).trans h
theorem Blk.set_ (h : Blk w g t cs) (i : Nat) (u : Value) : Blk (w.setCell ⟨g, i, none⟩ u) g t (cs.setIfInBounds i u) := by
  unfold Blk at h ⊢
  simp [World.setCell, Array.getElem?_modify, h]
theorem Blk.far (h : Blk w g t cs) {p : Addr} (hp : g ≠ p.block) (u : Value) : Blk (w.setCell p u) g t cs := (Below.heap_setCell w p u g hp).trans h
theorem Blk.chg {L : List Nat} (h : Blk w g t cs) (hb : Chg L w w') (hg : g ∉ L) : Blk w' g t cs := (hb.block g h.lt hg).trans h
theorem Blk.eq_ (h : Blk w g t cs) {g' : Nat} {t' : TypeId} {cs' : Array Value} (h' : Blk w g' t' cs') (hne : t ≠ t') : g ≠ g' := by
  rintro rfl
  unfold Blk at h h'
  rw [h] at h'
  injection h' with h'
  injection h' with _ ht
  exact hne ht
end

/-! ### a slice that has a block of its own, from the block's head on -/
def RowAt (w : World) (e : TypeId) (A : Option Addr) (xs : List Value) (c : Nat) : Prop :=
  xs.length ≤ c ∧ c ≤ maxLen ∧ ((A = none ∧ c = 0) ∨ ∃ (g : Nat) (cur : Array Value), A = some ⟨g, 0, none⟩ ∧ Blk w g e cur ∧ c ≤ cur.size ∧ ∀ (j : Nat) (u : Value), xs[j]? = some u → cur[j]? = some u)

def Row (w : World) (e : TypeId) (v : Value) (xs : List Value) : Prop := ∃ (A : Option Addr) (c : Nat), v = .slice A xs.length c ∧ RowAt w e A xs c

/-- the block that a slice owns -/
def ob (v : Value) : List Nat := v.ownBlock.toList
@[simp] theorem ob_none (n c : Nat) : ob (.slice none n c) = [] := rfl
@[simp] theorem ob_some (a : Addr) (n c : Nat) : ob (.slice (some a) n c) = [a.block] := rfl

section
variable {w w' : World} {e : TypeId} {A : Option Addr} {c : Nat} {v : Value} {xs : List Value}
theorem Row.nil (w : World) (e : TypeId) : Row w e (.slice none 0 0) [] := ⟨none, 0, rfl, Nat.le_refl _, Nat.zero_le _, .inl ⟨rfl, rfl⟩⟩
theorem Row.lt (h : Row w e v xs) : ∀ k ∈ ob v, k < w.heap.size := by
  obtain ⟨A, c, rfl, _, _, h⟩ := h
  rcases h with ⟨rfl, _⟩ | ⟨g, cur, rfl, hb, _⟩
  · simp
  · simpa using hb.lt
theorem Row.kept (h : Row w e v xs) (hk : ∀ k ∈ ob v, w'.heap[k]? = w.heap[k]?) : Row w' e v xs := by
  obtain ⟨A, c, rfl, h1, h2, h⟩ := h
  refine ⟨A, c, rfl, h1, h2, ?_⟩
  rcases h with ⟨rfl, h⟩ | ⟨g, cur, rfl, hb, h⟩
  · exact .inl ⟨rfl, h⟩
  · exact .inr ⟨g, cur, rfl, (hk g (by simp)).trans hb, h⟩
theorem Row.chg {L : List Nat} (h : Row w e v xs) (hb : Chg L w w') (hd : ∀ k ∈ ob v, k ∉ L) : Row w' e v xs :=
  h.kept fun k hk => hb.block k (h.lt k hk) (hd k hk)
theorem Row.drew (h : Row w e v xs) : Row w.drew e v xs := h
theorem Row.drewN (h : Row w e v xs) (n : Nat) : Row (w.drewN n) e v xs := h
theorem Row.alloc (h : Row w e v xs) (o : Obj) : Row (w.alloc o) e v xs := h.kept fun k hk => Below.heap_alloc w o k (h.lt k hk)
theorem Row.setCell (h : Row w e v xs) {p : Addr} (hp : p.block ∉ ob v) (u : Value) : Row (w.setCell p u) e v xs :=
  h.kept fun k hk => Below.heap_setCell w p u k (fun e => hp (e ▸ hk))
/-- with an element: its block -/
theorem Row.open_ (h : Row w e v xs) (hx : 0 < xs.length) : ∃ g c cur, v = .slice (some ⟨g, 0, none⟩) xs.length c ∧ xs.length ≤ c ∧ c ≤ maxLen ∧ Blk w g e cur ∧ c ≤ cur.size ∧
    (∀ j u, xs[j]? = some u → w.cell? ⟨g, j, none⟩ = some u) ∧ ∀ j, w.frozen? ⟨g, j, none⟩ = false := by
  obtain ⟨A, c, rfl, h1, h2, h⟩ := h
  rcases h with ⟨rfl, h⟩ | ⟨g, cur, rfl, hb, h3, h4⟩
  · omega
  · exact ⟨g, c, cur, rfl, h1, h2, hb, h3, fun j u hj => (hb.cell j).trans (h4 j u hj), hb.frozen⟩
end

/-! ### the element's type -/
structure SlTy (P : Program) (t e : TypeId) (z : Value) (bytes : Nat) : Prop where
  und : P.underlying t = some (.slice e)
  info : ∃ i, P.info? e = some i ∧ i.zero = some z ∧ i.size = 1 ∧ i.bytes = bytes
  zc : z.cells = #[z]
  z1 : z.oneCell' = true
  small : bytes ≤ 64

/-- the block of the new slice: the old one's, or a new one -/
def OwnNew (w : World) (v v' : Value) : Prop := ob v' = ob v ∨ ∃ k, ob v' = [k] ∧ w.heap.size ≤ k

theorem add_lit0 (g j : Nat) : (⟨g, 0, none⟩ : Addr).add j = ⟨g, j, none⟩ := by unfold Addr.add; split <;> simp_all

section
variable {P : Program} {t e : TypeId} {z : Value} {bytes : Nat} {w : World} {v : Value} {xs : List Value}

theorem zeroCells_one (hz : z.cells = #[z]) (n : Nat) : (Builtin.zeroCells z.cells n).toList = List.replicate n z := by
  rw [hz]
  simp only [Builtin.zeroCells]
  apply List.ext_getElem
  · simp
  · intro i h1 h2
    simp [Nat.mod_one]

/-- append, of whatever lies from an address on -/
theorem run_append_row (T : SlTy P t e z bytes) (ty : TypeId) (h : Row w e v xs) (a : Addr) (m c : Nat) (news : List Value) (hl : news.length = m) (hnews : ∀ j u, news[j]? = some u → w.cell? (a.add j) = some u)
    (h1 : ∀ u ∈ news, u.oneCell' = true) (hm : 0 < m) (hsmall : xs.length + m ≤ 65536) :
    ∃ v' w', (Builtin.append_ #[t, t] ty #[v, .slice (some a) m c]).run P w = .ok v' w' ∧ Row w' e v' (xs ++ news) ∧ Chg (ob v) w w' ∧ OwnNew w v v' := by
  obtain ⟨i, hi, hz, hsz, hby⟩ := T.info
  have hb : (xs.length + m) * i.bytes ≤ 140737488355328 := by
    have := T.small
    rw [hby]
    exact Nat.le_trans (Nat.mul_le_mul hsmall this) (by decide)
  have hml : xs.length + m ≤ maxLen := by unfold maxLen; omega
  have grown : ∀ (old : Nat), ∀ (L : List Nat),
      Row (w.drew.alloc (.cells (xs.toArray ++ news.toArray ++ Builtin.zeroCells z.cells (grownCap w (xs.length + m) old e - (xs.length + m))) e)) e
        (.slice (some ⟨w.heap.size, 0, none⟩) (xs.length + m) (grownCap w (xs.length + m) old e)) (xs ++ news) ∧
      Chg L w (w.drew.alloc (.cells (xs.toArray ++ news.toArray ++ Builtin.zeroCells z.cells (grownCap w (xs.length + m) old e - (xs.length + m))) e)) := by
    intro old L
    have hge := grownCap_ge w (xs.length + m) old e
    have hcm : grownCap w (xs.length + m) old e ≤ maxLen := grownCap_le_maxLen w (xs.length + m) old e hml
    refine ⟨⟨_, _, by rw [List.length_append, hl], by rw [List.length_append, hl]; exact hge, hcm, .inr ⟨w.heap.size, _, rfl, Blk.new w.drew e _, ?_, ?_⟩⟩, (Chg.refl L w).drew.alloc _⟩
    · simp only [Array.size_append, List.size_toArray, size_zeroCells, T.zc]
      simp [hl]
      omega
    · intro j u hj
      rw [Array.getElem?_append_left (by
        have := (List.getElem?_eq_some_iff.1 hj).1
        simpa using this)]
      simpa using hj
  obtain ⟨A, cap, rfl, hc1, hc2, h⟩ := h
  rcases h with ⟨rfl, rfl⟩ | ⟨g, cur, rfl, hB, hcs, hxs⟩
  · have hx : xs = [] := List.eq_nil_of_length_eq_zero (by omega)
    subst hx
    have hr := run_append_nil (P := P) w t ty e i z T.und hi hz a m c news (by rw [hl, hsz, Nat.mul_one]) hnews (by omega) (by omega) (by have hb := hb; simp only [List.length_nil, Nat.zero_add] at hb; omega)
    have hgr := grown 0 (ob (.slice none 0 0))
    simp only [List.length_nil, Nat.zero_add, List.nil_append, Array.empty_append] at hgr ⊢
    exact ⟨_, _, hr, hgr.1, hgr.2, .inr ⟨_, rfl, Nat.le_refl _⟩⟩
  · have hlen : xs.length * i.size = xs.length := by rw [hsz, Nat.mul_one]
    by_cases hroom : xs.length + m ≤ cap
    · have hr := run_append_room (P := P) w t ty e i T.und hi g xs.length cap cur hB a m c news (by rw [hl, hsz, Nat.mul_one]) hnews h1 hroom (by rw [hlen, hl]; omega)
      have htk : cur.toList.take xs.length = xs := by
        apply List.ext_getElem?
        intro j
        rw [List.getElem?_take]
        split
        · rename_i hj
          have h0 := hxs j _ (List.getElem?_eq_getElem hj)
          rw [List.getElem?_eq_getElem hj]
          simpa using h0
        · rw [List.getElem?_eq_none (by omega)]
      refine ⟨_, _, hr, ⟨_, cap, by rw [List.length_append, hl], by rw [List.length_append, hl]; exact hroom, hc2, .inr ⟨g, _, rfl, setRow_heap w g cur _ e _ hB, ?_, ?_⟩⟩, ⟨rfl, rfl, rfl, by simp, fun k _ hk => setRow_other w g k _ (fun e => hk (by simp [e]))⟩, .inl (by simp)⟩
      · simp only [List.size_toArray, List.length_append, List.length_take, List.length_drop, Array.length_toList, hlen, hl]
        omega
      · intro j u hj
        rw [hlen, htk]
        rw [List.getElem?_toArray, List.getElem?_append_left (by
          have := (List.getElem?_eq_some_iff.1 hj).1
          simpa using this)]
        exact hj
    · have holds : ∀ j u, xs[j]? = some u → w.cell? ((⟨g, 0, none⟩ : Addr).add j) = some u := fun j u hj => by
        rw [add_lit0]; exact (hB.cell j).trans (hxs j u hj)
      have hr := run_append_grow (P := P) w t ty e i z T.und hi hz ⟨g, 0, none⟩ xs.length cap xs (by rw [hsz, Nat.mul_one]) holds a m c news (by rw [hl, hsz, Nat.mul_one]) hnews (by omega) (by omega) (growslice_fits (by omega) hb)
      have hgr := grown cap (ob (.slice (some ⟨g, 0, none⟩) xs.length cap))
      exact ⟨_, _, hr, hgr.1, hgr.2, .inr ⟨_, rfl, Nat.le_refl _⟩⟩
end

/-! ### cells set one by one in a block -/
theorem Blk.setCells {t : TypeId} {g : Nat} : ∀ (vs : List Value) (o : Nat) (w : World) (cur : Array Value), Blk w g t cur → o + vs.length ≤ cur.size →
    ∃ cur' : Array Value, Blk (w.setCells g o vs) g t cur' ∧ cur'.size = cur.size ∧ (∀ j, j < o → cur'[j]? = cur[j]?) ∧ (∀ (j : Nat) (u : Value), vs[j]? = some u → cur'[o + j]? = some u) ∧ (∀ j, o + vs.length ≤ j → cur'[j]? = cur[j]?)
  | [], _, _, cur, hb, _ => ⟨cur, hb, rfl, fun _ _ => rfl, fun j u h => by simp at h, fun _ _ => rfl⟩
  | v :: r, o, w, cur, hb, hs => by
    simp only [List.length_cons] at hs
    obtain ⟨cur', h1, h2, h3, h4, h5⟩ := Blk.setCells r (o + 1) (w.setCell ⟨g, o, none⟩ v) (cur.setIfInBounds o v) (hb.set_ o v) (by simp; omega)
    refine ⟨cur', h1, by rw [h2]; simp, fun j hj => ?_, fun j u hj => ?_, fun j hj => ?_⟩
    · rw [h3 j (by omega), Array.getElem?_setIfInBounds_ne (by omega)]
    · cases j with
      | zero =>
        rw [Nat.add_zero, h3 o (by omega), Array.getElem?_setIfInBounds_self_of_lt (by omega)]
        simpa using hj
      | succ j =>
        rw [show o + (j + 1) = o + 1 + j by omega]
        exact h4 j u (by simpa using hj)
    · simp only [List.length_cons] at hj
      rw [h5 j (by omega), Array.getElem?_setIfInBounds_ne (by omega)]
theorem Chg.setCells {L : List Nat} {a : World} {g : Nat} (hg : g ∈ L ∨ a.heap.size ≤ g) : ∀ (vs : List Value) (o : Nat) (w : World), Chg L a w → Chg L a (w.setCells g o vs)
  | [], _, _, h => h
  | v :: r, o, _, h => Chg.setCells hg r (o + 1) _ (h.setCell (p := ⟨g, o, none⟩) hg v)
theorem size_setCells (g : Nat) : ∀ (vs : List Value) (o : Nat) (w : World), (w.setCells g o vs).heap.size = w.heap.size
  | [], _, _ => rfl
  | v :: r, o, w => by rw [World.setCells, size_setCells g r]; simp [World.setCell]

/-- one element laid in at place i, the rest moved up: there is room -/
theorem Row.shift {w : World} {e : TypeId} {g c i : Nat} {cur : Array Value} {xs : List Value} {x : Value} (hB : Blk w g e cur) (hcs : c ≤ cur.size) (hxs : ∀ (j : Nat) (u : Value), xs[j]? = some u → cur[j]? = some u)
    (hroom : xs.length + 1 ≤ c) (hm : c ≤ maxLen) (hi : i ≤ xs.length) :
    Row ((w.setCells g (i + 1) (xs.drop i)).setCells g i [x]) e (.slice (some ⟨g, 0, none⟩) (xs.length + 1) c) (xs.take i ++ x :: xs.drop i) := by
  have hl : (xs.take i ++ x :: xs.drop i).length = xs.length + 1 := by simp; omega
  obtain ⟨c1, b1, s1, l1, m1, r1⟩ := hB.setCells (xs.drop i) (i + 1) w cur (by simp; omega)
  obtain ⟨c2, b2, s2, l2, m2, r2⟩ := b1.setCells [x] i _ c1 (by simp; omega)
  refine ⟨_, c, by rw [hl], by rw [hl]; exact hroom, hm, .inr ⟨g, c2, rfl, b2, by omega, fun j u hj => ?_⟩⟩
  rcases Nat.lt_trichotomy j i with h | rfl | h
  · rw [l2 j h, l1 j (by omega)]
    rw [List.getElem?_append_left (by simp; omega), List.getElem?_take_of_lt h] at hj
    exact hxs j u hj
  · rw [List.getElem?_append_right (by rw [List.length_take]; omega), List.length_take, Nat.min_eq_left hi, Nat.sub_self] at hj
    have := m2 0 u (by simpa using hj)
    simpa using this
  · rw [r2 j (by simp; omega)]
    rw [List.getElem?_append_right (by simp; omega), List.length_take, Nat.min_eq_left hi] at hj
    obtain ⟨q, rfl⟩ : ∃ q, j = i + 1 + q := ⟨j - (i + 1), by omega⟩
    rw [show i + 1 + q - i = q + 1 by omega, List.getElem?_cons_succ] at hj
    exact m1 q u hj

/-- the same in a new row: its head has been laid, zero values behind -/
theorem Row.laid {w : World} {e : TypeId} {g c i : Nat} {cur : Array Value} {xs : List Value} {x : Value} (hB : Blk w g e cur) (hcs : c ≤ cur.size) (hxs : ∀ (j : Nat) (u : Value), j < i → xs[j]? = some u → cur[j]? = some u)
    (hroom : xs.length + 1 ≤ c) (hm : c ≤ maxLen) (hi : i ≤ xs.length) {w1 w2 : World} (e1 : w1 = w.setCells g i [x]) (e2 : w2.heap = w1.heap) :
    Row (w2.setCells g (i + 1) (xs.drop i)) e (.slice (some ⟨g, 0, none⟩) (xs.length + 1) c) (xs.take i ++ x :: xs.drop i) := by
  have hl : (xs.take i ++ x :: xs.drop i).length = xs.length + 1 := by simp; omega
  obtain ⟨c1, b1, s1, l1, m1, r1⟩ := hB.setCells [x] i w cur (by simp; omega)
  have b1' : Blk w2 g e c1 := by unfold Blk; rw [e2, e1]; exact b1
  obtain ⟨c2, b2, s2, l2, m2, r2⟩ := b1'.setCells (xs.drop i) (i + 1) _ c1 (by simp; omega)
  refine ⟨_, c, by rw [hl], by rw [hl]; exact hroom, hm, .inr ⟨g, c2, rfl, b2, by omega, fun j u hj => ?_⟩⟩
  rcases Nat.lt_trichotomy j i with h | rfl | h
  · rw [l2 j (by omega), l1 j h]
    rw [List.getElem?_append_left (by simp; omega), List.getElem?_take_of_lt h] at hj
    exact hxs j u h hj
  · rw [List.getElem?_append_right (by rw [List.length_take]; omega), List.length_take, Nat.min_eq_left hi, Nat.sub_self] at hj
    rw [l2 j (by omega)]
    have := m1 0 u (by simpa using hj)
    simpa using this
  · rw [List.getElem?_append_right (by simp; omega), List.length_take, Nat.min_eq_left hi] at hj
    obtain ⟨q, rfl⟩ : ∃ q, j = i + 1 + q := ⟨j - (i + 1), by omega⟩
    rw [show i + 1 + q - i = q + 1 by omega, List.getElem?_cons_succ] at hj
    exact m2 q u hj

/-- one element taken out at place i, the rest moved down, the last place cleared -/
theorem Row.cut {w : World} {e : TypeId} {g c i : Nat} {cur : Array Value} {xs : List Value} {z : Value} (hB : Blk w g e cur) (hcs : c ≤ cur.size) (hxs : ∀ (j : Nat) (u : Value), xs[j]? = some u → cur[j]? = some u)
    (hn : xs.length ≤ c) (hm : c ≤ maxLen) (hi : i < xs.length) :
    Row ((w.setCells g i (xs.drop (i + 1))).setCells g (xs.length - 1) [z]) e (.slice (some ⟨g, 0, none⟩) (xs.length - 1) c) (xs.take i ++ xs.drop (i + 1)) := by
  have hl : (xs.take i ++ xs.drop (i + 1)).length = xs.length - 1 := by simp; omega
  obtain ⟨c1, b1, s1, l1, m1, r1⟩ := hB.setCells (xs.drop (i + 1)) i w cur (by simp; omega)
  obtain ⟨c2, b2, s2, l2, m2, r2⟩ := b1.setCells [z] (xs.length - 1) _ c1 (by simp; omega)
  refine ⟨_, c, by rw [hl], by rw [hl]; omega, hm, .inr ⟨g, c2, rfl, b2, by omega, fun j u hj => ?_⟩⟩
  have hjl : j < xs.length - 1 := by rw [← hl]; exact (List.getElem?_eq_some_iff.1 hj).1
  rw [l2 j hjl]
  rcases Nat.lt_or_ge j i with h | h
  · rw [l1 j h]
    rw [List.getElem?_append_left (by simp; omega), List.getElem?_take_of_lt h] at hj
    exact hxs j u hj
  · rw [List.getElem?_append_right (by simp; omega), List.length_take, Nat.min_eq_left (by omega)] at hj
    have := m1 (j - i) u hj
    rwa [show i + (j - i) = j by omega] at this

end Go.Proofs.Ytcidmaeclonilaa

/- The tree in memory: each node a block of its own, each of its slices a block of its own. -/
namespace Go.Proofs.Ytcidmaeclonilaa
open Go Go.RowKit

/-- the types' numbers: a node's struct, a value, a pointer to a node -/
structure Tys where
  nd : TypeId
  val : TypeId
  kid : TypeId
  isV : Value → Prop

/-- values of one kind -/
def StrV (u : Value) : Prop := ∃ s, u = .string s
def SlcV (u : Value) : Prop := ∃ A n c, u = .slice A n c
def PtrV (u : Value) : Prop := ∃ b, u = .pointer (some ⟨b, 0, none⟩)
theorem StrV.mid {l : List Value} (h : ∀ u ∈ l, StrV u) (s : ByteArray) (i : Nat) : ∀ u ∈ l.take i ++ .string s :: l.drop i, StrV u := fun u hu => by
  rcases List.mem_append.1 hu with hu | hu
  · exact h u (List.mem_of_mem_take hu)
  · rcases List.mem_cons.1 hu with rfl | hu
    · exact ⟨_, rfl⟩
    · exact h u (List.mem_of_mem_drop hu)
theorem SlcV.mid {l : List Value} (h : ∀ u ∈ l, SlcV u) (A : Option Addr) (n c : Nat) (i : Nat) : ∀ u ∈ l.take i ++ .slice A n c :: l.drop i, SlcV u := fun u hu => by
  rcases List.mem_append.1 hu with hu | hu
  · exact h u (List.mem_of_mem_take hu)
  · rcases List.mem_cons.1 hu with rfl | hu
    · exact ⟨_, _, _, rfl⟩
    · exact h u (List.mem_of_mem_drop hu)
theorem PtrV.mid {l : List Value} (h : ∀ u ∈ l, PtrV u) (b : Nat) (i : Nat) : ∀ u ∈ l.take i ++ .pointer (some ⟨b, 0, none⟩) :: l.drop i, PtrV u := fun u hu => by
  rcases List.mem_append.1 hu with hu | hu
  · exact h u (List.mem_of_mem_take hu)
  · rcases List.mem_cons.1 hu with rfl | hu
    · exact ⟨_, rfl⟩
    · exact h u (List.mem_of_mem_drop hu)
theorem StrV.one {l : List Value} (h : ∀ u ∈ l, StrV u) : ∀ u ∈ l, u.oneCell' = true := fun u hu => by obtain ⟨s, rfl⟩ := h u hu; rfl
theorem SlcV.one {l : List Value} (h : ∀ u ∈ l, SlcV u) : ∀ u ∈ l, u.oneCell' = true := fun u hu => by obtain ⟨a, n, c, rfl⟩ := h u hu; rfl
theorem PtrV.one {l : List Value} (h : ∀ u ∈ l, PtrV u) : ∀ u ∈ l, u.oneCell' = true := fun u hu => by obtain ⟨b, rfl⟩ := h u hu; rfl

def ptr (c : GT) : Value := .pointer (some ⟨c.b, 0, none⟩)

structure Nod (T : Tys) (w : World) (t : GT) : Prop where
  blk : Blk w t.b T.nd #[t.kv, t.vv, t.cv]
  kr : Row w 9 t.kv (t.ks.map Value.string)
  vr : Row w T.val t.vv t.vs
  cr : Row w T.kid t.cv (t.cs.map ptr)
  v1 : ∀ u ∈ t.vs, T.isV u

/-- the blocks of a node -/
def own (t : GT) : List Nat := t.b :: (ob t.kv ++ (ob t.vv ++ ob t.cv))
/-- the blocks of a tree -/
def fp : Nat → GT → List Nat
  | 0, t => own t
  | h + 1, t => own t ++ (t.cs.map (fp h)).flatten

def Rep (T : Tys) (w : World) : Nat → GT → Prop
  | 0, t => Nod T w t
  | h + 1, t => Nod T w t ∧ ∀ c ∈ t.cs, Rep T w h c

/-- each block once -/
def Sep (h : Nat) (t : GT) : Prop := ∀ k, (fp h t).count k ≤ 1

structure Tre (T : Tys) (w : World) (h : Nat) (t : GT) : Prop where
  rep : Rep T w h t
  sep : Sep h t

section
variable {T : Tys} {w w' : World} {h : Nat} {t : GT}

theorem own_sub_fp : ∀ k ∈ own t, k ∈ fp h t := by
  intro k hk
  cases h with
  | zero => exact hk
  | succ h => exact List.mem_append_left _ hk
theorem Nod.lt (H : Nod T w t) : ∀ k ∈ own t, k < w.heap.size := by
  intro k hk
  rcases List.mem_cons.1 hk with rfl | hk
  · exact H.blk.lt
  · rcases List.mem_append.1 hk with hk | hk
    · exact H.kr.lt k hk
    · rcases List.mem_append.1 hk with hk | hk
      · exact H.vr.lt k hk
      · exact H.cr.lt k hk
theorem Nod.kept (H : Nod T w t) (hk : ∀ k ∈ own t, w'.heap[k]? = w.heap[k]?) : Nod T w' t :=
  ⟨(hk t.b (by simp [own])).trans H.blk, H.kr.kept fun k hm => hk k (by simp [own, hm]), H.vr.kept fun k hm => hk k (by simp [own, hm]), H.cr.kept fun k hm => hk k (by simp [own, hm]), H.v1⟩
theorem Rep.nod (H : Rep T w h t) : Nod T w t := by
  cases h with
  | zero => exact H
  | succ h => exact H.1
theorem Rep.lt : ∀ {h : Nat} {t : GT}, Rep T w h t → ∀ k ∈ fp h t, k < w.heap.size
  | 0, _, H, k, hk => Nod.lt H k hk
  | h + 1, t, H, k, hk => by
    rcases List.mem_append.1 hk with hk | hk
    · exact H.1.lt k hk
    · obtain ⟨l, hl, hkl⟩ := List.mem_flatten.1 hk
      obtain ⟨c, hc, rfl⟩ := List.mem_map.1 hl
      exact Rep.lt (H.2 c hc) k hkl
theorem Rep.kept : ∀ {h : Nat} {t : GT}, Rep T w h t → (∀ k ∈ fp h t, w'.heap[k]? = w.heap[k]?) → Rep T w' h t
  | 0, _, H, hk => Nod.kept H hk
  | _ + 1, _, H, hk => ⟨H.1.kept fun k hm => hk k (List.mem_append_left _ hm), fun c hc => Rep.kept (H.2 c hc) fun k hm =>
      hk k (List.mem_append_right _ (List.mem_flatten.2 ⟨_, List.mem_map.2 ⟨c, hc, rfl⟩, hm⟩))⟩
theorem Rep.chg {L : List Nat} (H : Rep T w h t) (hb : Chg L w w') (hd : ∀ k ∈ fp h t, k ∉ L) : Rep T w' h t :=
  H.kept fun k hk => hb.block k (H.lt k hk) (hd k hk)
theorem Rep.below (H : Rep T w h t) (hb : Below w.heap.size w w') : Rep T w' h t := H.kept fun k hk => hb.block k (H.lt k hk)
theorem Tre.below (H : Tre T w h t) (hb : Below w.heap.size w w') : Tre T w' h t := ⟨H.rep.below hb, H.sep⟩
theorem Tre.nod (H : Tre T w h t) : Nod T w t := H.rep.nod

theorem fp_kid {c : GT} {i : Nat} (hc : t.cs[i]? = some c) : fp (h + 1) t = own t ++ (((t.cs.take i).map (fp h)).flatten ++ (fp h c ++ ((t.cs.drop (i + 1)).map (fp h)).flatten)) := by
  show own t ++ (t.cs.map (fp h)).flatten = _
  conv => lhs; rw [split_at hc]
  simp
theorem Tre.kid (H : Tre T w (h + 1) t) {c : GT} {i : Nat} (hc : t.cs[i]? = some c) : Tre T w h c := by
  refine ⟨H.rep.2 c (List.mem_of_getElem? hc), fun k => ?_⟩
  have := H.sep k
  rw [fp_kid hc] at this
  simp only [List.count_append] at this
  omega
/-- what is in a child's blocks is in no block of the node's own -/
theorem Sep.apart (H : Sep (h + 1) t) {c : GT} {i : Nat} (hc : t.cs[i]? = some c) {k : Nat} (hk : k ∈ own t) : k ∉ fp h c := by
  intro hm
  have := H k
  rw [fp_kid hc] at this
  simp only [List.count_append] at this
  have h1 := List.count_pos_iff.2 hk
  have h2 := List.count_pos_iff.2 hm
  omega
theorem Sep.apart2 (H : Sep (h + 1) t) {c d : GT} {i j : Nat} (hc : t.cs[i]? = some c) (hd : t.cs[j]? = some d) (hij : i ≠ j) {k : Nat} (hk : k ∈ fp h d) : k ∉ fp h c := by
  intro hm
  have h0 := H k
  rw [fp_kid hc] at h0
  simp only [List.count_append] at h0
  have h2 := List.count_pos_iff.2 hm
  have h1 : 0 < List.count k (((t.cs.take i).map (fp h)).flatten) ∨ 0 < List.count k (((t.cs.drop (i + 1)).map (fp h)).flatten) := by
    rcases Nat.lt_or_gt_of_ne hij with hlt | hlt
    · refine .inr (List.count_pos_iff.2 (List.mem_flatten.2 ⟨_, List.mem_map.2 ⟨d, List.mem_of_getElem? (i := j - (i + 1)) ?_, rfl⟩, hk⟩))
      rw [List.getElem?_drop, show i + 1 + (j - (i + 1)) = j by omega]; exact hd
    · refine .inl (List.count_pos_iff.2 (List.mem_flatten.2 ⟨_, List.mem_map.2 ⟨d, List.mem_of_getElem? (i := j) ?_, rfl⟩, hk⟩))
      rw [List.getElem?_take_of_lt hlt]; exact hd
  omega

/-- new footprint: each block is an old one or a new one -/
def Sub (w : World) (L M : List Nat) : Prop := ∀ k ∈ L, k ∈ M ∨ w.heap.size ≤ k
theorem Sub.refl (w : World) (L : List Nat) : Sub w L L := fun _ h => .inl h
theorem Sub.trans {L M N : List Nat} (h : Sub w L M) (k : Sub w' M N) (hs : w'.heap.size ≤ w.heap.size) : Sub w' L N := fun x hx =>
  (h x hx).elim (fun hm => k x hm) (fun hn => .inr (Nat.le_trans hs hn))

/-- a child has changed, in its own blocks and new ones alone -/
theorem Tre.setKid (H : Tre T w (h + 1) t) {c c' : GT} {i : Nat} (hc : t.cs[i]? = some c) (hg : Chg (fp h c) w w') (H' : Tre T w' h c') (hb : c'.b = c.b) (hs : Sub w (fp h c') (fp h c)) :
    Tre T w' (h + 1) (.node t.b t.kv t.vv t.cv t.ks t.vs (t.cs.set i c')) ∧ Sub w (fp (h + 1) (.node t.b t.kv t.vv t.cv t.ks t.vs (t.cs.set i c'))) (fp (h + 1) t) := by
  have hlt : i < t.cs.length := (List.getElem?_eq_some_iff.1 hc).1
  have hptr : (t.cs.set i c').map ptr = t.cs.map ptr := by
    apply List.ext_getElem?
    intro j
    rw [List.getElem?_map, List.getElem?_map]
    by_cases hij : i = j
    · subst hij
      rw [List.getElem?_set_self hlt, hc]
      simp [ptr, hb]
    · rw [List.getElem?_set_ne hij]
  have hN : Nod T w' t := H.rep.1.kept fun k hk => hg.block k (H.rep.1.lt k hk) (H.sep.apart hc hk)
  have hc' : (GT.node t.b t.kv t.vv t.cv t.ks t.vs (t.cs.set i c')).cs[i]? = some c' := by rw [GT.cs_node, List.getElem?_set_self hlt]
  have hfp : fp (h + 1) (GT.node t.b t.kv t.vv t.cv t.ks t.vs (t.cs.set i c')) = own t ++ (((t.cs.take i).map (fp h)).flatten ++ (fp h c' ++ ((t.cs.drop (i + 1)).map (fp h)).flatten)) := by
    rw [fp_kid hc']
    simp only [GT.cs_node, List.take_set_of_le (Nat.le_refl _), List.drop_set_of_lt (show i < i + 1 by omega)]
    rfl
  refine ⟨⟨⟨⟨hN.blk, hN.kr, hN.vr, by simpa [hptr] using hN.cr, hN.v1⟩, fun d hd => ?_⟩, fun k => ?_⟩, fun k hk => ?_⟩
  · simp only [GT.cs_node] at hd
    obtain ⟨j, hj⟩ := List.mem_iff_getElem?.1 hd
    by_cases hij : i = j
    · subst hij
      rw [List.getElem?_set_self hlt] at hj
      cases hj
      exact H'.rep
    · rw [List.getElem?_set_ne hij] at hj
      exact (H.rep.2 d (List.mem_of_getElem? hj)).chg hg fun k hk => H.sep.apart2 hc hj hij hk
  · have h0 := H.sep k
    have h1 := H'.sep k
    rw [hfp]
    rw [fp_kid hc] at h0
    simp only [List.count_append] at h0 ⊢
    by_cases hm : k ∈ fp h c'
    · rcases hs k hm with hm' | hge
      · have := List.count_pos_iff.2 hm'
        omega
      · have hz : ∀ L : List Nat, (∀ x ∈ L, x < w.heap.size) → L.count k = 0 := fun L hL => List.count_eq_zero.2 fun hx => by have := hL k hx; omega
        have hall : ∀ x ∈ fp (h + 1) t, x < w.heap.size := H.rep.lt
        rw [fp_kid hc] at hall
        rw [hz (own t) (fun x hx => hall x (by simp [hx])), hz _ (fun x hx => hall x (List.mem_append_right _ (List.mem_append_left _ hx))),
          hz (((t.cs.drop (i + 1)).map (fp h)).flatten) (fun x hx => hall x (List.mem_append_right _ (List.mem_append_right _ (List.mem_append_right _ hx))))]
        omega
    · rw [List.count_eq_zero.2 hm]
      omega
  · rw [hfp] at hk
    rw [fp_kid hc]
    simp only [List.mem_append] at hk ⊢
    rcases hk with hk | hk | hk | hk
    · exact .inl (.inl hk)
    · exact .inl (.inr (.inl hk))
    · exact (hs k hk).imp (fun x => .inr (.inr (.inl x))) id
    · exact .inl (.inr (.inr (.inr hk)))
end

end Go.Proofs.Ytcidmaeclonilaa

/- Steps of a walk where what an operation does is known as an equation; what slices.Insert leaves. -/
namespace Go.Proofs.Ytcidmaeclonilaa
open Go Go.RowKit
variable {P : Program}

/-- what slices.Insert leaves: a slice that holds ys; only its old block may have changed -/
def InsPost (w : World) (e : TypeId) (v : Value) (ys : List Value) (en : Ending) (w' : World) : Prop :=
  ∃ v', en = .returned v' ∧ Row w' e v' ys ∧ Chg (ob v) w w' ∧ OwnNew w v v'

/-- the same, the slice written out -/
def InsPostN (w : World) (e : TypeId) (v : Value) (n : Nat) (ys : List Value) (en : Ending) (w' : World) : Prop :=
  ∃ A q, en = .returned (.slice A n q) ∧ Row w' e (.slice A n q) ys ∧ Chg (ob v) w w' ∧ OwnNew w v (.slice A n q)
theorem insPostN {w w' : World} {e : TypeId} {v : Value} {n : Nat} {ys : List Value} {en : Ending} (hn : ys.length = n) (h : InsPost w e v ys en w') : InsPostN w e v n ys en w' := by
  obtain ⟨v', rfl, hr, hc, ho⟩ := h
  obtain ⟨A, c, rfl, _⟩ := hr
  subst hn
  exact ⟨A, c, rfl, ⟨A, c, rfl, by assumption⟩, hc, ho⟩

/-- what slices.Clone leaves: a new slice -/
def ClonePost (w : World) (e : TypeId) (ys : List Value) (en : Ending) (w' : World) : Prop :=
  ∃ v', en = .returned v' ∧ Row w' e v' ys ∧ Below w.heap.size w w' ∧ ∀ k ∈ ob v', w.heap.size ≤ k

/-- what slices.Delete leaves: the old block, one element less -/
def DelPost (w : World) (e : TypeId) (v : Value) (ys : List Value) (en : Ending) (w' : World) : Prop :=
  ∃ v', en = .returned v' ∧ Row w' e v' ys ∧ Chg (ob v) w w' ∧ ob v' = ob v

theorem step_append_runI {ops : Array Oper} {o : Oper} {a : Act} {w : World} {K : Act → World → Prop} {Q : Exit → Act → World → Prop} {E : Prop}
    (hg : o.guard = none) (d x : Operand) (dT sT : TypeId) (hop : o.op = Op.call { callee := Callee.builtin Builtin.append, args := #[d, x], argTypes := #[dT, sT] })
    (v u : Value) (hd : a.eval d = v) (hx : a.eval x = u) {v' : Value} {w' : World} (hr : (Builtin.append_ #[dT, sT] o.type #[v, u]).run P w = .ok v' w') (hK : K (a.put o.dst v') w') :
    if Region.wanted o (yielded ops a.tmps) = true then Oper.wp P o a w K Q else E := by
  have hw : Region.wanted o (yielded ops a.tmps) = true := by simp [Region.wanted, hg]
  rw [if_pos hw]
  unfold Oper.wp
  simp [execOp, hop, resolve, invoke, builtin, hd, hx, hr, Result.andThen]
  exact hK

theorem wpList_clear_runI (w : World) {ops : Array Oper} {rest : List Oper} {o : Oper} {a : Act} {Q : Exit → Act → World → Prop} (hgd : o.guard = none) (d : Operand) (t : TypeId)
    (ho : o.op = .call { callee := .builtin .clear, args := #[d], argTypes := #[t] }) (v : Value) (hd : a.eval d = v) {v' : Value} {w' : World}
    (hr : (Builtin.clear_ #[t] o.type #[v]).run P w = .ok v' w') (h : wpList P ops Q rest (a.put o.dst v') w') : wpList P ops Q (o :: rest) a w :=
  wpList_plain hgd fun K hK => by
    unfold Oper.wp execOp
    simp only [ho, resolve, invoke, builtin, Sem.run_bind, Sem.run_pure, Result.andThen_ok, List.map_toArray, List.map_cons, List.map_nil, hd, hr]
    exact hK _ _ h

theorem wp_copy_runI (w : World) {o : Oper} {a : Act} {K : Act → World → Prop} {Q : Exit → Act → World → Prop} (d s : Operand) (t t' : TypeId)
    (ho : o.op = .call { callee := .builtin .copy, args := #[d, s], argTypes := #[t, t'] }) (v u : Value) (hd : a.eval d = v) (hs : a.eval s = u) {v' : Value} {w' : World}
    (hr : (Builtin.copy_ #[t, t'] o.type #[v, u]).run P w = .ok v' w') (h : K (a.put o.dst v') w') : o.wp P a w K Q := by
  unfold Oper.wp execOp
  simp only [ho, resolve, invoke, builtin, Sem.run_bind, Sem.run_pure, Result.andThen_ok, List.map_toArray, List.map_cons, List.map_nil, hd, hs, hr]
  exact h

theorem wpList_copy_runI (w : World) {ops : Array Oper} {rest : List Oper} {o : Oper} {a : Act} {Q : Exit → Act → World → Prop} (hgd : o.guard = none) (d s : Operand) (t t' : TypeId)
    (ho : o.op = .call { callee := .builtin .copy, args := #[d, s], argTypes := #[t, t'] }) (v u : Value) (hd : a.eval d = v) (hs : a.eval s = u) {v' : Value} {w' : World}
    (hr : (Builtin.copy_ #[t, t'] o.type #[v, u]).run P w = .ok v' w') (h : wpList P ops Q rest (a.put o.dst v') w') : wpList P ops Q (o :: rest) a w :=
  wpList_plain hgd fun _ hK => wp_copy_runI w d s t t' ho v u hd hs hr (hK _ _ h)

theorem step_copy_runI {ops : Array Oper} {o : Oper} {a : Act} {w : World} {K : Act → World → Prop} {Q : Exit → Act → World → Prop} {E : Prop}
    (hg : o.guard = none) (d x : Operand) (dT sT : TypeId) (hop : o.op = Op.call { callee := Callee.builtin Builtin.copy, args := #[d, x], argTypes := #[dT, sT] })
    (v u : Value) (hd : a.eval d = v) (hx : a.eval x = u) {v' : Value} {w' : World} (hr : (Builtin.copy_ #[dT, sT] o.type #[v, u]).run P w = .ok v' w') (hK : K (a.put o.dst v') w') :
    if Region.wanted o (yielded ops a.tmps) = true then Oper.wp P o a w K Q else E := by
  have hw : Region.wanted o (yielded ops a.tmps) = true := by simp [Region.wanted, hg]
  rw [if_pos hw]
  unfold Oper.wp
  simp [execOp, hop, resolve, invoke, builtin, hd, hx, hr, Result.andThen]
  exact hK

end Go.Proofs.Ytcidmaeclonilaa

/- A few nodes at hand, and all else that must stay: what each piece of work does to them. -/
namespace Go.Proofs.Ytcidmaeclonilaa
open Go Go.RowKit

/-- a node as it lies: its block, its three slices, and what they hold -/
structure RN where
  b : Nat
  kv : Value
  vv : Value
  cv : Value
  ks : List Value
  vs : List Value
  ps : List Value
def RN.own (n : RN) : List Nat := n.b :: (ob n.kv ++ (ob n.vv ++ ob n.cv))

structure NodR (T : Tys) (W : World) (n : RN) : Prop where
  blk : Blk W n.b T.nd #[n.kv, n.vv, n.cv]
  kr : Row W 9 n.kv n.ks
  vr : Row W T.val n.vv n.vs
  cr : Row W T.kid n.cv n.ps
  kS : ∀ u ∈ n.ks, StrV u
  vS : ∀ u ∈ n.vs, T.isV u
  pS : ∀ u ∈ n.ps, PtrV u

theorem NodR.lt {T : Tys} {W : World} {n : RN} (H : NodR T W n) : ∀ k ∈ n.own, k < W.heap.size := by
  intro k hk
  rcases List.mem_cons.1 hk with rfl | hk
  · exact H.blk.lt
  · rcases List.mem_append.1 hk with hk | hk
    · exact H.kr.lt k hk
    · rcases List.mem_append.1 hk with hk | hk
      · exact H.vr.lt k hk
      · exact H.cr.lt k hk
theorem NodR.kept {T : Tys} {W W' : World} {n : RN} (H : NodR T W n) (hk : ∀ k ∈ n.own, W'.heap[k]? = W.heap[k]?) : NodR T W' n :=
  ⟨(hk n.b (by simp [RN.own])).trans H.blk, H.kr.kept fun k hm => hk k (by simp [RN.own, hm]), H.vr.kept fun k hm => hk k (by simp [RN.own, hm]), H.cr.kept fun k hm => hk k (by simp [RN.own, hm]), H.kS, H.vS, H.pS⟩

/-- the blocks of some nodes -/
def owns (l : List RN) : List Nat := (l.map RN.own).flatten
@[simp] theorem owns_nil : owns [] = [] := rfl
@[simp] theorem owns_cons (n : RN) (l : List RN) : owns (n :: l) = n.own ++ owns l := rfl
@[simp] theorem owns_append (l m : List RN) : owns (l ++ m) = owns l ++ owns m := by simp [owns]
theorem own_sub_owns {n : RN} {l : List RN} (h : n ∈ l) : ∀ k ∈ n.own, k ∈ owns l := fun _ hk => List.mem_flatten.2 ⟨_, List.mem_map.2 ⟨n, h, rfl⟩, hk⟩

/-- nodes l at hand in W; of what was there in w only blocks of L may have changed, none of F -/
structure Nds (T : Tys) (L F : List Nat) (w W : World) (l : List RN) : Prop where
  nod : ∀ n ∈ l, NodR T W n
  sep : ∀ k, (owns l).count k + F.count k ≤ 1
  fr : ∀ k ∈ F, k < w.heap.size ∧ W.heap[k]? = w.heap[k]?
  chg : Chg L w W
  new : ∀ k ∈ owns l, k ∈ L ∨ w.heap.size ≤ k

section
variable {T : Tys} {L F : List Nat} {w W W' : World} {l A B : List RN} {n : RN}

theorem Nds.F_lt (H : Nds T L F w W l) {k : Nat} (hk : k ∈ F) : k < W.heap.size := Nat.lt_of_lt_of_le (H.fr k hk).1 H.chg.size

/-- nothing at hand has changed -/
theorem Nds.keep (H : Nds T L F w W l) (hg : Chg [] W W') : Nds T L F w W' l :=
  ⟨fun n hn => (H.nod n hn).kept fun k hk => hg.block k ((H.nod n hn).lt k hk) (by simp), H.sep, fun k hk => ⟨(H.fr k hk).1, (hg.block k (H.F_lt hk) (by simp)).trans (H.fr k hk).2⟩, H.chg.trans hg (by simp), H.new⟩
theorem Nds.drew (H : Nds T L F w W l) : Nds T L F w W.drew l := H.keep (Chg.refl _ _).drew
theorem Nds.drewN (H : Nds T L F w W l) (n : Nat) : Nds T L F w (W.drewN n) l := H.keep ((Chg.refl _ _).drewN n)
theorem Nds.alloc (H : Nds T L F w W l) (o : Obj) : Nds T L F w (W.alloc o) l := H.keep ((Chg.refl _ _).alloc o)
theorem Nds.below (H : Nds T L F w W l) (hb : Below W.heap.size W W') : Nds T L F w W' l := H.keep (Chg.of_below hb)

/-- a new node -/
theorem Nds.add (H : Nds T L F w W l) (hn : NodR T W n) (hs : ∀ k, n.own.count k ≤ 1) (hnew : ∀ k ∈ n.own, w.heap.size ≤ k ∧ k ∉ owns l) : Nds T L F w W (n :: l) :=
  ⟨fun m hm => by
    rcases List.mem_cons.1 hm with rfl | hm
    · exact hn
    · exact H.nod m hm, fun k => by
    have h1 := H.sep k
    have h2 := hs k
    rw [owns_cons, List.count_append]
    by_cases hk : k ∈ n.own
    · have h3 := hnew k hk
      have z1 : (owns l).count k = 0 := List.count_eq_zero.2 h3.2
      have z2 : F.count k = 0 := List.count_eq_zero.2 (fun hF => by have := (H.fr k hF).1; omega)
      omega
    · rw [List.count_eq_zero.2 hk]; omega, H.fr, H.chg, fun k hk => by
    rw [owns_cons] at hk
    rcases List.mem_append.1 hk with hk | hk
    · exact .inr (hnew k hk).1
    · exact H.new k hk⟩

theorem Nds.perm (H : Nds T L F w W l) {l' : List RN} (hp : l.Perm l') : Nds T L F w W l' :=
  ⟨fun n hn => H.nod n (hp.mem_iff.2 hn), fun k => by
    have h1 := H.sep k
    have : (owns l').count k = (owns l).count k := List.Perm.count_eq (List.Perm.flatten (hp.symm.map _)) k
    rw [this]; exact h1, H.fr, H.chg, fun k hk => H.new k ((List.Perm.flatten (hp.symm.map RN.own)).mem_iff.1 hk)⟩

theorem count_own (n : RN) (k : Nat) : n.own.count k = (if n.b = k then 1 else 0) + (ob n.kv).count k + (ob n.vv).count k + (ob n.cv).count k := by
  unfold RN.own
  rw [List.count_cons, List.count_append, List.count_append]
  simp only [beq_iff_eq]
  omega

/-- what one piece of work leaves of the others: a change in the node's own blocks L0 alone -/
theorem Nds.others (H : Nds T L F w W (n :: l)) {L0 : List Nat} (hL : ∀ k ∈ L0, k ∈ n.own) (hg : Chg L0 W W') :
    (∀ m ∈ l, NodR T W' m) ∧ (∀ k ∈ F, k < w.heap.size ∧ W'.heap[k]? = w.heap[k]?) ∧ Chg L w W' := by
  have hno : ∀ k, k ∈ L0 → k ∉ owns l ∧ k ∉ F := fun k hk => by
    have h0 := H.sep k
    rw [owns_cons, List.count_append] at h0
    have h1 := List.count_pos_iff.2 (hL k hk)
    exact ⟨fun h => by have := List.count_pos_iff.2 h; omega, fun h => by have := List.count_pos_iff.2 h; omega⟩
  refine ⟨fun m hm => (H.nod m (List.mem_cons_of_mem _ hm)).kept fun k hk => hg.block k ((H.nod m (List.mem_cons_of_mem _ hm)).lt k hk) (fun h => (hno k h).1 (own_sub_owns hm k hk)),
    fun k hk => ⟨(H.fr k hk).1, (hg.block k (H.F_lt hk) (fun h => (hno k h).2 hk)).trans (H.fr k hk).2⟩, H.chg.trans hg fun x hx => H.new x (by rw [owns_cons]; exact List.mem_append_left _ (hL x hx))⟩

/-- the first node is another one now, in its own blocks and new ones -/
theorem Nds.turn (H : Nds T L F w W (n :: l)) {L0 : List Nat} (hL : ∀ k ∈ L0, k ∈ n.own) (hg : Chg L0 W W') {n' : RN} (hn : NodR T W' n') (hs : ∀ k, n'.own.count k ≤ 1) (hsub : ∀ k ∈ n'.own, k ∈ n.own ∨ W.heap.size ≤ k) :
    Nds T L F w W' (n' :: l) := by
  obtain ⟨h1, h2, h3⟩ := H.others hL hg
  refine ⟨fun m hm => ?_, fun k => ?_, h2, h3, fun k hk => ?_⟩
  · rcases List.mem_cons.1 hm with rfl | hm
    · exact hn
    · exact h1 m hm
  · have h0 := H.sep k
    have hk1 := hs k
    rw [owns_cons, List.count_append] at h0 ⊢
    by_cases hk : k ∈ n'.own
    · rcases hsub k hk with hm | hge
      · have := List.count_pos_iff.2 hm
        omega
      · have hz1 : (owns l).count k = 0 := List.count_eq_zero.2 fun h => by
          obtain ⟨o, ho, hko⟩ := List.mem_flatten.1 h
          obtain ⟨m, hm, rfl⟩ := List.mem_map.1 ho
          have := (H.nod m (List.mem_cons_of_mem _ hm)).lt k hko
          omega
        have hz2 : F.count k = 0 := List.count_eq_zero.2 fun h => by have := H.F_lt h; omega
        omega
    · rw [List.count_eq_zero.2 hk]; omega
  · rw [owns_cons] at hk
    rcases List.mem_append.1 hk with hk | hk
    · rcases hsub k hk with hm | hge
      · exact H.new k (by rw [owns_cons]; exact List.mem_append_left _ hm)
      · exact .inr (Nat.le_trans H.chg.size hge)
    · exact H.new k (by rw [owns_cons]; exact List.mem_append_right _ hk)

theorem sep_own (H : Nds T L F w W (n :: l)) (k : Nat) : n.own.count k ≤ 1 := by
  have h0 := H.sep k
  rw [owns_cons, List.count_append] at h0
  omega

theorem ob_le (v : Value) (k : Nat) : (ob v).count k ≤ 1 := by
  unfold ob
  cases v.ownBlock with
  | none => simp
  | some j => simp only [Option.toList_some, List.count_singleton]; split <;> omega

/-- where the new slice of a node lies -/
theorem turn_own {W : World} {v v' : Value} (hown : OwnNew W v v') : ∀ k, k ∈ ob v' → k ∈ ob v ∨ W.heap.size ≤ k := by
  intro k hk
  rcases hown with h | ⟨q, h, hq⟩
  · exact .inl (h ▸ hk)
  · rw [h] at hk; obtain rfl : k = q := by simpa using hk
    exact .inr hq

theorem blk_set3 {W : World} {b : Nat} {t : TypeId} {x y z u : Value} (h : Blk W b t #[x, y, z]) :
    Blk (W.setCell ⟨b, 0, none⟩ u) b t #[u, y, z] ∧ Blk (W.setCell ⟨b, 1, none⟩ u) b t #[x, u, z] ∧ Blk (W.setCell ⟨b, 2, none⟩ u) b t #[x, y, u] := ⟨h.set_ 0 u, h.set_ 1 u, h.set_ 2 u⟩

/-- facts on a node's blocks being apart -/
theorem own_apart (h : ∀ k, n.own.count k ≤ 1) : n.b ∉ ob n.kv ∧ n.b ∉ ob n.vv ∧ n.b ∉ ob n.cv ∧ (∀ k ∈ ob n.kv, k ∉ ob n.vv) ∧ (∀ k ∈ ob n.kv, k ∉ ob n.cv) ∧ (∀ k ∈ ob n.vv, k ∉ ob n.cv) := by
  have hc : ∀ k, (if n.b = k then 1 else 0) + (ob n.kv).count k + (ob n.vv).count k + (ob n.cv).count k ≤ 1 := fun k => by rw [← count_own]; exact h k
  refine ⟨fun hm => ?_, fun hm => ?_, fun hm => ?_, fun k h1 h2 => ?_, fun k h1 h2 => ?_, fun k h1 h2 => ?_⟩
  · have := hc n.b; have := List.count_pos_iff.2 hm; simp only [if_true] at *; omega
  · have := hc n.b; have := List.count_pos_iff.2 hm; simp only [if_true] at *; omega
  · have := hc n.b; have := List.count_pos_iff.2 hm; simp only [if_true] at *; omega
  · have := hc k; have := List.count_pos_iff.2 h1; have := List.count_pos_iff.2 h2; omega
  · have := hc k; have := List.count_pos_iff.2 h1; have := List.count_pos_iff.2 h2; omega
  · have := hc k; have := List.count_pos_iff.2 h1; have := List.count_pos_iff.2 h2; omega

/-- the keys' slice is another one now: the call has turned its block, then the field is set -/
theorem Nds.slotK (H : Nds T L F w W (n :: l)) {kv' : Value} {ks' : List Value} (hg : Chg (ob n.kv) W W') (hr : Row W' 9 kv' ks') (hok : ∀ u ∈ ks', StrV u) (hown : OwnNew W n.kv kv') :
    Nds T L F w (W'.setCell ⟨n.b, 0, none⟩ kv') ({ n with kv := kv', ks := ks' } :: l) := by
  obtain ⟨a1, a2, a3, a4, a5, a6⟩ := own_apart (sep_own H)
  have hN := H.nod n (by simp)
  have hbb : n.b ∉ ob kv' := fun h => (turn_own hown _ h).elim a1 (fun e => by have := hN.blk.lt; omega)
  refine H.turn (L0 := n.b :: ob n.kv) (fun k hk => by
    rcases List.mem_cons.1 hk with rfl | hk
    · simp [RN.own]
    · simp [RN.own, hk]) ((hg.mono (fun x hx => .inl (List.mem_cons_of_mem _ hx))).setCell (.inl (by simp)) _) ⟨?_, ?_, ?_, ?_, hok, hN.vS, hN.pS⟩ ?_ ?_
  · exact (blk_set3 (hN.blk.chg hg a1)).1
  · exact hr.setCell hbb _
  · exact (hN.vr.chg hg (fun k h1 h2 => a4 k h2 h1)).setCell a2 _
  · exact (hN.cr.chg hg (fun k h1 h2 => a5 k h2 h1)).setCell a3 _
  · intro k
    have h0 := sep_own H k
    rw [count_own] at h0 ⊢
    show (if n.b = k then 1 else 0) + (ob kv').count k + (ob n.vv).count k + (ob n.cv).count k ≤ 1
    rcases hown with e | ⟨q, e, hq⟩
    · rw [e]; exact h0
    · rw [e]
      by_cases hk : q = k
      · subst hk
        have z1 : ¬ n.b = q := fun e => by have := hN.blk.lt; omega
        have z2 : (ob n.vv).count q = 0 := List.count_eq_zero.2 fun h => by have := hN.vr.lt _ h; omega
        have z3 : (ob n.cv).count q = 0 := List.count_eq_zero.2 fun h => by have := hN.cr.lt _ h; omega
        rw [if_neg z1, z2, z3]; simp
      · rw [List.count_eq_zero.2 (show k ∉ [q] by simpa using fun e => hk e.symm)]; omega
  · intro k hk
    rcases List.mem_cons.1 hk with rfl | hk
    · exact .inl (by simp [RN.own])
    · rcases List.mem_append.1 hk with hk | hk
      · exact (turn_own hown k hk).imp (fun h => by simp [RN.own, h]) (fun h => by omega)
      · exact .inl (List.mem_cons_of_mem _ (List.mem_append_right _ hk))

theorem Nds.slotV (H : Nds T L F w W (n :: l)) {vv' : Value} {vs' : List Value} (hg : Chg (ob n.vv) W W') (hr : Row W' T.val vv' vs') (hok : ∀ u ∈ vs', T.isV u) (hown : OwnNew W n.vv vv') :
    Nds T L F w (W'.setCell ⟨n.b, 1, none⟩ vv') ({ n with vv := vv', vs := vs' } :: l) := by
  obtain ⟨a1, a2, a3, a4, a5, a6⟩ := own_apart (sep_own H)
  have hN := H.nod n (by simp)
  have hbb : n.b ∉ ob vv' := fun h => (turn_own hown _ h).elim a2 (fun e => by have := hN.blk.lt; omega)
  refine H.turn (L0 := n.b :: ob n.vv) (fun k hk => by
    rcases List.mem_cons.1 hk with rfl | hk
    · simp [RN.own]
    · simp [RN.own, hk]) ((hg.mono (fun x hx => .inl (List.mem_cons_of_mem _ hx))).setCell (.inl (by simp)) _) ⟨?_, ?_, ?_, ?_, hN.kS, hok, hN.pS⟩ ?_ ?_
  · exact (blk_set3 (hN.blk.chg hg a2)).2.1
  · exact (hN.kr.chg hg (fun k h1 h2 => a4 k h1 h2)).setCell a1 _
  · exact hr.setCell hbb _
  · exact (hN.cr.chg hg (fun k h1 h2 => a6 k h2 h1)).setCell a3 _
  · intro k
    have h0 := sep_own H k
    rw [count_own] at h0 ⊢
    show (if n.b = k then 1 else 0) + (ob n.kv).count k + (ob vv').count k + (ob n.cv).count k ≤ 1
    rcases hown with e | ⟨q, e, hq⟩
    · rw [e]; exact h0
    · rw [e]
      by_cases hk : q = k
      · subst hk
        have z1 : ¬ n.b = q := fun e => by have := hN.blk.lt; omega
        have z2 : (ob n.kv).count q = 0 := List.count_eq_zero.2 fun h => by have := hN.kr.lt _ h; omega
        have z3 : (ob n.cv).count q = 0 := List.count_eq_zero.2 fun h => by have := hN.cr.lt _ h; omega
        rw [if_neg z1, z2, z3]; simp
      · rw [List.count_eq_zero.2 (show k ∉ [q] by simpa using fun e => hk e.symm)]; omega
  · intro k hk
    rcases List.mem_cons.1 hk with rfl | hk
    · exact .inl (by simp [RN.own])
    · rcases List.mem_append.1 hk with hk | hk
      · exact .inl (by simp [RN.own]; exact .inr (.inl hk))
      · rcases List.mem_append.1 hk with hk | hk
        · exact (turn_own hown k hk).imp (fun h => by simp [RN.own, h]) (fun h => by omega)
        · exact .inl (by simp [RN.own]; exact .inr (.inr (.inr hk)))

theorem Nds.slotC (H : Nds T L F w W (n :: l)) {cv' : Value} {ps' : List Value} (hg : Chg (ob n.cv) W W') (hr : Row W' T.kid cv' ps') (hok : ∀ u ∈ ps', PtrV u) (hown : OwnNew W n.cv cv') :
    Nds T L F w (W'.setCell ⟨n.b, 2, none⟩ cv') ({ n with cv := cv', ps := ps' } :: l) := by
  obtain ⟨a1, a2, a3, a4, a5, a6⟩ := own_apart (sep_own H)
  have hN := H.nod n (by simp)
  have hbb : n.b ∉ ob cv' := fun h => (turn_own hown _ h).elim a3 (fun e => by have := hN.blk.lt; omega)
  refine H.turn (L0 := n.b :: ob n.cv) (fun k hk => by
    rcases List.mem_cons.1 hk with rfl | hk
    · simp [RN.own]
    · simp [RN.own, hk]) ((hg.mono (fun x hx => .inl (List.mem_cons_of_mem _ hx))).setCell (.inl (by simp)) _) ⟨?_, ?_, ?_, ?_, hN.kS, hN.vS, hok⟩ ?_ ?_
  · exact (blk_set3 (hN.blk.chg hg a3)).2.2
  · exact (hN.kr.chg hg (fun k h1 h2 => a5 k h1 h2)).setCell a1 _
  · exact (hN.vr.chg hg (fun k h1 h2 => a6 k h1 h2)).setCell a2 _
  · exact hr.setCell hbb _
  · intro k
    have h0 := sep_own H k
    rw [count_own] at h0 ⊢
    show (if n.b = k then 1 else 0) + (ob n.kv).count k + (ob n.vv).count k + (ob cv').count k ≤ 1
    rcases hown with e | ⟨q, e, hq⟩
    · rw [e]; exact h0
    · rw [e]
      by_cases hk : q = k
      · subst hk
        have z1 : ¬ n.b = q := fun e => by have := hN.blk.lt; omega
        have z2 : (ob n.kv).count q = 0 := List.count_eq_zero.2 fun h => by have := hN.kr.lt _ h; omega
        have z3 : (ob n.vv).count q = 0 := List.count_eq_zero.2 fun h => by have := hN.vr.lt _ h; omega
        rw [if_neg z1, z2, z3]; simp
      · rw [List.count_eq_zero.2 (show k ∉ [q] by simpa using fun e => hk e.symm)]; omega
  · intro k hk
    rcases List.mem_cons.1 hk with rfl | hk
    · exact .inl (by simp [RN.own])
    · rcases List.mem_append.1 hk with hk | hk
      · exact .inl (by simp [RN.own]; exact .inr (.inl hk))
      · rcases List.mem_append.1 hk with hk | hk
        · exact .inl (by simp [RN.own]; exact .inr (.inr (.inl hk)))
        · exact (turn_own hown k hk).imp (fun h => by simp [RN.own, h]) (fun h => by omega)
end

/-- behind a call that turned a slice of the first node alone: its fields and the other nodes are as they were -/
theorem Nds.mid {T : Tys} {L F : List Nat} {w W W' : World} {l : List RN} {n : RN} (H : Nds T L F w W (n :: l)) {v : Value} (hv : v = n.kv ∨ v = n.vv ∨ v = n.cv) (hg : Chg (ob v) W W') :
    Blk W' n.b T.nd #[n.kv, n.vv, n.cv] ∧ ∀ m ∈ l, NodR T W' m := by
  obtain ⟨a1, a2, a3, a4, a5, a6⟩ := own_apart (sep_own H)
  have hN := H.nod n (by simp)
  refine ⟨hN.blk.chg hg ?_, (H.others (L0 := ob v) (fun k hk => ?_) hg).1⟩
  · rcases hv with rfl | rfl | rfl <;> assumption
  · rcases hv with rfl | rfl | rfl <;> simp [RN.own, hk]

theorem NodR.kcell {T : Tys} {W : World} {b g n c : Nat} {vv cv : Value} {ks vs ps : List Value} (H : NodR T W ⟨b, .slice (some ⟨g, 0, none⟩) n c, vv, cv, ks, vs, ps⟩) {j : Nat} {u : Value} (h : ks[j]? = some u) : W.cell? ⟨g, j, none⟩ = some u := by
  obtain ⟨A, c', he, _, _, hh⟩ := H.kr
  injection he with e1 _ _
  subst e1
  rcases hh with ⟨h, _⟩ | ⟨g', cur, h', hB, _, hxs⟩
  · cases h
  · injection h' with h'; injection h' with h'; subst h'
    exact (hB.cell j).trans (hxs j u h)
theorem NodR.vcell {T : Tys} {W : World} {b g n c : Nat} {kv cv : Value} {ks vs ps : List Value} (H : NodR T W ⟨b, kv, .slice (some ⟨g, 0, none⟩) n c, cv, ks, vs, ps⟩) {j : Nat} {u : Value} (h : vs[j]? = some u) : W.cell? ⟨g, j, none⟩ = some u := by
  obtain ⟨A, c', he, _, _, hh⟩ := H.vr
  injection he with e1 _ _
  subst e1
  rcases hh with ⟨h, _⟩ | ⟨g', cur, h', hB, _, hxs⟩
  · cases h
  · injection h' with h'; injection h' with h'; subst h'
    exact (hB.cell j).trans (hxs j u h)

/-! ### rows cut, rows with one element set -/
theorem Row.pre {w : World} {e : TypeId} {A : Option Addr} {n c : Nat} {xs : List Value} (h : Row w e (.slice A n c) xs) {d c' : Nat} (hd : d ≤ n) (hc : d ≤ c') (hcc : c' ≤ c) (hA : A ≠ none) :
    Row w e (.slice A d c') (xs.take d) := by
  obtain ⟨A', c0, he, h1, h2, h⟩ := h
  injection he with e1 e2 e3
  subst e1 e3
  have hl : (xs.take d).length = d := by rw [List.length_take]; omega
  refine ⟨A, c', by rw [hl], by rw [hl]; exact hc, Nat.le_trans hcc h2, ?_⟩
  rcases h with ⟨rfl, _⟩ | ⟨g, cur, rfl, hB, hcs, hxs⟩
  · exact absurd rfl hA
  · exact .inr ⟨g, cur, rfl, hB, by omega, fun j u hj => by
      rw [List.getElem?_take] at hj
      split at hj
      · exact hxs j u hj
      · cases hj⟩

theorem Row.setAt {w : World} {e : TypeId} {g n c i : Nat} {xs : List Value} {u : Value} (h : Row w e (.slice (some ⟨g, 0, none⟩) n c) xs) (hi : i < n) : Row (w.setCell ⟨g, i, none⟩ u) e (.slice (some ⟨g, 0, none⟩) n c) (xs.set i u) := by
  obtain ⟨A', c0, he, h1, h2, h⟩ := h
  injection he with e1 e2 e3
  subst e1 e3
  rcases h with ⟨h, _⟩ | ⟨g', cur, h, hB, hcs, hxs⟩
  · cases h
  injection h with h
  injection h with h
  subst h
  refine ⟨_, c, by rw [List.length_set, e2], by rw [List.length_set]; exact h1, h2, .inr ⟨g, _, rfl, hB.set_ i u, by simpa using hcs, fun j x hj => ?_⟩⟩
  by_cases hij : i = j
  · subst hij
    rw [List.getElem?_set_self (by omega)] at hj
    rw [Array.getElem?_setIfInBounds_self_of_lt (by omega)]
    exact hj
  · rw [List.getElem?_set_ne hij] at hj
    rw [Array.getElem?_setIfInBounds_ne hij]
    exact hxs j x hj

/-- the slice's own form -/
theorem Row.form {w : World} {e : TypeId} {v : Value} {xs : List Value} (h : Row w e v xs) : ∃ (A : Option Addr) (c : Nat), v = .slice A xs.length c ∧ xs.length ≤ c ∧ c ≤ 9223372036854775807 ∧
    (∀ j u, xs[j]? = some u → ∃ g, A = some ⟨g, 0, none⟩ ∧ w.cell? ⟨g, j, none⟩ = some u ∧ w.frozen? ⟨g, j, none⟩ = false) ∧ (0 < xs.length → ∃ g, A = some ⟨g, 0, none⟩) := by
  obtain ⟨A, c, rfl, h1, h2, h⟩ := h
  refine ⟨A, c, rfl, h1, by unfold maxLen at h2; exact h2, fun j u hj => ?_, fun h0 => ?_⟩
  · rcases h with ⟨rfl, h⟩ | ⟨g, cur, rfl, hB, hcs, hxs⟩
    · have := (List.getElem?_eq_some_iff.1 hj).1; omega
    · exact ⟨g, rfl, (hB.cell j).trans (hxs j u hj), hB.frozen j⟩
  · rcases h with ⟨rfl, h⟩ | ⟨g, cur, rfl, hB, hcs, hxs⟩
    · omega
    · exact ⟨g, rfl⟩

theorem Row.formN {w : World} {e : TypeId} {v : Value} {xs : List Value} (h : Row w e v xs) {n : Nat} (hn : xs.length = n) : ∃ (A : Option Addr) (c : Nat), v = .slice A n c ∧ n ≤ c ∧ c ≤ 9223372036854775807 ∧
    (∀ j u, xs[j]? = some u → ∃ g, A = some ⟨g, 0, none⟩ ∧ w.cell? ⟨g, j, none⟩ = some u ∧ w.frozen? ⟨g, j, none⟩ = false) ∧ (0 < n → ∃ g, A = some ⟨g, 0, none⟩) := by
  subst hn; exact h.form

/-- a node of the ghost tree as it lies -/
def rn (t : GT) : RN := ⟨t.b, t.kv, t.vv, t.cv, t.ks.map Value.string, t.vs, t.cs.map ptr⟩
theorem Nod.rn {T : Tys} {w : World} {t : GT} (h : Nod T w t) : NodR T w (rn t) := ⟨h.blk, h.kr, h.vr, h.cr, fun u hu => by
  obtain ⟨s, _, rfl⟩ := List.mem_map.1 hu; exact ⟨s, rfl⟩, h.v1, fun u hu => by
  obtain ⟨c, _, rfl⟩ := List.mem_map.1 hu; exact ⟨c.b, rfl⟩⟩
theorem own_rn (t : GT) : (rn t).own = own t := rfl

/-- an element of the first node is set -/
theorem Nds.setV {T : Tys} {L F : List Nat} {w W : World} {l : List RN} {n : RN} (H : Nds T L F w W (n :: l)) {g m c i : Nat} {u : Value} (hv : n.vv = .slice (some ⟨g, 0, none⟩) m c) (hi : i < m) (hu : T.isV u) :
    Nds T L F w (W.setCell ⟨g, i, none⟩ u) ({ n with vs := n.vs.set i u } :: l) := by
  obtain ⟨a1, a2, a3, a4, a5, a6⟩ := own_apart (sep_own H)
  have hN := H.nod n (by simp)
  have hg : g ∈ ob n.vv := by rw [hv]; simp
  refine H.turn (L0 := [g]) (fun k hk => by obtain rfl : k = g := by simpa using hk
                                            simp [RN.own, hg]) ((Chg.refl [g] W).setCell (.inl (by simp)) _) ⟨?_, ?_, ?_, ?_, hN.kS, fun x hx => ?_, hN.pS⟩ (fun k => (sep_own H k : n.own.count k ≤ 1)) (fun k hk => .inl hk)
  · exact hN.blk.far (fun e => a2 (by rw [show n.b = g from e]; exact hg)) _
  · exact hN.kr.setCell (fun h => a4 g h hg) _
  · have := hN.vr
    rw [hv] at this
    show Row _ T.val n.vv (n.vs.set i u)
    rw [hv]
    exact this.setAt hi
  · exact hN.cr.setCell (fun h => a6 g hg h) _
  · rcases List.mem_or_eq_of_mem_set hx with hx | rfl
    · exact hN.vS x hx
    · exact hu
theorem Nds.setK {T : Tys} {L F : List Nat} {w W : World} {l : List RN} {n : RN} (H : Nds T L F w W (n :: l)) {g m c i : Nat} {u : Value} (hv : n.kv = .slice (some ⟨g, 0, none⟩) m c) (hi : i < m) (hu : StrV u) :
    Nds T L F w (W.setCell ⟨g, i, none⟩ u) ({ n with ks := n.ks.set i u } :: l) := by
  obtain ⟨a1, a2, a3, a4, a5, a6⟩ := own_apart (sep_own H)
  have hN := H.nod n (by simp)
  have hg : g ∈ ob n.kv := by rw [hv]; simp
  refine H.turn (L0 := [g]) (fun k hk => by obtain rfl : k = g := by simpa using hk
                                            simp [RN.own, hg]) ((Chg.refl [g] W).setCell (.inl (by simp)) _) ⟨?_, ?_, ?_, ?_, fun x hx => ?_, hN.vS, hN.pS⟩ (fun k => (sep_own H k : n.own.count k ≤ 1)) (fun k hk => .inl hk)
  · exact hN.blk.far (fun e => a1 (by rw [show n.b = g from e]; exact hg)) _
  · have := hN.kr
    rw [hv] at this
    show Row _ 9 n.kv (n.ks.set i u)
    rw [hv]
    exact this.setAt hi
  · exact hN.vr.setCell (fun h => a4 g hg h) _
  · exact hN.cr.setCell (fun h => a5 g hg h) _
  · rcases List.mem_or_eq_of_mem_set hx with hx | rfl
    · exact hN.kS x hx
    · exact hu

end Go.Proofs.Ytcidmaeclonilaa

/- What split of nodes means for the tree. -/
namespace Go.Proofs.Ytcidmaeclonilaa
open Go Go.RowKit

theorem weave_at {α : Type} {A : List (List α)} {X : List α} {j : Nat} {x : α} (hl : A.length = X.length + 1) (hx : X[j]? = some x) :
    weave A X = weave (A.take (j + 1)) (X.take j) ++ x :: weave (A.drop (j + 1)) (X.drop (j + 1)) := by
  have hj := (List.getElem?_eq_some_iff.1 hx).1
  obtain ⟨c, hc⟩ : ∃ c, A[j]? = some c := ⟨_, List.getElem?_eq_getElem (by omega)⟩
  have hA := split_at hc
  have hX := split_at hx
  have h1 : weave A X = wl (A.take j) (X.take j) ++ c ++ wr (x :: X.drop (j + 1)) (A.drop (j + 1)) :=
    (congr (congrArg weave hA) hX).trans (weave_split (by simp; omega))
  have h2 : weave (A.take (j + 1)) (X.take j) = wl (A.take j) (X.take j) ++ c := by
    have e1 : A.take (j + 1) = A.take j ++ c :: [] := by
      rw [List.take_add_one, hc]; rfl
    have e2 : X.take j = X.take j ++ [] := by simp
    rw [e1, e2, weave_split (by simp; omega)]
    simp [wr]
  obtain ⟨b, B, hB⟩ : ∃ b B, A.drop (j + 1) = b :: B := by
    cases h : A.drop (j + 1) with
    | nil => have := congrArg List.length h; simp at this; omega
    | cons b B => exact ⟨b, B, rfl⟩
  rw [h1, h2, hB]
  simp [wr, weave]

/-- what lies below a node's own blocks -/
def sb : Nat → GT → List Nat
  | 0, _ => []
  | h + 1, t => (t.cs.map (fp h)).flatten
theorem fp_sb (h : Nat) (t : GT) : fp h t = own t ++ sb h t := by cases h <;> simp [fp, sb]

/-- the rest of a tree beside a node and its child i -/
def rest (h : Nat) (t c : GT) (i : Nat) : List Nat := ((t.cs.take i).map (fp h)).flatten ++ (sb h c ++ ((t.cs.drop (i + 1)).map (fp h)).flatten)

theorem nod_of_rn {T : Tys} {w : World} {t : GT} (h : NodR T w (rn t)) : Nod T w t := ⟨h.blk, h.kr, h.vr, h.cr, h.vS⟩

theorem fp_rest {h : Nat} {t c : GT} {i : Nat} (hc : t.cs[i]? = some c) (k : Nat) : (fp (h + 1) t).count k = (own t).count k + (own c).count k + (rest h t c i).count k := by
  rw [fp_kid hc, fp_sb h c]
  simp only [rest, List.count_append]
  omega

/-- two nodes of a tree at hand -/
theorem Tre.two {T : Tys} {w : World} {h : Nat} {t c : GT} {i : Nat} (H : Tre T w (h + 1) t) (hc : t.cs[i]? = some c) : Nds T (fp (h + 1) t) (rest h t c i) w w [rn t, rn c] := by
  have hk : ∀ k, k ∈ rest h t c i → k ∈ fp (h + 1) t := fun k hk => by
    have := fp_rest (h := h) hc k
    have := List.count_pos_iff.2 hk
    exact List.count_pos_iff.1 (by omega)
  refine ⟨fun n hn => ?_, fun k => ?_, fun k hk' => ⟨H.rep.lt k (hk k hk'), rfl⟩, Chg.refl _ _, fun k hk' => .inl ?_⟩
  · rcases List.mem_cons.1 hn with rfl | hn
    · exact H.nod.rn
    · obtain rfl : n = rn c := by simpa using hn
      exact (H.kid hc).nod.rn
  · have h1 := H.sep k
    rw [fp_rest hc] at h1
    simp only [owns_cons, owns_nil, List.count_append, List.count_nil, own_rn]
    omega
  · have := fp_rest (h := h) hc k
    simp only [owns_cons, owns_nil, List.append_nil, List.mem_append, own_rn] at hk'
    rcases hk' with h1 | h1
    · have := List.count_pos_iff.2 h1
      exact List.count_pos_iff.1 (by omega)
    · have := List.count_pos_iff.2 h1
      exact List.count_pos_iff.1 (by omega)

/-- a subtree that lies in F is there still -/
theorem Nds.sub {T : Tys} {L F : List Nat} {w W : World} {l : List RN} (H : Nds T L F w W l) {h : Nat} {d : GT} (hr : Rep T w h d) (hF : ∀ k ∈ fp h d, k ∈ F) : Rep T W h d :=
  hr.kept fun k hk => (H.fr k (hF k hk)).2

theorem map_take_succ {α β : Type} (f : α → β) {l : List α} {i : Nat} {c : α} (h : l[i]? = some c) : (l.map f).take (i + 1) = (l.take i).map f ++ [f c] := by
  rw [List.take_add_one, List.getElem?_map, h, List.map_take]; rfl

/-- the tree behind a split -/
def splitT (t c : GT) (i : Nat) (k3 : ByteArray) (v3 : Value) (n' c' r : RN) : GT :=
  .node t.b n'.kv n'.vv n'.cv (t.ks.take i ++ k3 :: t.ks.drop i) (t.vs.take i ++ v3 :: t.vs.drop i)
    (t.cs.take i ++ .node c.b c'.kv c'.vv c'.cv (c.ks.take 3) (c.vs.take 3) (c.cs.take 4) :: .node r.b r.kv r.vv r.cv (c.ks.drop 4) (c.vs.drop 4) (c.cs.drop 4) :: t.cs.drop (i + 1))

theorem split_shape {h : Nat} {t c : GT} {i : Nat} {k3 : ByteArray} {v3 : Value} {n' c' r : RN} (B : BT (h + 1) t) (h6 : t.ks.length ≤ 6) (hc : t.cs[i]? = some c) (h7 : c.ks.length = 7) (hk : c.ks[3]? = some k3) (hv : c.vs[3]? = some v3) :
    BT (h + 1) (splitT t c i k3 v3 n' c' r) ∧ toL (h + 1) (splitT t c i k3 v3 n' c' r) = toL (h + 1) t := by
  have hi : i < t.cs.length := (List.getElem?_eq_some_iff.1 hc).1
  have b1 := B.1
  have b2 := B.2.1
  have Bc := (B.kid (List.mem_of_getElem? hc)).1
  have v7 := Bc.vs
  have hp3 : c.ps[3]? = some (k3, v3) := by rw [GT.ps, List.getElem?_zip_eq_some]; exact ⟨hk, hv⟩
  -- the two halves
  have halves : BT h (.node c.b c'.kv c'.vv c'.cv (c.ks.take 3) (c.vs.take 3) (c.cs.take 4)) ∧ BT h (.node r.b r.kv r.vv r.cv (c.ks.drop 4) (c.vs.drop 4) (c.cs.drop 4)) ∧
      toL h c = toL h (.node c.b c'.kv c'.vv c'.cv (c.ks.take 3) (c.vs.take 3) (c.cs.take 4)) ++ (k3, v3) :: toL h (.node r.b r.kv r.vv r.cv (c.ks.drop 4) (c.vs.drop 4) (c.cs.drop 4)) := by
    have e1 : (GT.node c.b c'.kv c'.vv c'.cv (c.ks.take 3) (c.vs.take 3) (c.cs.take 4)).ps = c.ps.take 3 := by rw [ps_take]; rfl
    have e2 : (GT.node r.b r.kv r.vv r.cv (c.ks.drop 4) (c.vs.drop 4) (c.cs.drop 4)).ps = c.ps.drop 4 := by rw [ps_drop]; rfl
    cases h with
    | zero =>
      have hcs : c.cs = [] := Bc.1
      refine ⟨⟨by simp [hcs], by simp; omega, by simp; omega⟩, ⟨by simp [hcs], by simp; omega, by simp; omega⟩, ?_⟩
      show c.ps = _ ++ _ :: _
      rw [show toL 0 _ = _ from e1, show toL 0 _ = _ from e2]
      exact split_at hp3
    | succ h =>
      have c1 := Bc.1
      refine ⟨⟨by simp; omega, by simp; omega, by simp; omega, fun d hd => Bc.2.2.2 d (List.mem_of_mem_take hd)⟩, ⟨by simp; omega, by simp; omega, by simp; omega, fun d hd => Bc.2.2.2 d (List.mem_of_mem_drop hd)⟩, ?_⟩
      show weave (c.cs.map (toL h)) c.ps = weave ((c.cs.take 4).map (toL h)) _ ++ _ :: weave ((c.cs.drop 4).map (toL h)) _
      rw [e1, e2, weave_at (j := 3) (by rw [List.length_map, Bc.ps_len]; exact c1) hp3, List.map_take, List.map_drop]
  refine ⟨⟨?_, ?_, ?_, fun d hd => ?_⟩, ?_⟩
  · simp [splitT]; omega
  · simp [splitT]; omega
  · simp [splitT]; omega
  · simp only [splitT, GT.cs_node] at hd
    rcases List.mem_append.1 hd with hd | hd
    · exact B.2.2.2 d (List.mem_of_mem_take hd)
    · rcases List.mem_cons.1 hd with rfl | hd
      · exact ⟨halves.1, by simp; omega⟩
      · rcases List.mem_cons.1 hd with rfl | hd
        · exact ⟨halves.2.1, by simp; omega⟩
        · exact B.2.2.2 d (List.mem_of_mem_drop hd)
  · rw [toL_split B (by omega) hc, halves.2.2]
    show weave ((splitT t c i k3 v3 n' c' r).cs.map (toL h)) (splitT t c i k3 v3 n' c' r).ps = _
    have eps : (splitT t c i k3 v3 n' c' r).ps = t.ps.take i ++ (k3, v3) :: t.ps.drop i := by
      show (t.ks.take i ++ k3 :: t.ks.drop i).zip (t.vs.take i ++ v3 :: t.vs.drop i) = _
      rw [List.zip_append (by simp; omega), List.zip_cons_cons, ps_take, ps_drop]
    rw [eps]
    simp only [splitT, GT.cs_node, List.map_append, List.map_cons]
    rw [weave_split (by simp [B.ps_len]; omega)]
    simp [wr, Lf, Rt]

theorem split_rep {T : Tys} {w w' : World} {h : Nat} {t c : GT} {i : Nat} {k3 : ByteArray} {v3 : Value} {n' c' r : RN} (H : Tre T w (h + 1) t) (B : BT (h + 1) t) (hc : t.cs[i]? = some c)
    (hN : Nds T (fp (h + 1) t) (rest h t c i) w w' [n', c', r]) (e1 : n'.b = t.b) (e2 : c'.b = c.b)
    (k1 : n'.ks = (rn t).ks.take i ++ .string k3 :: (rn t).ks.drop i) (k2 : n'.vs = t.vs.take i ++ v3 :: t.vs.drop i) (k4 : n'.ps = (rn t).ps.take (i + 1) ++ .pointer (some ⟨r.b, 0, none⟩) :: (rn t).ps.drop (i + 1))
    (c1 : c'.ks = (rn c).ks.take 3) (c2 : c'.vs = c.vs.take 3) (c3 : c'.ps = (rn c).ps.take 4) (r1 : r.ks = (rn c).ks.drop 4) (r2 : r.vs = c.vs.drop 4) (r3 : r.ps = (rn c).ps.drop 4) :
    Tre T w' (h + 1) (splitT t c i k3 v3 n' c' r) ∧ Sub w (fp (h + 1) (splitT t c i k3 v3 n' c' r)) (fp (h + 1) t) := by
  have hi : i < t.cs.length := (List.getElem?_eq_some_iff.1 hc).1
  have en : rn (splitT t c i k3 v3 n' c' r) = n' := by
    obtain ⟨b, kv, vv, cv, ks, vs, ps⟩ := n'
    simp only at e1 k1 k2 k4
    subst e1 k1 k2 k4
    simp only [rn, splitT, GT.b_node, GT.kv_node, GT.vv_node, GT.cv_node, GT.ks_node, GT.vs_node, GT.cs_node, RN.mk.injEq, true_and]
    refine ⟨by simp, ?_⟩
    rw [map_take_succ ptr hc]
    simp [ptr, GT.b_node, List.map_append]
  have ec : rn (.node c.b c'.kv c'.vv c'.cv (c.ks.take 3) (c.vs.take 3) (c.cs.take 4)) = c' := by
    obtain ⟨b, kv, vv, cv, ks, vs, ps⟩ := c'
    simp only at e2 c1 c2 c3
    subst e2 c1 c2 c3
    simp [rn]
  have er : rn (.node r.b r.kv r.vv r.cv (c.ks.drop 4) (c.vs.drop 4) (c.cs.drop 4)) = r := by
    obtain ⟨b, kv, vv, cv, ks, vs, ps⟩ := r
    simp only at r1 r2 r3
    subst r1 r2 r3
    simp [rn]
  have hcount : ∀ k, (fp (h + 1) (splitT t c i k3 v3 n' c' r)).count k = (owns [n', c', r]).count k + (rest h t c i).count k := by
    intro k
    have hsb : (sb h (.node c.b c'.kv c'.vv c'.cv (c.ks.take 3) (c.vs.take 3) (c.cs.take 4))).count k + (sb h (.node r.b r.kv r.vv r.cv (c.ks.drop 4) (c.vs.drop 4) (c.cs.drop 4))).count k = (sb h c).count k := by
      cases h with
      | zero => simp [sb]
      | succ h =>
        show (((c.cs.take 4).map (fp h)).flatten).count k + (((c.cs.drop 4).map (fp h)).flatten).count k = ((c.cs.map (fp h)).flatten).count k
        rw [← List.count_append, ← List.flatten_append, ← List.map_append, List.take_append_drop]
    have ho1 : own (splitT t c i k3 v3 n' c' r) = n'.own := by rw [← own_rn, en]
    have ho2 : own (.node c.b c'.kv c'.vv c'.cv (c.ks.take 3) (c.vs.take 3) (c.cs.take 4)) = c'.own := by rw [← own_rn, ec]
    have ho3 : own (.node r.b r.kv r.vv r.cv (c.ks.drop 4) (c.vs.drop 4) (c.cs.drop 4)) = r.own := by rw [← own_rn, er]
    show (own (splitT t c i k3 v3 n' c' r) ++ ((splitT t c i k3 v3 n' c' r).cs.map (fp h)).flatten).count k = _
    rw [ho1]
    simp only [splitT, GT.cs_node, List.map_append, List.map_cons, List.flatten_append, List.flatten_cons, List.count_append, fp_sb h (.node c.b _ _ _ _ _ _), fp_sb h (.node r.b _ _ _ _ _ _), ho2, ho3, owns_cons, owns_nil, List.count_nil, rest]
    omega
  refine ⟨⟨⟨nod_of_rn (by rw [en]; exact hN.nod n' (by simp)), fun d hd => ?_⟩, fun k => ?_⟩, fun k hk => ?_⟩
  · simp only [splitT, GT.cs_node] at hd
    have hin : ∀ j e, t.cs[j]? = some e → j ≠ i → ∀ k ∈ fp h e, k ∈ rest h t c i := fun j e he hj k hk => by
      unfold rest
      rcases Nat.lt_or_gt_of_ne hj with hlt | hgt
      · exact List.mem_append_left _ (List.mem_flatten.2 ⟨_, List.mem_map.2 ⟨e, List.mem_of_getElem? (i := j) (by rw [List.getElem?_take_of_lt hlt]; exact he), rfl⟩, hk⟩)
      · exact List.mem_append_right _ (List.mem_append_right _ (List.mem_flatten.2 ⟨_, List.mem_map.2 ⟨e, List.mem_of_getElem? (i := j - (i + 1)) (by rw [List.getElem?_drop, show i + 1 + (j - (i + 1)) = j by omega]; exact he), rfl⟩, hk⟩))
    have hkid : ∀ h', h = h' + 1 → ∀ e ∈ c.cs, Rep T w' h' e := fun h' hh e he => by
      subst hh
      exact hN.sub ((H.kid hc).rep.2 e he) fun k hk => by
        unfold rest
        exact List.mem_append_right _ (List.mem_append_left _ (List.mem_flatten.2 ⟨_, List.mem_map.2 ⟨e, he, rfl⟩, hk⟩))
    rcases List.mem_append.1 hd with hd | hd
    · obtain ⟨j, hj⟩ := List.mem_iff_getElem?.1 hd
      rw [List.getElem?_take] at hj
      split at hj
      · rename_i hlt
        exact hN.sub (H.rep.2 d (List.mem_of_getElem? hj)) (hin j d hj (by omega))
      · cases hj
    · rcases List.mem_cons.1 hd with rfl | hd
      · have hn := nod_of_rn (T := T) (w := w') (t := .node c.b c'.kv c'.vv c'.cv (c.ks.take 3) (c.vs.take 3) (c.cs.take 4)) (by rw [ec]; exact hN.nod c' (by simp))
        cases h with
        | zero => exact hn
        | succ h => exact ⟨hn, fun e he => hkid h rfl e (List.mem_of_mem_take he)⟩
      · rcases List.mem_cons.1 hd with rfl | hd
        · have hn := nod_of_rn (T := T) (w := w') (t := .node r.b r.kv r.vv r.cv (c.ks.drop 4) (c.vs.drop 4) (c.cs.drop 4)) (by rw [er]; exact hN.nod r (by simp))
          cases h with
          | zero => exact hn
          | succ h => exact ⟨hn, fun e he => hkid h rfl e (List.mem_of_mem_drop he)⟩
        · obtain ⟨j, hj⟩ := List.mem_iff_getElem?.1 hd
          rw [List.getElem?_drop] at hj
          exact hN.sub (H.rep.2 d (List.mem_of_getElem? hj)) (hin _ d hj (by omega))
  · rw [hcount]; exact hN.sep k
  · have h0 := hcount k
    have h1 := List.count_pos_iff.2 hk
    by_cases hm : k ∈ owns [n', c', r]
    · exact hN.new k hm
    · have hm' := List.count_eq_zero.2 hm
      have hr : k ∈ rest h t c i := List.count_pos_iff.1 (by omega)
      left
      have := fp_rest (h := h) hc k
      have := List.count_pos_iff.2 hr
      exact List.count_pos_iff.1 (by omega)

/-- one node of a tree at hand -/
theorem Tre.one {T : Tys} {w : World} {h : Nat} {t : GT} (H : Tre T w h t) : Nds T (fp h t) (sb h t) w w [rn t] := by
  refine ⟨fun n hn => ?_, fun k => ?_, fun k hk => ⟨H.rep.lt k (by rw [fp_sb]; exact List.mem_append_right _ hk), rfl⟩, Chg.refl _ _, fun k hk => .inl ?_⟩
  · obtain rfl : n = rn t := by simpa using hn
    exact H.nod.rn
  · have := H.sep k
    rw [fp_sb, List.count_append] at this
    simp only [owns_cons, owns_nil, List.append_nil, own_rn]
    omega
  · rw [fp_sb]
    simp only [owns_cons, owns_nil, List.append_nil, own_rn] at hk
    exact List.mem_append_left _ hk

/-- a node has changed in its own slices, the children are the same -/
theorem Tre.of_one {T : Tys} {w w' : World} {h : Nat} {t t' : GT} (H : Tre T w h t) {n' : RN} (hN : Nds T (fp h t) (sb h t) w w' [n']) (hn : rn t' = n') (hc : t'.cs = t.cs) : Tre T w' h t' ∧ Sub w (fp h t') (fp h t) := by
  have hsb : sb h t' = sb h t := by cases h <;> simp [sb, hc]
  have ho : own t' = n'.own := by rw [← own_rn, hn]
  have hnd : Nod T w' t' := nod_of_rn (by rw [hn]; exact hN.nod n' (by simp))
  refine ⟨⟨?_, fun k => ?_⟩, fun k hk => ?_⟩
  · cases h with
    | zero => exact hnd
    | succ h => exact ⟨hnd, fun d hd => hN.sub (H.rep.2 d (by rw [hc] at hd; exact hd)) fun k hk => List.mem_flatten.2 ⟨_, List.mem_map.2 ⟨d, by rw [hc] at hd; exact hd, rfl⟩, hk⟩⟩
  · have := hN.sep k
    rw [fp_sb, List.count_append, hsb, ho]
    simp only [owns_cons, owns_nil, List.append_nil] at this
    exact this
  · rw [fp_sb, hsb, ho] at hk
    rcases List.mem_append.1 hk with hk | hk
    · exact hN.new k (by simpa using hk)
    · exact .inl (by rw [fp_sb]; exact List.mem_append_right _ hk)

end Go.Proofs.Ytcidmaeclonilaa
