/- The row of a stable sort in memory: n elements of k cells each in a block of its own; what keeps it; regions that only read, whose callees may lay blocks. -/
import Derived.Test.YtbcmmecilheicaaGreatDoorMem
import Derived.Test.YtbcmmecilheicaaGreatDoorStabP
import Derived.Laws.IdiomCopy
import Derived.BigRegion
namespace Go.Proofs.YtbcmmecilheicaaGreatDoor
open Go Go.RowKit

/-- the cells of n elements, the i-th of which is of rank f i -/
def rowF (enc : Nat → List Value) (f : Nat → Nat) (n : Nat) : List Value := ((List.range n).map fun i => enc (f i)).flatten
theorem rowF_len {enc : Nat → List Value} {f : Nat → Nat} {k : Nat} (hk : ∀ r, (enc r).length = k) : ∀ n, (rowF enc f n).length = n * k
  | 0 => by simp [rowF]
  | n + 1 => by
    have ih := rowF_len (f := f) hk n
    simp only [rowF, List.range_succ, List.map_append, List.flatten_append, List.map_cons, List.map_nil, List.flatten_cons, List.flatten_nil, List.append_nil, List.length_append] at ih ⊢
    rw [ih, hk, Nat.add_mul, Nat.one_mul]
theorem rowF_succ (enc : Nat → List Value) (f : Nat → Nat) (n : Nat) : rowF enc f (n + 1) = rowF enc f n ++ enc (f n) := by
  simp [rowF, List.range_succ]
theorem rowF_at {enc : Nat → List Value} {f : Nat → Nat} {k : Nat} (hk : ∀ r, (enc r).length = k) : ∀ {n i c : Nat}, i < n → c < k → (rowF enc f n)[i * k + c]? = (enc (f i))[c]?
  | 0, _, _, h, _ => absurd h (Nat.not_lt_zero _)
  | n + 1, i, c, h, hc => by
    rw [rowF_succ]
    by_cases e : i < n
    · have hb : i * k + c < n * k := by
        have := Nat.mul_le_mul_right k (show i + 1 ≤ n from e)
        rw [Nat.add_mul, Nat.one_mul] at this
        omega
      rw [List.getElem?_append_left (by rw [rowF_len hk]; exact hb)]
      exact rowF_at hk e hc
    · have : i = n := by omega
      subst this
      rw [List.getElem?_append_right (by rw [rowF_len hk]; omega), rowF_len hk]
      congr 1; omega

/-- the row of the sort in a world: w0 has grown, but for block g; and g holds it -/
structure SW (w0 : World) (g : Nat) (t : TypeId) (k cap n : Nat) (enc : Nat → List Value) (f : Nat → Nat) (W : World) : Prop where
  grown : w0.grownBy W (some g)
  lt : g < w0.heap.size
  row : ∃ cur : Array Value, W.heap[g]? = some (.cells cur t (0, 0)) ∧ cur.size = cap * k ∧ (n ≤ cap ∧ cap ≤ maxLen) ∧ ∀ i c, i < n → c < k → cur[i * k + c]? = (enc (f i))[c]?
section
variable {w0 W : World} {g : Nat} {t : TypeId} {k cap n : Nat} {enc : Nat → List Value} {f : Nat → Nat}
theorem SW.ltW (h : SW w0 g t k cap n enc f W) : g < W.heap.size := Nat.lt_of_lt_of_le h.lt h.grown.size
theorem SW.cell (h : SW w0 g t k cap n enc f W) {i c : Nat} (hi : i < n) (hc : c < k) : W.cell? ⟨g, i * k + c, none⟩ = (enc (f i))[c]? := by
  obtain ⟨cur, h1, -, -, h4⟩ := h.row
  rw [cell_of_row W g _ cur t (0, 0) h1]
  exact h4 i c hi hc
theorem SW.frozen (h : SW w0 g t k cap n enc f W) (o : Nat) : W.frozen? ⟨g, o, none⟩ = false := by
  obtain ⟨cur, h1, -, -, -⟩ := h.row
  simp [World.frozen?, h1]
theorem SW.below (h : SW w0 g t k cap n enc f W) {W' : World} (hb : Below W.heap.size W W') : SW w0 g t k cap n enc f W' := by
  refine ⟨⟨hb.os.trans h.grown.os, hb.tape.trans h.grown.tape, hb.output.trans h.grown.output, Nat.le_trans h.grown.size hb.size, fun j hj hne => ?_⟩, h.lt, ?_⟩
  · rw [hb.block j (Nat.lt_of_lt_of_le hj h.grown.size)]
    exact h.grown.block j hj hne
  · obtain ⟨cur, h1, h2, h3, h4⟩ := h.row
    exact ⟨cur, (hb.block g h.ltW).trans h1, h2, h3, h4⟩
/-- element i's cells laid anew -/
def upd (f : Nat → Nat) (i r : Nat) : Nat → Nat := fun j => if j = i then r else f j
theorem upd_xch (f : Nat → Nat) (i j : Nat) : upd (upd f i (f j)) j (f i) = xch f i j := by
  funext x
  unfold upd xch
  by_cases h1 : x = j
  · subst h1
    rw [if_pos rfl]
    by_cases h2 : x = i
    · subst h2; rw [if_pos rfl]
    · rw [if_neg h2, if_pos rfl]
  · rw [if_neg h1]
    by_cases h2 : x = i
    · rw [if_pos h2, if_pos h2]
    · rw [if_neg h2, if_neg h2, if_neg h1]
theorem heap_setCells (b : Nat) {t : TypeId} {z : Nat × Nat} : ∀ (vs : List Value) (o : Nat) (W : World) (cur : Array Value), W.heap[b]? = some (.cells cur t z) → o + vs.length ≤ cur.size →
    ∃ cur', (W.setCells b o vs).heap[b]? = some (.cells cur' t z) ∧ cur'.size = cur.size ∧ ∀ x, cur'[x]? = if o ≤ x ∧ x < o + vs.length then vs[x - o]? else cur[x]?
  | [], o, W, cur, h, _ => ⟨cur, h, rfl, fun x => by rw [if_neg (by simp)]⟩
  | v :: r, o, W, cur, h, hs => by
    simp only [List.length_cons] at hs
    have h1 : (W.setCell ⟨b, o, none⟩ v).heap[b]? = some (.cells (cur.setIfInBounds o v) t z) := by simp [World.setCell, Array.getElem?_modify, h]
    obtain ⟨cur', e1, e2, e3⟩ := heap_setCells b r (o + 1) _ _ h1 (by simp; omega)
    refine ⟨cur', e1, by rw [e2]; simp, fun x => ?_⟩
    rw [e3 x]
    by_cases c1 : o + 1 ≤ x ∧ x < o + 1 + r.length
    · rw [if_pos c1, if_pos (by simp; omega)]
      obtain ⟨y, rfl⟩ : ∃ y, x = o + 1 + y := ⟨x - (o + 1), by omega⟩
      rw [show o + 1 + y - (o + 1) = y by omega, show o + 1 + y - o = y + 1 by omega]
      simp
    · rw [if_neg c1]
      by_cases c2 : x = o
      · subst c2
        rw [if_pos (by simp), Array.getElem?_setIfInBounds_self]
        simp; omega
      · rw [if_neg (by simp; omega), Array.getElem?_setIfInBounds_ne (by omega)]
theorem other_setCells (b : Nat) {j : Nat} (hj : j ≠ b) : ∀ (vs : List Value) (o : Nat) (W : World), (W.setCells b o vs).heap[j]? = W.heap[j]?
  | [], _, _ => rfl
  | v :: r, o, W => by
    rw [World.setCells, other_setCells b hj r, Below.heap_setCell _ _ _ _ (by exact hj)]
theorem size_setCells' (b : Nat) : ∀ (vs : List Value) (o : Nat) (W : World), (W.setCells b o vs).heap.size = W.heap.size
  | [], _, _ => rfl
  | v :: r, o, W => by rw [World.setCells, size_setCells' b r]; simp
theorem os_setCells (b : Nat) : ∀ (vs : List Value) (o : Nat) (W : World), (W.setCells b o vs).os = W.os ∧ (W.setCells b o vs).tape = W.tape ∧ (W.setCells b o vs).output = W.output
  | [], _, _ => ⟨rfl, rfl, rfl⟩
  | v :: r, o, W => by
    rw [World.setCells]
    exact os_setCells b r (o + 1) _
theorem SW.put (h : SW w0 g t k cap n enc f W) (hk : ∀ r, (enc r).length = k) {i : Nat} (hi : i < n) (r : Nat) : SW w0 g t k cap n enc (upd f i r) (W.setCells g (i * k) (enc r)) := by
  obtain ⟨cur, h1, h2, h3, h4⟩ := h.row
  have hb : i * k + k ≤ cap * k := by
    have := Nat.mul_le_mul_right k (show i + 1 ≤ cap from Nat.le_trans hi h3.1)
    rw [Nat.add_mul, Nat.one_mul] at this
    exact this
  obtain ⟨cur', e1, e2, e3⟩ := heap_setCells g (enc r) (i * k) W cur h1 (by rw [hk, h2]; exact hb)
  obtain ⟨o1, o2, o3⟩ := os_setCells g (enc r) (i * k) W
  refine ⟨⟨o1.trans h.grown.os, o2.trans h.grown.tape, o3.trans h.grown.output, by rw [size_setCells']; exact h.grown.size, fun j hj hne => ?_⟩, h.lt, cur', e1, e2.trans h2, h3, fun j c hj hc => ?_⟩
  · rw [other_setCells g (fun e => hne (by rw [e]))]
    exact h.grown.block j hj hne
  · rw [e3, hk]
    unfold upd
    by_cases e : j = i
    · subst e
      rw [if_pos (by omega), if_pos rfl]
      congr 1; omega
    · rw [if_neg ?_, if_neg e]
      · exact h4 j c hj hc
      · rcases Nat.lt_or_ge j i with q | q
        · have := Nat.mul_le_mul_right k (show j + 1 ≤ i from q)
          rw [Nat.add_mul, Nat.one_mul] at this
          omega
        · have := Nat.mul_le_mul_right k (show i + 1 ≤ j by omega)
          rw [Nat.add_mul, Nat.one_mul] at this
          omega
theorem SW.drew (h : SW w0 g t k cap n enc f W) : SW w0 g t k cap n enc f W.drew := h.below (below_drew W)
theorem SW.exchange (h : SW w0 g t k cap n enc f W) (hk : ∀ r, (enc r).length = k) {i j : Nat} (hi : i < n) (hj : j < n) : SW w0 g t k cap n enc (xch f i j) ((W.setCells g (i * k) (enc (f j))).setCells g (j * k) (enc (f i))) := by
  rw [← upd_xch]
  exact (h.put hk hi (f j)).put hk hj (f i)
theorem SW.of_own {B : Nat} (h : W.ownsRow B t k (.slice (some ⟨g, 0, none⟩) n cap) n (rowF enc f n)) (hk : ∀ r, (enc r).length = k) : SW W g t k cap n enc f W := by
  obtain ⟨h1, h2⟩ := h
  rcases h2 with ⟨h2, -⟩ | ⟨g0, cap0, cur, h2, h3, h4, h5, h6, h7, h8⟩
  · cases h2
  · injection h2 with e1 e2 e3
    injection e1 with e1
    injection e1 with e1
    subst e1 e3
    refine ⟨⟨rfl, rfl, rfl, Nat.le_refl _, fun _ _ _ => rfl⟩, (Array.getElem?_eq_some_iff.1 h4).1, cur, h4, h7, ⟨h5, h6⟩, fun i c hi hc => ?_⟩
    rw [← rowF_at hk hi hc, ← h8]
    have hb : i * k + c < n * k := by
      have := Nat.mul_le_mul_right k (show i + 1 ≤ n from hi)
      rw [Nat.add_mul, Nat.one_mul] at this
      omega
    rw [List.getElem?_take_of_lt hb]
    simp
theorem SW.own (h : SW w0 g t k cap n enc f W) (hk : ∀ r, (enc r).length = k) {B : Nat} (hB : B ≤ g) : W.ownsRow B t k (.slice (some ⟨g, 0, none⟩) n cap) n (rowF enc f n) := by
  obtain ⟨cur, h1, h2, ⟨h3, h4⟩, h5⟩ := h.row
  refine ⟨rowF_len hk n, .inr ⟨g, cap, cur, rfl, hB, h1, h3, h4, h2, ?_⟩⟩
  apply List.ext_getElem?
  intro x
  by_cases hx : x < n * k
  · rw [List.getElem?_take_of_lt hx]
    have hk0 : 0 < k := by
      rcases Nat.eq_zero_or_pos k with e | e
      · subst e; simp at hx
      · exact e
    have hi : x / k < n := (Nat.div_lt_iff_lt_mul hk0).2 hx
    have hc : x % k < k := Nat.mod_lt _ hk0
    have e : x = x / k * k + x % k := by rw [Nat.mul_comm]; exact (Nat.div_add_mod x k).symm
    have a1 := h5 (x / k) (x % k) hi hc
    have a2 := rowF_at (f := f) hk hi hc
    rw [← e] at a1 a2
    rw [a2, ← a1]
    simp
  · rw [List.getElem?_eq_none (by simp; omega), List.getElem?_eq_none (by rw [rowF_len hk]; omega)]
end

/-! ### regions that only read, whose callees may lay blocks -/
/-- a world that has come of W by growth alone -/
structure BelowW (W : World) where
  w : World
  h : Below W.heap.size W w
instance (W : World) : Inhabited (BelowW W) := ⟨⟨W, Below.refl _ _⟩⟩
theorem wp_region_quiet_below {P : Program} {id : Nat} {Q : Exit → Act → World → Prop} {a : Act} {w : World} {l : List Oper} (hm : P.follows .mixedOrders = true) (hB : Region.lexB .any l.toArray = true)
    (h : wpQuiet P l.toArray (fun w' => ∃ p : BelowW w, w' = p.w) (fun a' => ∀ w', (∃ p : BelowW w, w' = p.w) → Q .normal a' w') l a) : (Code.region id l.toArray true).wp P Q a w :=
  wp_region_quiet (C := fun w' => ∃ p : BelowW w, w' = p.w) hm hB ⟨⟨w.drew, below_drew w⟩, rfl⟩ (by simpa using h)
/-- a callee's contract, met in such a world -/
theorem calls_below {P : Program} {f : FuncId} {args : Array Value} {w : World} (p : BelowW w) {v : Value} (h : Calls P f args p.w fun e w' => e = .returned v ∧ Hid (Below p.w.heap.size p.w w')) :
    Calls P f args p.w fun e w'' => e = .returned v ∧ ∃ p' : BelowW w, w'' = p'.w :=
  h.mono fun _ w' ⟨he, hb⟩ => ⟨he, ⟨w', bt hb.out p.h⟩, rfl⟩

end Go.Proofs.YtbcmmecilheicaaGreatDoor
