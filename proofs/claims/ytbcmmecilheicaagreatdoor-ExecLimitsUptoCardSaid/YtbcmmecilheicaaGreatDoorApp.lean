/- append at any element type, by its equation; rows of one's own, as they are read and kept. -/
import Derived.Test.YtbcmmecilheicaaGreatDoorSrtS
import Derived.Test.YtbcmmecilheicaaGreatDoorEvCE
namespace Go.Proofs.YtbcmmecilheicaaGreatDoor
open Go Go.RowKit

/-- a slice type, its elements -/
structure SlT (P : Program) (sl e : TypeId) (k bs : Nat) (z : Value) : Prop where
 und : P.underlying sl = some (.slice e)
 info : ∃ i, P.info? e = some i ∧ i.zero = some z ∧ i.size = k ∧ i.bytes = bs
 zc : z.cells.size = k
 kp : 0 < k

section
variable {P : Program} {sl e : TypeId} {k bs : Nat} {z : Value}
/-- nothing appended -/
theorem app_zero (T : SlT P sl e k bs z) (ty : TypeId) (W : World) {A B : Option Addr} {n c c' : Nat} (hn : n ≤ c) : (Builtin.append_ #[sl, sl] ty #[.slice A n c, .slice B 0 c']).run P W = .ok (.slice A n c) W := by
 obtain ⟨i, hi, hz, hsz, hby⟩ := T.info
 cases A <;> cases B <;> simp [Builtin.append_, run_underlying T.und, sizeOf, typeInfo, hi, Builtin.lenOf, Builtin.firstCells, hn, storeCells, loadCells, loadCellsFrom]
theorem own_cap {W : World} {B n size : Nat} {e : TypeId} {A : Option Addr} {m c : Nat} {xs : List Value} (h : W.ownsRow B e size (.slice A m c) n xs) : m = n ∧ n ≤ c := by
 obtain ⟨-, h2⟩ := h
 rcases h2 with ⟨h2, rfl⟩ | ⟨g, cap, cur, e1, -, -, h3, -⟩
 ·injection h2 with _ e2 e3
  subst e2 e3
  exact ⟨rfl, Nat.le_refl _⟩
 ·injection e1 with _ e2 e3
  subst e2 e3
  exact ⟨rfl, h3⟩
/-- some appended: a row of one's own comes back, whose block is the old one's, or was not there -/
theorem app_some (T : SlT P sl e k bs z) (ty : TypeId) {W : World} {B : Nat} {Ao : Option Addr} {n co : Nat} {xs : List Value} (h : W.ownsRow B e k (.slice Ao n co) n xs) (hB : B ≤ W.heap.size) (a : Addr) (m c : Nat) (hm : 0 < m) (news : List Value) (hl : news.length = m * k) (hnews : ∀ j u, news[j]? = some u → W.cell? (a.add j) = some u) (h1 : ∀ u ∈ news, u.oneCell' = true) (h63 : n + m ≤ maxLen) (hbytes : (n + m) * bs ≤ 140737488355328) :
  ∃ An cn W', (Builtin.append_ #[sl, sl] ty #[.slice Ao n co, .slice (some a) m c]).run P W = .ok (.slice An (n + m) cn) W' ∧ W'.ownsRow B e k (.slice An (n + m) cn) (n + m) (xs ++ news) ∧ W.grownBy W' (Value.slice Ao n co).ownBlock ∧
   ((Value.slice An (n + m) cn).ownBlock = (Value.slice Ao n co).ownBlock ∨ (Value.slice An (n + m) cn).ownBlock = some W.heap.size) := by
 obtain ⟨i, hi, hz, hsz, hby⟩ := T.info
 obtain ⟨v', W', hr, hown, hg, -⟩ := run_append_own (P := P) W B sl ty e i z k bs T.und hi hz hsz hby T.zc T.kp (.slice Ao n co) n xs h a m c news hl hnews h1 h63 hbytes hB
 obtain ⟨An, cn, rfl⟩ := own_slice hown
 refine ⟨An, cn, W', hr, hown, hg, ?_⟩
 obtain ⟨hx, h2⟩ := h
 rcases h2 with ⟨h2, rfl⟩ | ⟨g0, cap, cur, h2, h3, h4, h5, h6, h7, h8⟩
 ·rw [h2] at hr
  have hr2 := run_append_nil (P := P) W sl ty e i z T.und hi hz a m c news (by rw [hl, hsz]) hnews hm (by unfold maxLen at h63; omega) (by rw [hby]; rw [Nat.zero_add] at hbytes; omega)
  rw [hr] at hr2
  injection hr2 with e1 e2
  injection e1 with e1
  exact .inr (by rw [e1]; rfl)
 ·rw [h2] at hr ⊢
  by_cases hroom : n + m ≤ cap
  ·have hr2 := run_append_room (P := P) W sl ty e i T.und hi g0 n cap cur h4 a m c news (by rw [hl, hsz]) hnews h1 hroom (by
    rw [hsz, hl, h7, ← Nat.add_mul]
    exact Nat.mul_le_mul_right k hroom)
   rw [hr] at hr2
   injection hr2 with e1 e2
   injection e1 with e1
   exact .inl (by rw [e1]; rfl)
  ·have hold : ∀ j u, xs[j]? = some u → W.cell? ((⟨g0, 0, none⟩ : Addr).add j) = some u := fun j u hj => by
    rw [add_lit0, cell_of_row W g0 j cur e (0, 0) h4]
    rw [← h8] at hj
    have hlt : j < n * k := by
     have := (List.getElem?_eq_some_iff.1 hj).1
     simp at this; omega
    rw [List.getElem?_take_of_lt hlt] at hj
    simpa using hj
   have hr2 := run_append_grow (P := P) W sl ty e i z T.und hi hz ⟨g0, 0, none⟩ n cap xs (by rw [hx, hsz]) hold a m c news (by rw [hl, hsz]) hnews (by omega) (by unfold maxLen at h63; omega) (growslice_fits (by omega) (by rw [hby]; exact hbytes))
   rw [hr] at hr2
   injection hr2 with e1 e2
   injection e1 with e1
   exact .inr (by rw [e1]; rfl)
end

/-- a cell of a row of one's own -/
theorem own_at {W : World} {B n size : Nat} {e : TypeId} {A : Option Addr} {m c : Nat} {xs : List Value} (h : W.ownsRow B e size (.slice A m c) n xs) {j : Nat} {u : Value} (hj : xs[j]? = some u) :
  ∃ g, A = some ⟨g, 0, none⟩ ∧ g < W.heap.size ∧ B ≤ g ∧ W.cell? ⟨g, j, none⟩ = some u ∧ ∀ o, W.frozen? ⟨g, o, none⟩ = false := by
 obtain ⟨h1, h2⟩ := h
 have hl := (List.getElem?_eq_some_iff.1 hj).1
 rcases h2 with ⟨h2, rfl⟩ | ⟨g, cap, cur, e1, h3, h4, h5, h6, h7, h8⟩
 ·rw [h1] at hl; simp at hl
 ·injection e1 with e1
  refine ⟨g, e1, (Array.getElem?_eq_some_iff.1 h4).1, h3, ?_, fun o => by simp [World.frozen?, h4]⟩
  rw [cell_of_row W g j cur e (0, 0) h4]
  rw [← h8] at hj
  rw [List.getElem?_take_of_lt (by rw [h1] at hl; exact hl)] at hj
  simpa using hj
/-- a value of one cell laid into a row of one's own -/
theorem own_put {W : World} {B n size : Nat} {e : TypeId} {g m c : Nat} {xs : List Value} (h : W.ownsRow B e size (.slice (some ⟨g, 0, none⟩) m c) n xs) {j : Nat} (hj : j < n * size) (u : Value) :
  (W.setCell ⟨g, j, none⟩ u).ownsRow B e size (.slice (some ⟨g, 0, none⟩) m c) n (xs.set j u) := by
 obtain ⟨h1, h2⟩ := h
 refine ⟨by rw [List.length_set]; exact h1, ?_⟩
 rcases h2 with ⟨h2, -⟩ | ⟨g0, cap, cur, e1, h3, h4, h5, h6, h7, h8⟩
 ·cases h2
 ·have e0 := e1
  injection e0 with e0
  injection e0 with e0
  injection e0 with e0
  subst e0
  refine .inr ⟨g, cap, cur.setIfInBounds j u, e1, h3, by simp [World.setCell, Array.getElem?_modify, h4], h5, h6, by simpa using h7, ?_⟩
  rw [← h8]
  apply List.ext_getElem?
  intro x
  by_cases hx : x < n * size
  ·rw [List.getElem?_take_of_lt hx]
   by_cases e : x = j
   ·subst e
    have hlen : x < (cur.toList.take (n * size)).length := by
     rw [h8, h1]; exact hx
    rw [List.getElem?_set_self hlen]
    have : x < cur.size := by
     rw [h7]
     exact Nat.lt_of_lt_of_le hx (Nat.mul_le_mul_right _ h5)
    simp [this]
   ·rw [List.getElem?_set_ne (fun h => e h.symm), List.getElem?_take_of_lt hx]
    have e2 : ¬ j = x := fun h => e h.symm
    simp [e2]
  ·have a1 : ((cur.setIfInBounds j u).toList.take (n * size))[x]? = none := List.getElem?_eq_none (by simp; omega)
   have a2 : ((cur.toList.take (n * size)).set j u)[x]? = none := List.getElem?_eq_none (by simp; omega)
   rw [a1, a2]
/-- rows of one's own stay where their block stays -/
theorem own_blk {W W' : World} {B n size : Nat} {e : TypeId} {v : Value} {xs : List Value} (h : W.ownsRow B e size v n xs) (hb : ∀ g, v.ownBlock = some g → W'.heap[g]? = W.heap[g]?) : W'.ownsRow B e size v n xs := by
 obtain ⟨h1, h2⟩ := h
 refine ⟨h1, ?_⟩
 rcases h2 with h2 | ⟨g, cap, cur, e1, e2, e3, e4⟩
 ·exact .inl h2
 ·exact .inr ⟨g, cap, cur, e1, e2, (hb g (by rw [e1]; rfl)).trans e3, e4⟩
theorem own_base {W : World} {B B' n size : Nat} {e : TypeId} {v : Value} {xs : List Value} (h : W.ownsRow B e size v n xs) (hb : ∀ g, v.ownBlock = some g → B' ≤ g) : W.ownsRow B' e size v n xs := by
 obtain ⟨h1, h2⟩ := h
 refine ⟨h1, ?_⟩
 rcases h2 with h2 | ⟨g, cap, cur, e1, e2, e3, e4⟩
 ·exact .inl h2
 ·exact .inr ⟨g, cap, cur, e1, hb g (by rw [e1]; rfl), e3, e4⟩
theorem own_lt {W : World} {B n size : Nat} {e : TypeId} {v : Value} {xs : List Value} (h : W.ownsRow B e size v n xs) : ∀ g, v.ownBlock = some g → B ≤ g ∧ g < W.heap.size := h.lt

/-- numbers, as they are read -/
structure IntsAt (W : World) (A : Option Addr) (n : Nat) (l : List Int) : Prop where
 len : l.length = n
 at_ : ∀ (j : Nat) (z : Int), l[j]? = some z → ∃ b off, A = some ⟨b, off, none⟩ ∧ b < W.heap.size ∧ W.cell? ⟨b, off + j, none⟩ = some (.int .i64 z)
theorem IntsAt.below {W W' : World} {A : Option Addr} {n : Nat} {l : List Int} (h : IntsAt W A n l) (hW : Below W.heap.size W W') : IntsAt W' A n l :=
 ⟨h.len, fun j v hj => by
  obtain ⟨b, off, e, hb, hc⟩ := h.at_ j v hj
  exact ⟨b, off, e, Nat.lt_of_lt_of_le hb hW.size, (hW.cell (p := ⟨b, off + j, none⟩) hb).trans hc⟩⟩
/-- values, as they are read, in blocks of a kind -/
structure ValsIn (W : World) (S : Nat → Prop) (A : Option Addr) (n : Nat) (l : List Val) : Prop where
 len : l.length = n
 at_ : ∀ (j : Nat) (v : Val), l[j]? = some v → ∃ b off, A = some ⟨b, off, none⟩ ∧ b < W.heap.size ∧ S b ∧ ValC W b (off + j * 4) v
theorem ValsIn.is {W : World} {S : Nat → Prop} {A : Option Addr} {n : Nat} {l : List Val} (h : ValsIn W S A n l) : ValsAt W A n l :=
 ⟨h.len, fun j v hj => by obtain ⟨b, off, e, hb, -, hc⟩ := h.at_ j v hj; exact ⟨b, off, e, hb, hc⟩⟩
theorem ValC.kept {W W' : World} {b o : Nat} {v : Val} (h : ValC W b o v) (hW : W'.heap[b]? = W.heap[b]?) : ValC W' b o v := by
 have k : ∀ i, W'.cell? ⟨b, i, none⟩ = W.cell? ⟨b, i, none⟩ := fun i => World.cell?_of_block (a := ⟨b, i, none⟩) hW
 exact ⟨(k _).trans h.c0, (k _).trans h.c1, (k _).trans h.c2, (k _).trans h.c3⟩
theorem ValsIn.keep {W W' : World} {S S' : Nat → Prop} (hW : ∀ b, S b → b < W.heap.size → W'.heap[b]? = W.heap[b]?) (hS : ∀ b, S b → b < W.heap.size → S' b) (hs : W.heap.size ≤ W'.heap.size) {A : Option Addr} {n : Nat} {l : List Val} (h : ValsIn W S A n l) : ValsIn W' S' A n l :=
 ⟨h.len, fun j v hj => by
  obtain ⟨b, off, e, hb, hsb, hc⟩ := h.at_ j v hj
  exact ⟨b, off, e, Nat.lt_of_lt_of_le hb hs, hS b hsb hb, hc.kept (hW b hsb hb)⟩⟩
/-- a row of values of one's own, as it is read -/
theorem ValsIn.of_own {W : World} {B : Nat} {A : Option Addr} {n c : Nat} {vs : List Val} (h : W.ownsRow B 26 4 (.slice A n c) n (valCells vs)) (hl : vs.length = n) : ValsIn W (fun b => B ≤ b ∧ some b = (Value.slice A n c).ownBlock) A n vs :=
 ⟨hl, fun j v hj => by
  obtain ⟨k0, k1, k2, k3⟩ := valCells_at hj
  obtain ⟨g, e, hg, hB, c0, -⟩ := own_at h k0
  obtain ⟨g1, e1, -, -, c1, -⟩ := own_at h k1
  obtain ⟨g2, e2, -, -, c2, -⟩ := own_at h k2
  obtain ⟨g3, e3, -, -, c3, -⟩ := own_at h k3
  rw [e] at e1 e2 e3
  injection e1 with e1; injection e1 with e1; subst e1
  injection e2 with e2; injection e2 with e2; subst e2
  injection e3 with e3; injection e3 with e3; subst e3
  refine ⟨g, 0, e, hg, ⟨hB, by rw [e]; rfl⟩, ?_⟩
  rw [Nat.zero_add]
  exact ⟨c0, c1, c2, c3⟩⟩

theorem info_of {P : Program} {e : TypeId} {z : Value} {k bs : Nat} (h : (P.info? e).map (fun i => (i.zero, i.size, i.bytes)) = some (some z, k, bs)) : ∃ i, P.info? e = some i ∧ i.zero = some z ∧ i.size = k ∧ i.bytes = bs := by
 obtain ⟨i0, hi, hz0, hz1, hz2⟩ := info_parts h
 exact ⟨i0, hi, hz0, hz1, hz2⟩
theorem tInts : SlT Tryz.prog 65 3 1 8 (.int .i64 0) := ⟨Tryz.underlying65, info_of (by kernel_rfl), rfl, by decide⟩
theorem tIntss : SlT Tryz.prog 193 65 1 24 (.slice none 0 0) := ⟨Tryz.underlying193, info_of (by kernel_rfl), rfl, by decide⟩
theorem tVals : SlT Tryz.prog 30 26 4 40 (.agg #[.int .i64 0, .int .i64 0, .string ⟨#[]⟩, .bool false]) := ⟨Tryz.underlying30, info_of (by kernel_rfl), rfl, by decide⟩
theorem tValss : SlT Tryz.prog 76 30 1 24 (.slice none 0 0) := ⟨Tryz.underlying76, info_of (by kernel_rfl), rfl, by decide⟩
theorem tKeyed : SlT Tryz.prog 227 229 2 32 (.agg #[.slice none 0 0, .int .i64 0]) := ⟨Tryz.underlying227, info_of (by kernel_rfl), rfl, by decide⟩
theorem tRows : SlT Tryz.prog 60 32 2 32 (.agg #[.int .i64 0, .slice none 0 0]) := ⟨Tryz.underlying60, info_of (by kernel_rfl), rfl, by decide⟩
theorem tParts : SlT Tryz.prog 142 147 3 72 (.agg #[.slice none 0 0, .slice none 0 0, .slice none 0 0]) := ⟨Tryz.underlying142, info_of (by kernel_rfl), rfl, by decide⟩
theorem tExprs : SlT Tryz.prog 49 51 8 96 (.agg #[.string ⟨#[]⟩, .int .i64 0, .int .i64 0, .int .i64 0, .int .i64 0, .string ⟨#[]⟩, .bool false, .slice none 0 0]) := ⟨Tryz.underlying49, info_of (by kernel_rfl), rfl, by decide⟩

end Go.Proofs.YtbcmmecilheicaaGreatDoor
