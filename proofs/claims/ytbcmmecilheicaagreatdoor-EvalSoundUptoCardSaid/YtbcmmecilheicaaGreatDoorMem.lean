/- Blocks, rows of values: what lies in memory and what keeps it. -/
import Derived.Test.YtbcmmecilheicaaGreatDoorProg
import Derived.Test.YtbcmmecilheicaaGreatDoorEvP
import Derived.Lib.Hide
import Derived.Handy
import Derived.Laws.AppendOwn
import Derived.Deep.LoopGhost
import Derived.Deep.QuietTactic
import Derived.BigQuiet
import Derived.Deep.RegionWith
import Derived.Deep.CutRange
import Derived.Deep.Draws
import Derived.WalkLawsBesides
import Derived.WalkSpells
namespace Go.Proofs.YtbcmmecilheicaaGreatDoor
open Go Go.RowKit

/-- a block known whole -/
def Blk (w : World) (g : Nat) (t : TypeId) (cs : Array Value) : Prop := w.heap[g]? = some (.cells cs t (0, 0))
section
variable {w w' : World} {g : Nat} {t : TypeId} {cs : Array Value}
theorem Blk.lt (h : Blk w g t cs) : g < w.heap.size := (Array.getElem?_eq_some_iff.1 h).1
theorem Blk.cell (h : Blk w g t cs) (i : Nat) : w.cell? ⟨g, i, none⟩ = cs[i]? := cell_of_row w g i cs t (0, 0) h
theorem Blk.frozen (h : Blk w g t cs) (i : Nat) : w.frozen? ⟨g, i, none⟩ = false := by
  unfold Blk at h
  simp [World.frozen?, h]
theorem Blk.new (w : World) (t : TypeId) (cs : Array Value) : Blk (w.alloc (.cells cs t)) w.heap.size t cs := heap_alloc_new w _
theorem Blk.alloc (h : Blk w g t cs) (o : Obj) : Blk (w.alloc o) g t cs := (Below.heap_alloc w o g h.lt).trans h
theorem Blk.below (h : Blk w g t cs) (hb : Below w.heap.size w w') : Blk w' g t cs := (hb.block g h.lt).trans h
theorem Blk.set_ (h : Blk w g t cs) (i : Nat) (u : Value) : Blk (w.setCell ⟨g, i, none⟩ u) g t (cs.setIfInBounds i u) := by
  unfold Blk at h ⊢
  simp [World.setCell, Array.getElem?_modify, h]
end
theorem below_drew (w : World) : Below w.heap.size w w.drew := ⟨rfl, rfl, rfl, Nat.le_refl _, fun _ _ => rfl⟩
theorem below_drewN (w : World) (q : Nat) : Below w.heap.size w (w.drewN q) := ⟨rfl, rfl, rfl, Nat.le_refl _, fun _ _ => rfl⟩
theorem below_alloc (w : World) (o : Obj) : Below w.heap.size w (w.alloc o) := (Below.refl _ w).alloc (Nat.le_refl _) _
theorem bt {A W W' : World} (h' : Below W.heap.size W W') (h : Below A.heap.size A W) : Below A.heap.size A W' := h.trans (h'.mono h.size)
theorem add_lit0 (g j : Nat) : (⟨g, 0, none⟩ : Addr).add j = ⟨g, j, none⟩ := by unfold Addr.add; split <;> simp_all

/-- a value's four cells -/
structure ValC (W : World) (b o : Nat) (v : Val) : Prop where
  c0 : W.cell? ⟨b, o, none⟩ = some (.int .i64 v.kind)
  c1 : W.cell? ⟨b, o + 1, none⟩ = some (.int .i64 v.int)
  c2 : W.cell? ⟨b, o + 2, none⟩ = some (.string v.text)
  c3 : W.cell? ⟨b, o + 3, none⟩ = some (.bool v.bool)
theorem ValC.below {W W' : World} {b o : Nat} {v : Val} (h : ValC W b o v) (hb : b < W.heap.size) (hW : Below W.heap.size W W') : ValC W' b o v :=
  ⟨(hW.cell (p := ⟨b, o, none⟩) hb).trans h.c0, (hW.cell (p := ⟨b, o + 1, none⟩) hb).trans h.c1, (hW.cell (p := ⟨b, o + 2, none⟩) hb).trans h.c2, (hW.cell (p := ⟨b, o + 3, none⟩) hb).trans h.c3⟩
/-- a slice of values, as it is read -/
structure ValsAt (W : World) (A : Option Addr) (n : Nat) (l : List Val) : Prop where
  len : l.length = n
  at_ : ∀ (j : Nat) (v : Val), l[j]? = some v → ∃ b off, A = some ⟨b, off, none⟩ ∧ b < W.heap.size ∧ ValC W b (off + j * 4) v
theorem ValsAt.below {W W' : World} {A : Option Addr} {n : Nat} {l : List Val} (h : ValsAt W A n l) (hW : Below W.heap.size W W') : ValsAt W' A n l :=
  ⟨h.len, fun j v hj => by
    obtain ⟨b, off, e, hb, hc⟩ := h.at_ j v hj
    exact ⟨b, off, e, Nat.lt_of_lt_of_le hb hW.size, hc.below hb hW⟩⟩
theorem ValsAt.nil (W : World) (A : Option Addr) : ValsAt W A 0 [] := ⟨rfl, fun j v h => by simp at h⟩
theorem ValsAt.one {W : World} {b : Nat} {t : TypeId} {v : Val} (h : Blk W b t #[.int .i64 v.kind, .int .i64 v.int, .string v.text, .bool v.bool]) : ValsAt W (some ⟨b, 0, none⟩) 1 [v] :=
  ⟨rfl, fun j u hj => by
    match j, hj with
    | 0, hj =>
      obtain rfl : v = u := by simpa using hj
      exact ⟨b, 0, rfl, h.lt, h.cell 0, h.cell 1, h.cell 2, h.cell 3⟩
    | j + 1, hj => simp at hj⟩
theorem ValsAt.two {W : World} {b : Nat} {t : TypeId} {u v : Val} (h : Blk W b t #[.int .i64 u.kind, .int .i64 u.int, .string u.text, .bool u.bool, .int .i64 v.kind, .int .i64 v.int, .string v.text, .bool v.bool]) : ValsAt W (some ⟨b, 0, none⟩) 2 [u, v] :=
  ⟨rfl, fun j x hj => by
    match j, hj with
    | 0, hj =>
      obtain rfl : u = x := by simpa using hj
      exact ⟨b, 0, rfl, h.lt, h.cell 0, h.cell 1, h.cell 2, h.cell 3⟩
    | 1, hj =>
      obtain rfl : v = x := by simpa using hj
      exact ⟨b, 0, rfl, h.lt, h.cell 4, h.cell 5, h.cell 6, h.cell 7⟩
    | j + 2, hj => simp at hj⟩

end Go.Proofs.YtbcmmecilheicaaGreatDoor
