/- exec's runner.tell, whatever its items and its order: printed by mktel.py. -/
import Derived.Test.YtbcmmecilheicaaGreatDoorFilA
import Derived.Test.YtbcmmecilheicaaGreatDoorTruA
namespace Go.Proofs.YtbcmmecilheicaaGreatDoor
open Go Go.RowKit

theorem one_aldT {W w' : World} {t : TypeId} {cs : Array Value} (h : Below (W.alloc (.cells cs t)).drew.heap.size (W.alloc (.cells cs t)).drew w') : Blk w' W.heap.size t cs := (show Blk (W.alloc (.cells cs t)).drew W.heap.size t cs from Blk.new W t cs).below h

/-- the first error -/
def errL : List Res → Option Int
 | [] => none
 | (_, some er) :: _ => some er
 | (_, none) :: l => errL l
theorem errL_at : ∀ {l : List Res} {i : Nat} {v : Val} {er : Int}, (∀ j r, j < i → l[j]? = some r → r.2 = none) → l[i]? = some (v, some er) → errL l = some er
 | [], _, _, _, _, h => by simp at h
 | r :: l, 0, v, er, _, h => by
  obtain rfl : r = (v, some er) := by simpa using h
  rfl
 | r :: l, i + 1, v, er, hn, h => by
  obtain ⟨a, b⟩ := r
  obtain rfl : b = none := hn 0 (a, b) (by omega) rfl
  rw [errL]
  rw [List.getElem?_cons_succ] at h
  exact errL_at (l := l) (i := i) (v := v) (fun j r hj hr => hn (j + 1) r (by omega) (by rw [List.getElem?_cons_succ]; exact hr)) h
theorem errL_none : ∀ {l : List Res}, (∀ r ∈ l, r.2 = none) → errL l = none
 | [], _ => rfl
 | (a, b) :: l, h => by
  obtain rfl : b = none := h (a, b) List.mem_cons_self
  rw [errL]
  exact errL_none (l := l) fun r hr => h r (List.mem_cons_of_mem _ hr)

/-- a part in a row of parts of one's own, while tell fills it -/
structure TelI (w : World) (g go B k : Nat) (cur0 : Array Value) (vs : List Val) (A : Option Addr) (n c : Nat) (W : World) : Prop where
 grown : w.grownBy W (some g)
 lt : g < w.heap.size
 base : w.heap.size ≤ B
 top : B ≤ W.heap.size
 blk : ∃ cur : Array Value, W.heap[g]? = some (.cells cur 147 (0, 0)) ∧ cur.size = cur0.size ∧ cur[go + k]? = some (.slice A n c) ∧ ∀ i, i ≠ go + k → cur[i]? = cur0[i]?
 len : vs.length = n
 row : W.ownsRow B 26 4 (.slice A n c) n (valCells vs)
theorem grown_below {w W W' : World} {o : Option Nat} (h : w.grownBy W o) (hb : Below W.heap.size W W') : w.grownBy W' o :=
 ⟨hb.os.trans h.os, hb.tape.trans h.tape, hb.output.trans h.output, Nat.le_trans h.size hb.size, fun j hj hne => by
  rw [hb.block j (Nat.lt_of_lt_of_le hj h.size)]
  exact h.block j hj hne⟩
theorem grown_refl (w : World) (o : Option Nat) : w.grownBy w o := ⟨rfl, rfl, rfl, Nat.le_refl _, fun _ _ _ => rfl⟩
theorem set_far {W : World} {g i b : Nat} {u : Value} (h : b ≠ g) : (W.setCell ⟨g, i, none⟩ u).heap[b]? = W.heap[b]? := by
 simp [World.setCell, Array.getElem?_modify, Ne.symm h]
section
variable {w W : World} {g go B k : Nat} {cur0 : Array Value} {vs : List Val} {A : Option Addr} {n c : Nat}
theorem TelI.below (h : TelI w g go B k cur0 vs A n c W) {W' : World} (hb : Below W.heap.size W W') : TelI w g go B k cur0 vs A n c W' := by
 obtain ⟨cur, h1, h2, h3, h4⟩ := h.blk
 exact ⟨grown_below h.grown hb, h.lt, h.base, Nat.le_trans h.top hb.size, ⟨cur, (hb.block g (Nat.lt_of_lt_of_le h.lt h.grown.size)).trans h1, h2, h3, h4⟩, h.len, own_below h.row hb⟩
theorem TelI.ltW (h : TelI w g go B k cur0 vs A n c W) : g < W.heap.size := Nat.lt_of_lt_of_le h.lt h.grown.size
theorem TelI.mine (h : TelI w g go B k cur0 vs A n c W) : W.cell? ⟨g, go + k, none⟩ = some (.slice A n c) := by
 obtain ⟨cur, h1, h2, h3, h4⟩ := h.blk
 rw [cell_of_row W g _ cur 147 (0, 0) h1]; exact h3
theorem TelI.other (h : TelI w g go B k cur0 vs A n c W) {i : Nat} (hi : i ≠ go + k) : W.cell? ⟨g, i, none⟩ = cur0[i]? := by
 obtain ⟨cur, h1, h2, h3, h4⟩ := h.blk
 rw [cell_of_row W g _ cur 147 (0, 0) h1]; exact h4 i hi
theorem TelI.frozen (h : TelI w g go B k cur0 vs A n c W) (i : Nat) : W.frozen? ⟨g, i, none⟩ = false := by
 obtain ⟨cur, h1, -⟩ := h.blk
 simp [World.frozen?, h1]
/-- one value more -/
theorem TelI.step (h : TelI w g go B k cur0 vs A n c W) (hn : n + 1 ≤ 3518437208882) (s : Nat) (v : Val) (z : Blk W s 26 #[.int .i64 v.kind, .int .i64 v.int, .string v.text, .bool v.bool]) :
  ∃ An cn w5, (Builtin.append_ #[30, 30] 30 #[.slice A n c, .slice (some ⟨s, 0, none⟩) 1 1]).run Tryz.prog W = .ok (.slice An (n + 1) cn) w5 ∧ g < w5.heap.size ∧ (∀ o, w5.frozen? ⟨g, o, none⟩ = false) ∧ w5.cell? ⟨g, go + k, none⟩ = some (.slice A n c) ∧ TelI w g go B k cur0 (vs ++ [v]) An (n + 1) cn (w5.setCell ⟨g, go + k, none⟩ (.slice An (n + 1) cn)) := by
 obtain ⟨An, cn, w5, hrun, hown, hg, -⟩ := app_some tVals 30 h.row h.top ⟨s, 0, none⟩ 1 1 (by omega) (valCells [v]) rfl (fun j u hj => by
   rw [add_lit0, z.cell j]
   simpa [valCells, Val.cells] using hj) valCells_one (by unfold maxLen; omega) (by omega)
 obtain ⟨cur, h1, h2, h3, h4⟩ := h.blk
 have own_lt : ∀ b, (Value.slice A n c).ownBlock = some b → B ≤ b ∧ b < W.heap.size := h.row.lt
 have own_lt' : ∀ b, (Value.slice An (n + 1) cn).ownBlock = some b → B ≤ b ∧ b < w5.heap.size := hown.lt
 have gw := h.lt
 have gb := h.base
 have hgb : w5.heap[g]? = some (.cells cur 147 (0, 0)) := by
  rw [hg.block g h.ltW (fun e => by have := (own_lt g e.symm).1; omega)]; exact h1
 have hgl : go + k < cur.size := (Array.getElem?_eq_some_iff.1 h3).1
 have gs := hg.size
 have ht := h.top
 refine ⟨An, cn, w5, hrun, Nat.lt_of_lt_of_le h.ltW hg.size, fun o => by simp [World.frozen?, hgb], by rw [cell_of_row w5 g _ cur 147 (0, 0) hgb]; exact h3, ?_⟩
 refine ⟨⟨?_, ?_, ?_, ?_, fun j hj hne => ?_⟩, h.lt, h.base, ?_, ⟨cur.setIfInBounds (go + k) (.slice An (n + 1) cn), ?_, ?_, ?_, ?_⟩, ?_, ?_⟩
 ·exact hg.os.trans h.grown.os
 ·exact hg.tape.trans h.grown.tape
 ·exact hg.output.trans h.grown.output
 ·rw [World.size_setCell]; exact Nat.le_trans h.grown.size hg.size
 ·rw [set_far (fun e => hne (by rw [e])), hg.block j (Nat.lt_of_lt_of_le hj h.grown.size) (fun e => by have := (own_lt j e.symm).1; omega)]
  exact h.grown.block j hj hne
 ·rw [World.size_setCell]; omega
 ·simp [World.setCell, Array.getElem?_modify, hgb]
 ·simp; exact h2
 ·rw [Array.getElem?_setIfInBounds_self_of_lt hgl]
 ·intro i hi
  rw [Array.getElem?_setIfInBounds_ne (Ne.symm hi)]
  exact h4 i hi
 ·simp [h.len]
 ·have e : valCells (vs ++ [v]) = valCells vs ++ valCells [v] := by simp [valCells]
  rw [e]
  exact own_blk hown fun b hb => set_far (fun e => by have := (own_lt' b hb).1; omega)
end

/-- what runner.of answers, of an expression at a place of the caller's, whatever has been told -/
def TellC (x : Value) (w : World) (g : Nat) (RA : Option Addr) (rn rc : Nat) (IA : Option Addr) (sz j : Nat) (r : Res) : Prop := ∃ (b off : Nat) (y : Ex) (A : Option Addr) (n c : Nat), IA = some ⟨b, off, none⟩ ∧ b < w.heap.size ∧ b ≠ g ∧ ExC w b (off + j * sz) y A n c ∧ ∀ W, w.grownBy W (some g) → ∀ (i1 : Option Addr) (n1 c1 : Nat) (i2 : Option Addr) (n2 c2 : Nat), Calls Tryz.prog 93 #[x, .agg #[.slice RA rn rc, .slice i1 n1 c1, .slice i2 n2 c2], .agg #[.string y.op, .int .i64 y.kind, .int .i64 y.col, .int .i64 y.val.kind, .int .i64 y.val.int, .string y.val.text, .bool y.val.bool, .slice A n c]] W fun e w' => e = .returned (resV r) ∧ Hid (Below W.heap.size W w')
theorem grown_after {w w1 W : World} {o : Option Nat} (hb : Below w.heap.size w w1) (h : w1.grownBy W o) : w.grownBy W o :=
 ⟨h.os.trans hb.os, h.tape.trans hb.tape, h.output.trans hb.output, Nat.le_trans hb.size h.size, fun j hj hne => by
  rw [h.block j (Nat.lt_of_lt_of_le hj hb.size) hne]
  exact hb.block j hj⟩
theorem grown_two {w w1 W : World} {o : Option Nat} (hb : w.grownBy w1 o) (h : w1.grownBy W o) : w.grownBy W o :=
 ⟨h.os.trans hb.os, h.tape.trans hb.tape, h.output.trans hb.output, Nat.le_trans hb.size h.size, fun j hj hne => by
  rw [h.block j (Nat.lt_of_lt_of_le hj hb.size) hne]
  exact hb.block j hj hne⟩
theorem blk_grown {w W : World} {g0 g : Nat} {t : TypeId} {cs : Array Value} (h : Blk w g0 t cs) (hg : w.grownBy W (some g)) (hne : g0 ≠ g) : Blk W g0 t cs := (hg.block g0 h.lt (fun e => hne (by injection e))).trans h
theorem tel_a {w2 w3 : World} {vk vi : Int} {vt : ByteArray} {vb : Bool} (hb : Below w2.heap.size w2 w3) (er : Option Int) : ∃ p7 : Nat, Value.pointer (some ⟨w3.heap.size, 0, none⟩) = .pointer (some ⟨p7, 0, none⟩) ∧ errV er = errV er ∧ Hid (Below w2.heap.size w2 (w3.alloc (.cells #[.int .i64 vk, .int .i64 vi, .string vt, .bool vb] 26)) ∧ w2.heap.size ≤ p7 ∧ p7 < (w3.alloc (.cells #[.int .i64 vk, .int .i64 vi, .string vt, .bool vb] 26)).heap.size ∧ ValC (w3.alloc (.cells #[.int .i64 vk, .int .i64 vi, .string vt, .bool vb] 26)) p7 0 ⟨vk, vi, vt, vb⟩) :=
 ⟨_, rfl, rfl, Lib.hid ⟨bt (below_alloc _ _) hb, hb.size, (Blk.new _ _ _).lt, (Blk.new _ _ _).cell 0, (Blk.new _ _ _).cell 1, (Blk.new _ _ _).cell 2, (Blk.new _ _ _).cell 3⟩⟩
theorem tel_b {w2 w3 : World} {vk vi : Int} {vt : ByteArray} {vb : Bool} {c0 c1 c2 c3 : Value} (hb : Below w2.heap.size w2 w3) (pz : Blk w3 w2.heap.size 26 #[c0, c1, c2, c3]) (er : Option Int) : ∃ p7 : Nat, Value.pointer (some ⟨w2.heap.size, 0, none⟩) = .pointer (some ⟨p7, 0, none⟩) ∧ errV er = errV er ∧ Hid (Below w2.heap.size w2 ((((w3.setCell ⟨w2.heap.size, 0, none⟩ (.int .i64 vk)).setCell ⟨w2.heap.size, 1, none⟩ (.int .i64 vi)).setCell ⟨w2.heap.size, 2, none⟩ (.string vt)).setCell ⟨w2.heap.size, 3, none⟩ (.bool vb)) ∧ w2.heap.size ≤ p7 ∧ p7 < ((((w3.setCell ⟨w2.heap.size, 0, none⟩ (.int .i64 vk)).setCell ⟨w2.heap.size, 1, none⟩ (.int .i64 vi)).setCell ⟨w2.heap.size, 2, none⟩ (.string vt)).setCell ⟨w2.heap.size, 3, none⟩ (.bool vb)).heap.size ∧ ValC ((((w3.setCell ⟨w2.heap.size, 0, none⟩ (.int .i64 vk)).setCell ⟨w2.heap.size, 1, none⟩ (.int .i64 vi)).setCell ⟨w2.heap.size, 2, none⟩ (.string vt)).setCell ⟨w2.heap.size, 3, none⟩ (.bool vb)) p7 0 ⟨vk, vi, vt, vb⟩) :=
 ⟨_, rfl, rfl, Lib.hid ⟨by have hs := hb.size; go_grown, Nat.le_refl _, by simp only [World.size_setCell]; exact pz.lt, val_set pz vk vi vt vb⟩⟩
theorem take_more {its : List Res} {i : Nat} {v : Val} {er : Option Int} (h : its[i]? = some (v, er)) : (its.take i).map (·.1) ++ [v] = (its.take (i + 1)).map (·.1) := by
 obtain ⟨h1, h2⟩ := List.getElem?_eq_some_iff.1 h
 rw [List.take_add_one, h]
 simp

/-- what tell leaves -/
def TellPost (w : World) (g go : Nat) (cur0 : Array Value) (its ords : List Res) (e : Ending) (w' : World) : Prop := e = .returned (errV (errL (its ++ ords))) ∧ Hid (w.grownBy w' (some g)) ∧ Hid (errL (its ++ ords) = none → ∃ (An : Option Addr) (cn : Nat) (Bn : Option Addr) (dn : Nat) (cur : Array Value), w'.heap[g]? = some (.cells cur 147 (0, 0)) ∧ cur.size = cur0.size ∧ (∀ i, i ≠ go + 1 → i ≠ go + 2 → cur[i]? = cur0[i]?) ∧ cur[go + 1]? = some (.slice An its.length cn) ∧ cur[go + 2]? = some (.slice Bn ords.length dn) ∧ w'.ownsRow w.heap.size 26 4 (.slice An its.length cn) its.length (valCells (its.map (·.1))) ∧ w'.ownsRow w.heap.size 26 4 (.slice Bn ords.length dn) ords.length (valCells (ords.map (·.1))))

set_option maxRecDepth 100000 in
set_option maxHeartbeats 16000000 in
theorem tell30 (w : World) (tb : ByteArray) (T1 : Option Addr) (t1 u1 : Nat) (IA : Option Addr) (n1 u2 : Nat) (T3 : Option Addr) (t3 u3 : Nat) (T4 : Option Addr) (t4 u4 : Nat) (OA : Option Addr) (n2 u5 : Nat) (lim : Int) (ag : Bool) (T8 : Option Addr) (t8 u8 : Nat) (LA : Option Addr) (ln lc : Nat)
  (g go : Nat) (cur0 : Array Value) (hcur : w.heap[g]? = some (.cells cur0 147 (0, 0))) (RA : Option Addr) (rn rc : Nat) (h0 : cur0[go]? = some (.slice RA rn rc)) (h1 : cur0[go + 1]? = some (.slice none 0 0)) (h2 : cur0[go + 2]? = some (.slice none 0 0))
  (its ords : List Res) (hn1 : its.length = n1) (hn2 : ords.length = n2) (hm1 : n1 ≤ 3518437208881) (hm2 : n2 ≤ 3518437208881)
  (hI : ∀ j r, its[j]? = some r → TellC (.agg #[.string tb, .slice T1 t1 u1, .slice IA n1 u2, .slice T3 t3 u3, .slice T4 t4 u4, .slice OA n2 u5, .int .i64 lim, .bool ag, .slice T8 t8 u8, .slice LA ln lc]) w g RA rn rc IA 8 j r) (hO : ∀ j r, ords[j]? = some r → TellC (.agg #[.string tb, .slice T1 t1 u1, .slice IA n1 u2, .slice T3 t3 u3, .slice T4 t4 u4, .slice OA n2 u5, .int .i64 lim, .bool ag, .slice T8 t8 u8, .slice LA ln lc]) w g RA rn rc OA 9 j r) (hD : ∀ j, j < n2 → ∃ b off d, OA = some ⟨b, off, none⟩ ∧ w.cell? ⟨b, off + j * 9 + 8, none⟩ = some (.bool d)) :
  Calls Tryz.prog 57 #[.agg #[.string tb, .slice T1 t1 u1, .slice IA n1 u2, .slice T3 t3 u3, .slice T4 t4 u4, .slice OA n2 u5, .int .i64 lim, .bool ag, .slice T8 t8 u8, .slice LA ln lc], .pointer (some ⟨g, go, none⟩)] w (TellPost w g go cur0 its ords) := by
 obtain ⟨w1, hw1⟩ : ∃ z, z = w.alloc (.cells #[.string tb, .slice T1 t1 u1, .slice IA n1 u2, .slice T3 t3 u3, .slice T4 t4 u4, .slice OA n2 u5, .int .i64 lim, .bool ag, .slice T8 t8 u8, .slice LA ln lc] 141) := ⟨_, rfl⟩
 have hg : g < w.heap.size := (Array.getElem?_eq_some_iff.1 hcur).1
 have B1 := Lib.hid (show Below w.heap.size w w1 by rw [hw1]; exact below_alloc _ _)
 have Z1 := Lib.hid (show Blk w1 w.heap.size 141 #[.string tb, .slice T1 t1 u1, .slice IA n1 u2, .slice T3 t3 u3, .slice T4 t4 u4, .slice OA n2 u5, .int .i64 lim, .bool ag, .slice T8 t8 u8, .slice LA ln lc] by rw [hw1]; exact Blk.new w 141 _)
 have hg1 : g < w1.heap.size := Nat.lt_of_lt_of_le hg B1.out.size
 have TI1 := Lib.hid (show TelI w1 g go w1.heap.size 1 cur0 [] none 0 0 w1 from ⟨grown_refl _ _, hg1, Nat.le_refl _, Nat.le_refl _, ⟨cur0, (B1.out.block g hg).trans hcur, rfl, h1, fun _ _ => rfl⟩, rfl, World.ownsRow_nil _ _ _ _⟩)
 have HI := Lib.hid hI
 have HO := Lib.hid hO
 have HD := Lib.hid hD
 have H0 := Lib.hid h0
 have H2 := Lib.hid h2
 have HL1 := Lib.hid hn1
 have HL2 := Lib.hid hn2
 clear hI hO hD h0 h1 h2 hcur hn1 hn2
 go_enter Tryz.func57, Tryz.ntmps57
 go_upto_region 1 with fail
 rw [← hw1]
 clear hw1
 have z2 := Z1.out.cell 2
 have hs1 := Z1.out.lt
 go_wp2_with fail
 clear z2
 go_loopg [17] n1 (fun kx s17 wr => ∃ i : Nat, s17 = .int .i64 i ∧ kx + i = n1 ∧ Hid (∃ A c, TelI w1 g go w1.heap.size 1 cur0 ((its.take i).map (·.1)) A i c wr ∧ ∀ j r, j < i → its[j]? = some r → r.2 = none))
 case atStart => exact ⟨0, rfl, rfl, Lib.hid ⟨none, 0, TI1.out, fun j r h => absurd h (Nat.not_lt_zero _)⟩⟩
 case round =>
  obtain ⟨i, rfl, hk, I⟩ := hrel
  have hi9 : (i : Int) < 3518437208882 := by omega
  have hi0 : (0 : Int) ≤ (i : Int) := by omega
  by_cases hi : i < n1
  ·have hiz : (i : Int) < (n1 : Int) := by omega
   obtain ⟨⟨⟨vk, vi, vt, vb⟩, er⟩, hr⟩ : ∃ r, its[i]? = some r := ⟨_, List.getElem?_eq_getElem (by rw [HL1.out]; exact hi)⟩
   obtain ⟨A, c, T, hno⟩ := I.out
   have TT := Lib.hid T
   have NO := Lib.hid hno
   have HR := Lib.hid hr
   obtain ⟨b, off, y, Ay, ny, cy, rfl, hb, hbg, hx, hC⟩ := HI.out i _ hr
   have HC := Lib.hid hC
   have keep : wr.heap[b]? = w.heap[b]? := (grown_after B1.out T.grown).block b hb (fun e => hbg (by injection e))
   have hbr := Nat.lt_of_lt_of_le hb (grown_after B1.out T.grown).size
   obtain ⟨x0, x1, x2, x3, x4, x5, x6, x7⟩ := hx.kept keep
   have ZQ := Lib.hid (blk_grown Z1.out T.grown (by omega))
   clear I T hno hr hC hx keep
   go_upto_region 4 with fail
   obtain ⟨w2, hw2⟩ : ∃ z, z = wr.alloc (.cells #[.string y.op, .int .i64 y.kind, .int .i64 y.col, .int .i64 y.val.kind, .int .i64 y.val.int, .string y.val.text, .bool y.val.bool, .slice Ay ny cy] 51) := ⟨_, rfl⟩
   have ZX := Lib.hid (show Blk w2 wr.heap.size 51 #[.string y.op, .int .i64 y.kind, .int .i64 y.col, .int .i64 y.val.kind, .int .i64 y.val.int, .string y.val.text, .bool y.val.bool, .slice Ay ny cy] by rw [hw2]; exact Blk.new wr 51 _)
   have B2 := Lib.hid (show Below wr.heap.size wr w2 by rw [hw2]; exact below_alloc _ _)
   rw [← hw2]
   clear hw2 x0 x1 x2 x3 x4 x5 x6 x7
   have T2 := Lib.hid (TT.out.below B2.out)
   have GW := Lib.hid (grown_after B1.out T2.out.grown)
   have y1 := T2.out.mine
   have y0 : w2.cell? ⟨g, go, none⟩ = some (.slice RA rn rc) := (T2.out.other (by omega)).trans H0.out
   have y2 : w2.cell? ⟨g, go + 2, none⟩ = some (.slice none 0 0) := (T2.out.other (by omega)).trans H2.out
   have hgl := T2.out.ltW
   have zc := (ZQ.out.below B2.out).cell
   have a0 := zc 0
   have a1 := zc 1
   have a2 := zc 2
   have a3 := zc 3
   have a4 := zc 4
   have a5 := zc 5
   have a6 := zc 6
   have a7 := zc 7
   have a8 := zc 8
   have a9 := zc 9
   have zd := ZX.out.cell
   have x0 := zd 0
   have x1 := zd 1
   have x2 := zd 2
   have x3 := zd 3
   have x4 := zd 4
   have x5 := zd 5
   have x6 := zd 6
   have x7 := zd 7
   have hl1 := (ZQ.out.below B2.out).lt
   have hl2 := ZX.out.lt
   clear zc zd
   go_cut [7, 8] from 21 to 29 (fun s7 s8 wx => ∃ p7 : Nat, s7 = .pointer (some ⟨p7, 0, none⟩) ∧ s8 = errV er ∧ Hid (Below w2.heap.size w2 wx ∧ w2.heap.size ≤ p7 ∧ p7 < wx.heap.size ∧ ValC wx p7 0 ⟨vk, vi, vt, vb⟩))
   case first =>
    have hs := B2.out.size
    have hb0 := below_drew w2
    obtain ⟨ev, hev⟩ : ∃ q, q = errV er := ⟨_, rfl⟩
    go_region_law (first | (go_simp; go_at_call 93; refine (HC.out _ ?_ _ _ _ _ _ _).mono ?_; · exact grown_below GW.out (by go_grown)
                            rintro e2 w3 ⟨rfl, h3⟩; simp only [resV, Val.cells, ← hev]; have hs3 := h3.out.size; have hb3 := bt h3.out (show Below w2.heap.size w2 _ by go_grown); have hs4 := hb3.size; (first | ((first | (with_reducible have pz := one_aldT h3.out) | (with_reducible have pz := one_alT h3.out)); have hfz := (fun o => pz.frozen o); have q0 := pz.cell 0; have q1 := pz.cell 1; have q2 := pz.cell 2; have q3 := pz.cell 3) | skip)))
    all_goals
     go_wp2_with fail
     go_meet
     case rel =>
      first | (with_reducible exact tel_a hb3 er) | (with_reducible exact tel_b hb3 pz er)
   case rest =>
    obtain ⟨p7, rfl, rfl, H⟩ := hcut
    clear a0 a1 a2 a3 a4 a5 a6 a7 a8 a9 x0 x1 x2 x3 x4 x5 x6 x7 y0 y1 y2
    have T3 := Lib.hid (T2.out.below H.out.1)
    cases er with
    | some er =>
     simp only [errV]
     go_wp2_with fail
     go_ret
     have ee : errL (its ++ ords) = some er := errL_at (i := i) (fun j r hj hr => NO.out j r hj (by rw [List.getElem?_append_left (by rw [HL1.out]; omega)] at hr; exact hr)) (by rw [List.getElem?_append_left (by rw [HL1.out]; exact hi)]; exact HR.out)
     refine ⟨by rw [ee]; rfl, Lib.hid (grown_after B1.out T3.out.grown), Lib.hid (fun h => by rw [ee] at h; cases h)⟩
    | none =>
     simp only [errV]
     go_upto_region 7 with fail
     obtain ⟨d0, d1, d2, d3⟩ := H.out.2.2.2
     simp only [Nat.zero_add] at d1 d2 d3
     have hp7 := H.out.2.2.1
     have g0 := T3.out.mine
     have hgf := fun o => T3.out.frozen o
     have hg3 := T3.out.ltW
     have bz : Below wc.heap.size wc (wc.drew.alloc (.cells #[.int .i64 vk, .int .i64 vi, .string vt, .bool vb] 26)) := bt (below_alloc wc.drew _) (below_drew wc)
     obtain ⟨An, cn, w5, hrun, hg5, hkf, k1, TN⟩ := (T3.out.below bz).step (by omega) wc.heap.size ⟨vk, vi, vt, vb⟩ (Blk.new wc.drew 26 _)
     have HRUN := Lib.hid hrun
     have NX := Lib.hid (show ∃ A' c', TelI w1 g go w1.heap.size 1 cur0 ((its.take (i + 1)).map (·.1)) A' (i + 1) c' (w5.setCell ⟨g, go + 1, none⟩ (.slice An (i + 1) cn)) ∧ ∀ j r, j < i + 1 → its[j]? = some r → r.2 = none from
      ⟨An, cn, by rw [← take_more HR.out]; exact TN, fun j r hj hr => by
       rcases Nat.lt_or_ge j i with h | h
       ·exact NO.out j r h hr
       ·obtain rfl : j = i := by omega
        obtain rfl := Option.some.inj (hr.symm.trans HR.out)
        rfl⟩)
     clear hrun TN bz
     go_region_law (first | (refine step_append_runI rfl _ _ 30 30 rfl (.slice A i c) (.slice (some ⟨wc.heap.size, 0, none⟩) 1 1) (by simp [Act.eval]) (by simp [Act.eval]) HRUN.out ?_))
     all_goals
      go_wp2_with fail
      go_roundg (gk - 1)
      case measure => omega
      case rel => exact ⟨i + 1, by first | rfl | (simp; done), by omega, NX⟩
  ·obtain rfl : i = n1 := by omega
   have hiz : ¬ (i : Int) < (i : Int) := by omega
   obtain ⟨Am, cm, T, hno⟩ := I.out
   obtain ⟨wm, rfl⟩ : ∃ x, x = wr := ⟨_, rfl⟩
   obtain ⟨n1, rfl⟩ : ∃ x, x = i := ⟨_, rfl⟩
   have BM := Lib.hid (show w.grownBy wm (some g) from grown_after B1.out T.grown)
   obtain ⟨curm, cm1, cm2, cm3, cm4⟩ := T.blk
   have H0m := Lib.hid ((cm4 go (by omega)).trans H0.out)
   have H1m := Lib.hid cm3
   have CM := Lib.hid (And.intro cm2 cm4)
   have TI2 := Lib.hid (show TelI wm g go wm.heap.size 2 curm [] none 0 0 wm from ⟨grown_refl _ _, T.ltW, Nat.le_refl _, Nat.le_refl _, ⟨curm, cm1, rfl, (cm4 (go + 2) (by omega)).trans H2.out, fun _ _ => rfl⟩, rfl, World.ownsRow_nil _ _ _ _⟩)
   have Z2 := Lib.hid (blk_grown Z1.out T.grown (by omega))
   have NOM := Lib.hid (show ∀ r ∈ its, r.2 = none from fun r hr => by
    obtain ⟨j, hj⟩ := List.getElem?_of_mem hr
    exact hno j r (by have := (List.getElem?_eq_some_iff.1 hj).1; rw [HL1.out] at this; exact this) hj)
   have IT := Lib.hid (show wm.ownsRow w1.heap.size 26 4 (.slice Am n1 cm) n1 (valCells (its.map (·.1))) by
    have := T.row
    rw [List.take_of_length_le (by rw [HL1.out]; exact Nat.le_refl _)] at this
    exact this)
   have z5 := Z2.out.cell 5
   have hsm := Z2.out.lt
   clear I T hno cm1 cm2 cm3 cm4 TI1
   go_wp2_with fail
   clear z5
   go_loopg [48] n2 (fun kx s48 wr => ∃ i : Nat, s48 = .int .i64 i ∧ kx + i = n2 ∧ Hid (∃ A c, TelI wm g go wm.heap.size 2 curm ((ords.take i).map (·.1)) A i c wr ∧ ∀ j r, j < i → ords[j]? = some r → r.2 = none))
   case atStart => exact ⟨0, rfl, rfl, Lib.hid ⟨none, 0, TI2.out, fun j r h => absurd h (Nat.not_lt_zero _)⟩⟩
   case round =>
    obtain ⟨i, rfl, hk, I⟩ := hrel
    have hi9 : (i : Int) < 3518437208882 := by omega
    have hi0 : (0 : Int) ≤ (i : Int) := by omega
    by_cases hi : i < n2
    ·have hiz : (i : Int) < (n2 : Int) := by omega
     obtain ⟨⟨⟨vk, vi, vt, vb⟩, er⟩, hr⟩ : ∃ r, ords[i]? = some r := ⟨_, List.getElem?_eq_getElem (by rw [HL2.out]; exact hi)⟩
     obtain ⟨A, c, T, hno⟩ := I.out
     have TT := Lib.hid T
     have NO := Lib.hid hno
     have HR := Lib.hid hr
     obtain ⟨bD, oD, dD, eD, hdD⟩ := HD.out i hi
     obtain ⟨b, off, y, Ay, ny, cy, rfl, hb, hbg, hx, hC⟩ := HO.out i _ hr
     have HC := Lib.hid hC
     have keep : wr.heap[b]? = w.heap[b]? := (grown_two BM.out T.grown).block b hb (fun e => hbg (by injection e))
     have hbr := Nat.lt_of_lt_of_le hb (grown_two BM.out T.grown).size
     obtain ⟨x0, x1, x2, x3, x4, x5, x6, x7⟩ := hx.kept keep
     have x8 : wr.cell? ⟨b, off + i * 9 + 8, none⟩ = some (.bool dD) := by
      injection eD with eD
      injection eD with eD1 eD2
      subst eD1 eD2
      exact (World.cell?_of_block (a := ⟨b, off + i * 9 + 8, none⟩) keep).trans hdD
     clear hdD eD
     have ZQ := Lib.hid (blk_grown Z2.out T.grown (by omega))
     clear I T hno hr hC hx keep
     go_upto_region 12 with fail
     obtain ⟨w2, hw2⟩ : ∃ z, z = wr.alloc (.cells #[.string y.op, .int .i64 y.kind, .int .i64 y.col, .int .i64 y.val.kind, .int .i64 y.val.int, .string y.val.text, .bool y.val.bool, .slice Ay ny cy, .bool dD] 137) := ⟨_, rfl⟩
     have ZX := Lib.hid (show Blk w2 wr.heap.size 137 #[.string y.op, .int .i64 y.kind, .int .i64 y.col, .int .i64 y.val.kind, .int .i64 y.val.int, .string y.val.text, .bool y.val.bool, .slice Ay ny cy, .bool dD] by rw [hw2]; exact Blk.new wr 137 _)
     have B2 := Lib.hid (show Below wr.heap.size wr w2 by rw [hw2]; exact below_alloc _ _)
     rw [← hw2]
     clear hw2 x0 x1 x2 x3 x4 x5 x6 x7 x8
     have T2 := Lib.hid (TT.out.below B2.out)
     have GW := Lib.hid (grown_two BM.out T2.out.grown)
     have y2 := T2.out.mine
     have y0 : w2.cell? ⟨g, go, none⟩ = some (.slice RA rn rc) := (T2.out.other (by omega)).trans H0m.out
     have y1 : w2.cell? ⟨g, go + 1, none⟩ = some (.slice Am n1 cm) := (T2.out.other (by omega)).trans H1m.out
     have hgl := T2.out.ltW
     have zc := (ZQ.out.below B2.out).cell
     have a0 := zc 0
     have a1 := zc 1
     have a2 := zc 2
     have a3 := zc 3
     have a4 := zc 4
     have a5 := zc 5
     have a6 := zc 6
     have a7 := zc 7
     have a8 := zc 8
     have a9 := zc 9
     have zd := ZX.out.cell
     have x0 := zd 0
     have x1 := zd 1
     have x2 := zd 2
     have x3 := zd 3
     have x4 := zd 4
     have x5 := zd 5
     have x6 := zd 6
     have x7 := zd 7
     have hl1 := (ZQ.out.below B2.out).lt
     have hl2 := ZX.out.lt
     clear zc zd
     go_cut [11, 12] from 52 to 61 (fun s7 s8 wx => ∃ p7 : Nat, s7 = .pointer (some ⟨p7, 0, none⟩) ∧ s8 = errV er ∧ Hid (Below w2.heap.size w2 wx ∧ w2.heap.size ≤ p7 ∧ p7 < wx.heap.size ∧ ValC wx p7 0 ⟨vk, vi, vt, vb⟩))
     case first =>
      have hs := B2.out.size
      have hb0 := below_drew w2
      obtain ⟨ev, hev⟩ : ∃ q, q = errV er := ⟨_, rfl⟩
      go_region_law (first | (go_simp; go_at_call 93; refine (HC.out _ ?_ _ _ _ _ _ _).mono ?_; · exact grown_below GW.out (by go_grown)
                              rintro e2 w3 ⟨rfl, h3⟩; simp only [resV, Val.cells, ← hev]; have hs3 := h3.out.size; have hb3 := bt h3.out (show Below w2.heap.size w2 _ by go_grown); have hs4 := hb3.size; (first | ((first | (with_reducible have pz := one_aldT h3.out) | (with_reducible have pz := one_alT h3.out)); have hfz := (fun o => pz.frozen o); have q0 := pz.cell 0; have q1 := pz.cell 1; have q2 := pz.cell 2; have q3 := pz.cell 3) | skip)))
      all_goals
       go_wp2_with fail
       go_meet
       case rel =>
        first | (with_reducible exact tel_a hb3 er) | (with_reducible exact tel_b hb3 pz er)
     case rest =>
      obtain ⟨p7, rfl, rfl, H⟩ := hcut
      clear a0 a1 a2 a3 a4 a5 a6 a7 a8 a9 x0 x1 x2 x3 x4 x5 x6 x7 y0 y1 y2
      have T3 := Lib.hid (T2.out.below H.out.1)
      cases er with
      | some er =>
       simp only [errV]
       go_wp2_with fail
       go_ret
       have ee : errL (its ++ ords) = some er := errL_at (i := n1 + i) (fun j r hj hr => by
        rcases Nat.lt_or_ge j n1 with h | h
        ·rw [List.getElem?_append_left (by rw [HL1.out]; exact h)] at hr
         exact NOM.out r (List.mem_of_getElem? hr)
        ·rw [List.getElem?_append_right (by rw [HL1.out]; exact h), HL1.out] at hr
         exact NO.out _ r (by omega) hr) (by rw [List.getElem?_append_right (by rw [HL1.out]; omega), HL1.out, Nat.add_sub_cancel_left]; exact HR.out)
       refine ⟨by rw [ee]; rfl, Lib.hid (grown_two BM.out T3.out.grown), Lib.hid (fun h => by rw [ee] at h; cases h)⟩
      | none =>
       simp only [errV]
       go_upto_region 15 with fail
       obtain ⟨d0, d1, d2, d3⟩ := H.out.2.2.2
       simp only [Nat.zero_add] at d1 d2 d3
       have hp7 := H.out.2.2.1
       have g0 := T3.out.mine
       have hgf := fun o => T3.out.frozen o
       have hg3 := T3.out.ltW
       have bz : Below wc.heap.size wc (wc.drew.alloc (.cells #[.int .i64 vk, .int .i64 vi, .string vt, .bool vb] 26)) := bt (below_alloc wc.drew _) (below_drew wc)
       obtain ⟨An, cn, w5, hrun, hg5, hkf, k1, TN⟩ := (T3.out.below bz).step (by omega) wc.heap.size ⟨vk, vi, vt, vb⟩ (Blk.new wc.drew 26 _)
       have HRUN := Lib.hid hrun
       have NX := Lib.hid (show ∃ A' c', TelI wm g go wm.heap.size 2 curm ((ords.take (i + 1)).map (·.1)) A' (i + 1) c' (w5.setCell ⟨g, go + 2, none⟩ (.slice An (i + 1) cn)) ∧ ∀ j r, j < i + 1 → ords[j]? = some r → r.2 = none from
        ⟨An, cn, by rw [← take_more HR.out]; exact TN, fun j r hj hr => by
         rcases Nat.lt_or_ge j i with h | h
         ·exact NO.out j r h hr
         ·obtain rfl : j = i := by omega
          obtain rfl := Option.some.inj (hr.symm.trans HR.out)
          rfl⟩)
       clear hrun TN bz
       go_region_law (first | (refine step_append_runI rfl _ _ 30 30 rfl (.slice A i c) (.slice (some ⟨wc.heap.size, 0, none⟩) 1 1) (by simp [Act.eval]) (by simp [Act.eval]) HRUN.out ?_))
       all_goals
        go_wp2_with fail
        go_roundg (gk - 1)
        case measure => omega
        case rel => exact ⟨i + 1, by first | rfl | (simp; done), by omega, NX⟩
    ·obtain rfl : i = n2 := by omega
     have hiz : ¬ (i : Int) < (i : Int) := by omega
     obtain ⟨Bm, dm, T, hno⟩ := I.out
     have TT := Lib.hid T
     have NO := Lib.hid (show ∀ r ∈ ords, r.2 = none from fun r hr => by
      obtain ⟨j, hj⟩ := List.getElem?_of_mem hr
      exact hno j r (by have := (List.getElem?_eq_some_iff.1 hj).1; rw [HL2.out] at this; exact this) hj)
     clear I T hno
     go_wp2_with fail
     go_ret
     have ee : errL (its ++ ords) = none := errL_none fun r hr => by
      rcases List.mem_append.1 hr with h | h
      ·exact NOM.out r h
      ·exact NO.out r h
     refine ⟨by rw [ee]; rfl, Lib.hid (grown_two BM.out TT.out.grown), Lib.hid fun _ => ?_⟩
     obtain ⟨cur2, k1, k2, k3, k4⟩ := TT.out.blk
     have hit := IT.out.lt
     have hrow := TT.out.row
     rw [List.take_of_length_le (by rw [HL2.out]; exact Nat.le_refl _)] at hrow
     have hord := hrow.lt
     have s1 := B1.out.size
     have s2 := BM.out.size
     rw [HL1.out, HL2.out]
     refine ⟨Am, cm, Bm, dm, cur2, k1, by rw [k2, CM.out.1], fun x h1 h2 => by rw [k4 x h2, CM.out.2 x h1], by rw [k4 (go + 1) (by omega)]; exact H1m.out, k3, ?_, ?_⟩
     ·exact own_base (own_blk IT.out fun b hb => TT.out.grown.block b (hit b hb).2 (fun e => by injection e with e; have := (hit b hb).1; omega)) fun b hb => by have := (hit b hb).1; omega
     ·exact own_base hrow fun b hb => by have := (hord b hb).1; omega

end Go.Proofs.YtbcmmecilheicaaGreatDoor

