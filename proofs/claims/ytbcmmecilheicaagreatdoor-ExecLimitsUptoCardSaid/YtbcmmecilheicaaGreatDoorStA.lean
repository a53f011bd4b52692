/- few. Statements in memory; the sizes that the law looks at: parts, All, small, wide. All: the expressions of a statement, in a row of one's own. small: has a statement few parts? -/
import Derived.Test.YtbcmmecilheicaaGreatDoorEvCE
import Derived.Test.YtbcmmecilheicaaGreatDoorOfA
import Derived.Test.YtbcmmecilheicaaGreatDoorApp

/- few. -/
namespace Go.Proofs.YtbcmmecilheicaaGreatDoor
open Go Go.RowKit

/-- some number comes back -/
def SomeN (w : World) (e : Ending) (w' : World) : Prop := ∃ k : Int, e = .returned (.int .i64 k) ∧ Hid (Below w.heap.size w w')

end Go.Proofs.YtbcmmecilheicaaGreatDoor

/- Statements in memory; the sizes that the law looks at: parts, All, small, wide. -/
namespace Go.Proofs.YtbcmmecilheicaaGreatDoor
open Go Go.RowKit

abbrev pexAgg (x : PEx) (A : Option Addr) (n c : Nat) : Value := .agg #[.string x.op, .int .i64 x.val.kind, .int .i64 x.val.int, .string x.val.text, .bool x.val.bool, .string x.name, .slice A n c]
set_option maxRecDepth 100000 in
set_option maxHeartbeats 4000000 in
theorem parts45 {W0 : World} {x : PEx} {A : Option Addr} {n c : Nat} (h : PExIs W0 x A n c) : ∀ W (deep most : Int), Below W0.heap.size W0 W → Calls Tryz.prog 45 #[pexAgg x A n c, .int .i64 deep, .int .i64 most] W (SomeN W) := by
 induction h with
 | mk op v name args A n c len small t0 t1 t2 b off hA As ns cs cells sub ih =>
  intro W deep most hW
  show Calls Tryz.prog 45 #[.agg #[.string op, .int .i64 v.kind, .int .i64 v.int, .string v.text, .bool v.bool, .string name, .slice A n c], .int .i64 deep, .int .i64 most] W _
  have hn9 : n ≤ 1466015503701 := small
  have HW := Lib.hid hW
  have HA := Lib.hid hA
  have HC := Lib.hid cells
  have HI := Lib.hid ih
  have HL := Lib.hid len
  clear hW hA cells ih len small t0 t1 t2 sub
  by_cases hd : 100 < deep
  ·go_enter Tryz.func45, Tryz.ntmps45
   go_wp2
   go_ret
   exact ⟨_, rfl, Lib.hid (below_alloc _ _)⟩
  ·go_enter Tryz.func45, Tryz.ntmps45
   go_upto_region 4 with fail
   obtain ⟨w1, hw1⟩ : ∃ y, y = W.alloc (.cells #[.string op, .int .i64 v.kind, .int .i64 v.int, .string v.text, .bool v.bool, .string name, .slice A n c] 29) := ⟨_, rfl⟩
   have Z1 := Lib.hid (show Blk w1 W.heap.size 29 #[.string op, .int .i64 v.kind, .int .i64 v.int, .string v.text, .bool v.bool, .string name, .slice A n c] by rw [hw1]; exact Blk.new W 29 _)
   have B1 := Lib.hid (show Below W.heap.size W w1 by rw [hw1]; exact below_alloc _ _)
   rw [← hw1]
   clear hw1
   go_wp2_with fail
   go_loopg [7, 8] n (fun kx s7 s8 wr => ∃ (i : Nat) (k : Int), s7 = .int .i64 k ∧ s8 = .int .i64 i ∧ kx + i = n ∧ Hid (Below w1.heap.size w1 wr))
   case atStart => exact ⟨0, 1, rfl, rfl, rfl, Lib.hid (Below.refl _ _)⟩
   case round =>
    obtain ⟨i, k, rfl, rfl, hk, I⟩ := hrel
    have z7 := (Z1.out.below I.out).cell 6
    by_cases hi : i < n
    ·have hiz : (i : Int) < (n : Int) := by omega
     by_cases hm : k < most
     ·obtain ⟨e, he⟩ : ∃ e, args[i]? = some e := ⟨_, List.getElem?_eq_getElem (by rw [HL.out]; exact hi)⟩
      obtain ⟨hAe, hbl⟩ := HA.out (by omega)
      subst hAe
      have bwr : Below W0.heap.size W0 wr := bt I.out (bt B1.out HW.out)
      obtain ⟨c0, c1, c2, c3, c4, c5, c6⟩ := (HC.out i e he).below hbl bwr
      have hi0 : (0 : Int) ≤ (i : Int) := by omega
      have hx96 : (i : Int) < 1466015503701 := by omega
      have call := Lib.hid (fun d m => HI.out i e he wr d m bwr)
      have BB := Lib.hid I.out
      clear he bwr I
      go_wp2_with fail
      refine (call.out _ _).mono ?_
      clear call c0 c1 c2 c3 c4 c5 c6
      rintro e2 w2 ⟨k2, rfl, h2⟩
      have B2 := Lib.hid (bt h2.out BB.out)
      clear h2
      go_wp2_with fail
      go_roundg (gk - 1)
      case measure => omega
      case rel => exact ⟨i + 1, _, rfl, by first | rfl | (simp; done), by omega, B2⟩
     ·go_wp2_with fail
      go_ret
      exact ⟨_, rfl, Lib.hid (bt I.out B1.out)⟩
    ·have hiz : ¬ (i : Int) < (n : Int) := by omega
     go_wp2_with fail
     go_ret
     exact ⟨_, rfl, Lib.hid (bt I.out B1.out)⟩

/-- items, as they are read -/
structure PItemsAt (W : World) (A : Option Addr) (n : Nat) (l : List (PEx × ByteArray)) : Prop where
 len : l.length = n
 at_ : ∀ (j : Nat) (e : PEx × ByteArray), l[j]? = some e → ∃ b off Ae ne ce, A = some ⟨b, off, none⟩ ∧ b < W.heap.size ∧ PExC W b (off + j * 8) e.1 Ae ne ce ∧ PExIs W e.1 Ae ne ce ∧ W.cell? ⟨b, off + j * 8 + 7, none⟩ = some (.string e.2)
theorem PItemsAt.below {W W' : World} {A : Option Addr} {n : Nat} {l : List (PEx × ByteArray)} (h : PItemsAt W A n l) (hW : Below W.heap.size W W') : PItemsAt W' A n l :=
 ⟨h.len, fun j e hj => by
  obtain ⟨b, off, Ae, ne, ce, e1, hb, hc, hi, hs⟩ := h.at_ j e hj
  exact ⟨b, off, Ae, ne, ce, e1, Nat.lt_of_lt_of_le hb hW.size, hc.below hb hW, hi.bel hW, (hW.cell (p := ⟨b, off + j * 8 + 7, none⟩) hb).trans hs⟩⟩
/-- orders, as they are read -/
structure PSortsAt (W : World) (A : Option Addr) (n : Nat) (l : List (PEx × Bool)) : Prop where
 len : l.length = n
 at_ : ∀ (j : Nat) (e : PEx × Bool), l[j]? = some e → ∃ b off Ae ne ce, A = some ⟨b, off, none⟩ ∧ b < W.heap.size ∧ PExC W b (off + j * 8) e.1 Ae ne ce ∧ PExIs W e.1 Ae ne ce ∧ W.cell? ⟨b, off + j * 8 + 7, none⟩ = some (.bool e.2)
theorem PSortsAt.below {W W' : World} {A : Option Addr} {n : Nat} {l : List (PEx × Bool)} (h : PSortsAt W A n l) (hW : Below W.heap.size W W') : PSortsAt W' A n l :=
 ⟨h.len, fun j e hj => by
  obtain ⟨b, off, Ae, ne, ce, e1, hb, hc, hi, hs⟩ := h.at_ j e hj
  exact ⟨b, off, Ae, ne, ce, e1, Nat.lt_of_lt_of_le hb hW.size, hc.below hb hW, hi.bel hW, (hW.cell (p := ⟨b, off + j * 8 + 7, none⟩) hb).trans hs⟩⟩
/-- a statement -/
structure St where
 kind : Int
 table : ByteArray
 items : List (PEx × ByteArray)
 where_ : List PEx
 group : List ByteArray
 order : List (PEx × Bool)
 limit : Int
/-- where its slices lie -/
structure StL where
 ia : Option Addr
 ni : Nat
 ci : Nat
 wa : Option Addr
 nw : Nat
 cw : Nat
 ga : Option Addr
 ng : Nat
 cg : Nat
 oa : Option Addr
 no : Nat
 co : Nat
abbrev stCells (x : St) (l : StL) : Array Value := #[.int .i64 x.kind, .string x.table, .slice l.ia l.ni l.ci, .slice l.wa l.nw l.cw, .slice l.ga l.ng l.cg, .slice l.oa l.no l.co, .int .i64 x.limit]
structure StAt (W : World) (x : St) (l : StL) : Prop where
 items : PItemsAt W l.ia l.ni x.items
 where_ : PExsAt W l.wa l.nw x.where_
 group : StrsAt W l.ga l.ng x.group
 order : PSortsAt W l.oa l.no x.order
 ni : l.ni ≤ 1048576
 nw : l.nw ≤ 1048576
 cw : l.nw ≤ l.cw
 ng : l.ng ≤ 1048576
 no : l.no ≤ 1048576
theorem StAt.below {W W' : World} {x : St} {l : StL} (h : StAt W x l) (hW : Below W.heap.size W W') : StAt W' x l :=
 ⟨h.items.below hW, h.where_.below hW, h.group.below hW, h.order.below hW, h.ni, h.nw, h.cw, h.ng, h.no⟩
/-- all expressions of a statement -/
def St.all (x : St) : List PEx := x.items.map (·.1) ++ x.where_ ++ x.order.map (·.1)

end Go.Proofs.YtbcmmecilheicaaGreatDoor

/- All: the expressions of a statement, in a row of one's own. -/
namespace Go.Proofs.YtbcmmecilheicaaGreatDoor
open Go Go.RowKit

abbrev PGiven := PEx × Option Addr × Nat × Nat
def pexCells (l : List PGiven) : List Value := (l.map fun g => [Value.string g.1.op, .int .i64 g.1.val.kind, .int .i64 g.1.val.int, .string g.1.val.text, .bool g.1.val.bool, .string g.1.name, .slice g.2.1 g.2.2.1 g.2.2.2]).flatten
theorem pexCells_len (l : List PGiven) : (pexCells l).length = l.length * 7 := by
 induction l with
 | nil => rfl
 | cons p l ih => simp only [pexCells, List.map_cons, List.flatten_cons, List.length_append, List.length_cons, List.length_nil] at ih ⊢; omega
theorem pexCells_append (a b : List PGiven) : pexCells (a ++ b) = pexCells a ++ pexCells b := by simp [pexCells]
theorem pexCells_at : ∀ {l : List PGiven} {i : Nat} {g : PGiven}, l[i]? = some g → ∀ k < 7, (pexCells l)[i * 7 + k]? = (pexCells [g])[k]?
 | [], _, _, h, _, _ => by simp at h
 | q :: l, 0, p, h, k, hk => by
  obtain rfl : q = p := by simpa using h
  have e : pexCells (q :: l) = pexCells [q] ++ pexCells l := by simp [pexCells]
  rw [e, Nat.zero_mul, Nat.zero_add, List.getElem?_append_left (by rw [pexCells_len]; exact hk)]
 | q :: l, i + 1, p, h, k, hk => by
  have ih := pexCells_at (l := l) (i := i) (g := p) (by simpa using h) k hk
  have e : pexCells (q :: l) = pexCells [q] ++ pexCells l := by simp [pexCells]
  have hl : (pexCells [q]).length = 7 := by rw [pexCells_len]; rfl
  rw [e, List.getElem?_append_right (by rw [hl]; omega), hl, show (i + 1) * 7 + k - 7 = i * 7 + k by omega]
  exact ih
theorem pexCells_one {l : List PGiven} : ∀ u ∈ pexCells l, u.oneCell' = true := by
 intro u hu
 obtain ⟨c, hc, huc⟩ := List.mem_flatten.1 hu
 obtain ⟨p, hp, rfl⟩ := List.mem_map.1 hc
 simp only [List.mem_cons, List.not_mem_nil, or_false] at huc
 rcases huc with rfl | rfl | rfl | rfl | rfl | rfl | rfl <;> rfl
theorem tPexs : SlT Tryz.prog 27 29 7 96 (.agg #[.string ⟨#[]⟩, .int .i64 0, .int .i64 0, .string ⟨#[]⟩, .bool false, .string ⟨#[]⟩, .slice none 0 0]) := ⟨Tryz.underlying27, info_of (by kernel_rfl), rfl, by decide⟩

/-- what All keeps -/
structure AlI (x : St) (l : StL) (w wr : World) (m : Nat) (A : Option Addr) (co : Nat) (gs : List PGiven) : Prop where
 old : Below w.heap.size w wr
 xb : Blk wr w.heap.size 58 (stCells x l)
 row : wr.ownsRow (w.heap.size + 1) 29 7 (.slice A m co) m (pexCells gs)
 len : gs.length = m
 is_ : ∀ g ∈ gs, PExIs w g.1 g.2.1 g.2.2.1 g.2.2.2
section
variable {x : St} {l : StL} {w wr : World} {m : Nat} {A : Option Addr} {co : Nat} {gs : List PGiven}
theorem AlI.grown (I : AlI x l w wr m A co gs) {w3 : World} {V : Value} (hV : V.ownBlock = (Value.slice A m co).ownBlock) (hg : wr.grownBy w3 V.ownBlock) : Below w.heap.size w w3 ∧ Blk w3 w.heap.size 58 (stCells x l) := by
 have own_lt : ∀ k, (Value.slice A m co).ownBlock = some k → w.heap.size + 1 ≤ k ∧ k < wr.heap.size := I.row.lt
 have hsz := hg.size
 have hs0 := I.old.size
 have hxl := I.xb.lt
 have ne : ∀ b, b < w.heap.size + 1 → some b ≠ V.ownBlock := fun b hb e => by rw [hV] at e; have := (own_lt b e.symm).1; omega
 exact ⟨⟨hg.os.trans I.old.os, hg.tape.trans I.old.tape, hg.output.trans I.old.output, by omega, fun k hk => (hg.block k (by omega) (ne k (by omega))).trans (I.old.block k hk)⟩, (hg.block _ hxl (ne _ (by omega))).trans I.xb⟩
theorem AlI.push (I : AlI x l w wr m A co gs) (hm : m + 1 ≤ 4000000) {e : PEx} {Ae : Option Addr} {ne ce : Nat} (he : PExIs w e Ae ne ce) :
  ∃ An cn w3, (Builtin.append_ #[27, 27] 27 #[.slice A m co, .slice (some ⟨wr.heap.size, 0, none⟩) 1 1]).run Tryz.prog (wr.alloc (.cells #[.string e.op, .int .i64 e.val.kind, .int .i64 e.val.int, .string e.val.text, .bool e.val.bool, .string e.name, .slice Ae ne ce] 29)) = .ok (.slice An (m + 1) cn) w3 ∧ AlI x l w w3 (m + 1) An cn (gs ++ [(e, Ae, ne, ce)]) := by
 have hb := below_alloc wr (.cells #[.string e.op, .int .i64 e.val.kind, .int .i64 e.val.int, .string e.val.text, .bool e.val.bool, .string e.name, .slice Ae ne ce] 29)
 have I2 : AlI x l w (wr.alloc (.cells #[.string e.op, .int .i64 e.val.kind, .int .i64 e.val.int, .string e.val.text, .bool e.val.bool, .string e.name, .slice Ae ne ce] 29)) m A co gs := ⟨bt hb I.old, I.xb.below hb, own_below I.row hb, I.len, I.is_⟩
 have hs0 := I.old.size
 have hxl := I.xb.lt
 obtain ⟨An, cn, w3, hrun, hown, hg, -⟩ := app_some tPexs 27 I2.row (by simp; omega) ⟨wr.heap.size, 0, none⟩ 1 1 (by omega) (pexCells [(e, Ae, ne, ce)]) (pexCells_len _) (fun j u hj => by
  rw [add_lit0, (Blk.new wr 29 _).cell j]
  simpa [pexCells] using hj) pexCells_one (by unfold maxLen; omega) (by omega)
 obtain ⟨g1, g2⟩ := I2.grown rfl hg
 refine ⟨An, cn, w3, hrun, g1, g2, by rw [pexCells_append]; exact hown, by simp [I.len], fun g hgm => ?_⟩
 rcases List.mem_append.1 hgm with h | h
 ·exact I.is_ g h
 ·obtain rfl : g = (e, Ae, ne, ce) := by simpa using h
  exact he
theorem AlI.pushM (I : AlI x l w wr m A co gs) {k : Nat} (hm : m + k ≤ 4000000) {ws : List PEx} {WA : Option Addr} (hw : PExsAt w WA k ws) (c : Nat) :
  ∃ An cn w3 gs', (Builtin.append_ #[27, 27] 27 #[.slice A m co, .slice WA k c]).run Tryz.prog wr = .ok (.slice An (m + k) cn) w3 ∧ AlI x l w w3 (m + k) An cn (gs ++ gs') ∧ gs'.map (·.1) = ws := by
 by_cases h0 : k = 0
 ·subst h0
  have hl := hw.len
  obtain rfl : ws = [] := List.length_eq_zero_iff.1 hl
  have hc := own_cap I.row
  exact ⟨A, co, wr, [], app_zero tPexs 27 wr hc.2, by simpa using I, rfl⟩
 ·classical
  have pick : ∀ j : Nat, ∃ p : PGiven, j < k → ws[j]? = some p.1 ∧ ∃ b off, WA = some ⟨b, off, none⟩ ∧ b < w.heap.size ∧ PExC w b (off + j * 7) p.1 p.2.1 p.2.2.1 p.2.2.2 ∧ PExIs w p.1 p.2.1 p.2.2.1 p.2.2.2 := fun j => by
   by_cases hj : j < k
   ·have hj' : j < ws.length := by rw [hw.len]; exact hj
    obtain ⟨b, off, Ae, ne, ce, e1, hb, hc, hi⟩ := hw.at_ j ws[j] (List.getElem?_eq_getElem hj')
    exact ⟨(ws[j], Ae, ne, ce), fun _ => ⟨List.getElem?_eq_getElem hj', b, off, e1, hb, hc, hi⟩⟩
   ·exact ⟨(.mk ⟨#[]⟩ Val.null ⟨#[]⟩ [], none, 0, 0), fun h => absurd h hj⟩
  let F : Nat → PGiven := fun j => (pick j).choose
  have hF : ∀ j, j < k → ws[j]? = some (F j).1 ∧ ∃ b off, WA = some ⟨b, off, none⟩ ∧ b < w.heap.size ∧ PExC w b (off + j * 7) (F j).1 (F j).2.1 (F j).2.2.1 (F j).2.2.2 ∧ PExIs w (F j).1 (F j).2.1 (F j).2.2.1 (F j).2.2.2 := fun j => (pick j).choose_spec
  obtain ⟨-, b, off, hWA, hb, -, -⟩ := hF 0 (by omega)
  subst hWA
  have hlen : ((List.range k).map F).length = k := by simp
  have hmem : ∀ {j : Nat} {g : PGiven}, ((List.range k).map F)[j]? = some g → j < k ∧ g = F j := fun {j g} hj => by
   have hj1 : j < k := by
    have := (List.getElem?_eq_some_iff.1 hj).1
    simpa using this
   rw [List.getElem?_map, List.getElem?_range hj1] at hj
   exact ⟨hj1, (by simpa using hj.symm)⟩
  have hs0 := I.old.size
  have hxl := I.xb.lt
  obtain ⟨An, cn, w3, hrun, hown, hg, -⟩ := app_some tPexs 27 I.row (by omega) ⟨b, off, none⟩ k c (by omega) (pexCells ((List.range k).map F)) (by rw [pexCells_len, hlen]) (fun j u hj => by
   have hjl : j < k * 7 := by
    have := (List.getElem?_eq_some_iff.1 hj).1
    rw [pexCells_len, hlen] at this
    exact this
   have hd : j / 7 < k := by omega
   obtain ⟨-, b', off', e1, hb', hc, -⟩ := hF (j / 7) hd
   injection e1 with e1
   injection e1 with e1 e2
   subst e1 e2
   have hat := pexCells_at (l := (List.range k).map F) (i := j / 7) (g := F (j / 7)) (by rw [List.getElem?_map, List.getElem?_range hd]; rfl) (j % 7) (by omega)
   rw [show j / 7 * 7 + j % 7 = j by omega, hj] at hat
   obtain ⟨c0, c1, c2, c3, c4, c5, c6⟩ := hc.below hb' I.old
   have hadd : (⟨b, off, none⟩ : Addr).add j = ⟨b, off + j / 7 * 7 + j % 7, none⟩ := by
    have : off + j = off + j / 7 * 7 + j % 7 := by omega
    unfold Addr.add; split <;> simp_all
   rw [hadd]
   rcases (show j % 7 = 0 ∨ j % 7 = 1 ∨ j % 7 = 2 ∨ j % 7 = 3 ∨ j % 7 = 4 ∨ j % 7 = 5 ∨ j % 7 = 6 by omega) with q | q | q | q | q | q | q <;> rw [q] at hat ⊢ <;> rw [hat]
   ·exact c0
   ·exact c1
   ·exact c2
   ·exact c3
   ·exact c4
   ·exact c5
   ·exact c6) pexCells_one (by unfold maxLen; omega) (by omega)
  obtain ⟨g1, g2⟩ := I.grown rfl hg
  refine ⟨An, cn, w3, (List.range k).map F, hrun, ⟨g1, g2, by rw [pexCells_append]; exact hown, by rw [List.length_append, I.len, hlen], fun g hgm => ?_⟩, ?_⟩
  ·rcases List.mem_append.1 hgm with h | h
   ·exact I.is_ g h
   ·obtain ⟨j, hj, rfl⟩ := List.mem_map.1 h
    obtain ⟨-, -, -, -, -, -, hi⟩ := hF j (List.mem_range.1 hj)
    exact hi
  ·apply List.ext_getElem?
   intro j
   rw [List.getElem?_map]
   by_cases hj : j < k
   ·rw [List.getElem?_map, List.getElem?_range hj]
    exact (hF j hj).1.symm
   ·rw [List.getElem?_eq_none (by rw [hlen]; omega), List.getElem?_eq_none (by rw [hw.len]; omega)]
    rfl
theorem AlI.exs (I : AlI x l w wr m A co gs) : PExsAt wr A m (gs.map (·.1)) :=
 ⟨by rw [List.length_map, I.len], fun j e hj => by
  rw [List.getElem?_map] at hj
  obtain ⟨g, hg, rfl⟩ := Option.map_eq_some_iff.1 hj
  have k := fun i hi => pexCells_at hg i hi
  obtain ⟨b, e0, hb, -, c0, -⟩ := own_at I.row (k 0 (by omega))
  have at_ : ∀ (i : Nat) (u : Value), i < 7 → (pexCells [g])[i]? = some u → wr.cell? ⟨b, 0 + j * 7 + i, none⟩ = some u := fun i u hi hu => by
   obtain ⟨b', e1, -, -, c1, -⟩ := own_at I.row ((k i hi).trans hu)
   rw [e0] at e1
   injection e1 with e1
   injection e1 with e1
   subst e1
   rw [Nat.zero_add]
   exact c1
  exact ⟨b, 0, g.2.1, g.2.2.1, g.2.2.2, e0, hb, ⟨at_ 0 _ (by omega) rfl, at_ 1 _ (by omega) rfl, at_ 2 _ (by omega) rfl, at_ 3 _ (by omega) rfl, at_ 4 _ (by omega) rfl, at_ 5 _ (by omega) rfl, at_ 6 _ (by omega) rfl⟩, (I.is_ g (List.mem_of_getElem? hg)).bel I.old⟩⟩
end

def AllPost44 (x : St) (l : StL) (w : World) (e : Ending) (w' : World) : Prop := ∃ (A : Option Addr) (c : Nat), e = .returned (.slice A (l.ni + l.nw + l.no) c) ∧ Hid (PExsAt w' A (l.ni + l.nw + l.no) x.all) ∧ Hid (Below w.heap.size w w')
set_option maxRecDepth 100000 in
set_option maxHeartbeats 16000000 in
theorem all44 (w : World) (x : St) (l : StL) (hx : StAt w x l) : Calls Tryz.prog 44 #[.agg (stCells x l)] w (AllPost44 x l w) := by
 obtain ⟨kd, tb, its, wh, grp, ord, lim⟩ := x
 obtain ⟨ia, ni, ci, wa, nw, cw, ga, ng, cg, oa, no, co⟩ := l
 obtain ⟨w1, hw1⟩ : ∃ z, z = w.alloc (.cells #[.int .i64 kd, .string tb, .slice ia ni ci, .slice wa nw cw, .slice ga ng cg, .slice oa no co, .int .i64 lim] 58) := ⟨_, rfl⟩
 have I0 := Lib.hid (show AlI ⟨kd, tb, its, wh, grp, ord, lim⟩ ⟨ia, ni, ci, wa, nw, cw, ga, ng, cg, oa, no, co⟩ w w1 0 none 0 [] by
  rw [hw1]
  exact ⟨below_alloc _ _, Blk.new w 58 _, World.ownsRow_nil _ _ _ _, rfl, fun g hg => by cases hg⟩)
 have HI := Lib.hid hx.items
 have HW := Lib.hid hx.where_
 have HO := Lib.hid hx.order
 have n1 := hx.ni
 have n2 := hx.nw
 have n3 := hx.no
 simp only at HI HW HO n1 n2 n3
 clear hx
 go_enter Tryz.func44, Tryz.ntmps44
 go_upto_region 1 with fail
 rw [← hw1]
 clear hw1
 go_wp2_with fail
 go_loopg [3, 4] ni (fun kx s3 s4 wr => ∃ (i : Nat) (A : Option Addr) (c : Nat) (gs : List PGiven), s3 = .slice A i c ∧ s4 = .int .i64 i ∧ kx + i = ni ∧ Hid (AlI ⟨kd, tb, its, wh, grp, ord, lim⟩ ⟨ia, ni, ci, wa, nw, cw, ga, ng, cg, oa, no, co⟩ w wr i A c gs) ∧ Hid (gs.map (·.1) = (its.map (·.1)).take i))
 case atStart => exact ⟨0, none, 0, [], rfl, rfl, rfl, I0, Lib.hid rfl⟩
 case round =>
  obtain ⟨i, A, c, gs, rfl, rfl, hki, I, HG⟩ := hrel
  have hi9 : (i : Int) ≤ 1048576 := by omega
  have hi0 : (0 : Int) ≤ (i : Int) := by omega
  have x2 := I.out.xb.cell 2
  have hlx := I.out.xb.lt
  by_cases hi : i < ni
  ·have hiz : (i : Int) < (ni : Int) := by omega
   obtain ⟨a, ha⟩ : ∃ a, its[i]? = some a := ⟨_, List.getElem?_eq_getElem (by rw [HI.out.len]; exact hi)⟩
   obtain ⟨b, off, Ae, ne, ce, rfl, hb, hc, hai, -⟩ := HI.out.at_ i a ha
   obtain ⟨a0, a1, a2, a3, a4, a5, a6⟩ := hc.below hb I.out.old
   have hbr := Nat.lt_of_lt_of_le hb I.out.old.size
   obtain ⟨An, cn, w3, hr, I3⟩ := I.out.push (by omega) hai
   have HR := Lib.hid hr
   have I3 := Lib.hid I3
   have NG := Lib.hid (show (gs ++ [(a.1, Ae, ne, ce)]).map (·.1) = (its.map (·.1)).take (i + 1) by
    rw [List.map_append, HG.out, List.take_add_one, List.getElem?_map, ha]; rfl)
   clear ha hc hai hr
   go_wp2_with (at_builtin; (refine wpList_append_runI _ rfl _ _ 27 27 rfl (.slice A i c) (.slice (some ⟨wr.heap.size, 0, none⟩) 1 1) rfl rfl HR.out ?_))
   go_roundg (gk - 1)
   case measure => omega
   case rel => exact ⟨i + 1, An, cn, _, rfl, by first | rfl | (simp; done), by omega, I3, NG⟩
  ·have hiz : ¬ (i : Int) < (ni : Int) := by omega
   obtain rfl : ni = i := by omega
   have x3 := I.out.xb.cell 3
   obtain ⟨An, cn, w3, gs', hr, I3, hgs⟩ := I.out.pushM (by omega) HW.out cw
   have HR := Lib.hid hr
   have I3 := Lib.hid I3
   have NG := Lib.hid (show (gs ++ gs').map (·.1) = its.map (·.1) ++ wh by
    rw [List.map_append, HG.out, hgs, List.take_of_length_le (by rw [List.length_map, HI.out.len]; exact Nat.le_refl _)])
   clear hr hgs
   go_wp2_with (at_builtin; (refine wpList_append_runI _ rfl _ _ 27 27 rfl (.slice A ni c) (.slice wa nw cw) rfl rfl HR.out ?_))
   clear x2 x3 hlx hiz hi hki hi9 hi0
   go_loopg [3, 5] no (fun kx s3 s5 wr => ∃ (i : Nat) (A : Option Addr) (c : Nat) (gs : List PGiven), s3 = .slice A (ni + nw + i) c ∧ s5 = .int .i64 i ∧ kx + i = no ∧ Hid (AlI ⟨kd, tb, its, wh, grp, ord, lim⟩ ⟨ia, ni, ci, wa, nw, cw, ga, ng, cg, oa, no, co⟩ w wr (ni + nw + i) A c gs) ∧ Hid (gs.map (·.1) = its.map (·.1) ++ wh ++ (ord.map (·.1)).take i))
   case atStart => exact ⟨0, An, cn, _, rfl, rfl, rfl, I3, Lib.hid (by rw [NG.out]; simp)⟩
   case round =>
    obtain ⟨i, A, c, gs, rfl, rfl, hki, I, HG⟩ := hrel
    have hi9 : (i : Int) ≤ 1048576 := by omega
    have hi0 : (0 : Int) ≤ (i : Int) := by omega
    have x5 := I.out.xb.cell 5
    have hlx := I.out.xb.lt
    by_cases hi : i < no
    ·have hiz : (i : Int) < (no : Int) := by omega
     obtain ⟨a, ha⟩ : ∃ a, ord[i]? = some a := ⟨_, List.getElem?_eq_getElem (by rw [HO.out.len]; exact hi)⟩
     obtain ⟨b, off, Ae, ne, ce, rfl, hb, hc, hai, -⟩ := HO.out.at_ i a ha
     obtain ⟨a0, a1, a2, a3, a4, a5, a6⟩ := hc.below hb I.out.old
     have hbr := Nat.lt_of_lt_of_le hb I.out.old.size
     obtain ⟨An, cn, w3, hr, I3⟩ := I.out.push (by omega) hai
     have HR := Lib.hid hr
     have I3 := Lib.hid I3
     have NG := Lib.hid (show (gs ++ [(a.1, Ae, ne, ce)]).map (·.1) = its.map (·.1) ++ wh ++ (ord.map (·.1)).take (i + 1) by
      rw [List.map_append, HG.out, List.take_add_one, List.getElem?_map, ha]; simp)
     clear ha hc hai hr
     obtain ⟨mm, hmm⟩ : ∃ q, q = ni + nw + i := ⟨_, rfl⟩
     rw [← hmm] at HR I3 ⊢
     go_wp2_with (at_builtin; (refine wpList_append_runI _ rfl _ _ 27 27 rfl (.slice A mm c) (.slice (some ⟨wr.heap.size, 0, none⟩) 1 1) rfl rfl HR.out ?_))
     go_roundg (gk - 1)
     case measure => omega
     case rel => exact ⟨i + 1, An, cn, _, by first | rfl | (rw [hmm]; rfl), by first | rfl | (simp; done), by omega, Lib.hid (by have := I3.out; rw [hmm] at this; exact this), NG⟩
    ·have hiz : ¬ (i : Int) < (no : Int) := by omega
     obtain rfl : no = i := by omega
     have FE := Lib.hid (show PExsAt wr A (ni + nw + no) (St.all ⟨kd, tb, its, wh, grp, ord, lim⟩) by
      have := I.out.exs
      rw [HG.out, List.take_of_length_le (by rw [List.length_map, HO.out.len]; exact Nat.le_refl _)] at this
      exact this)
     go_wp2_with fail
     go_ret
     exact ⟨A, c, rfl, FE, Lib.hid I.out.old⟩

end Go.Proofs.YtbcmmecilheicaaGreatDoor

/- small: has a statement few parts? -/
namespace Go.Proofs.YtbcmmecilheicaaGreatDoor
open Go Go.RowKit

def SmallPost (l : StL) (w : World) (e : Ending) (w' : World) : Prop := ∃ b : Bool, e = .returned (.bool b) ∧ Hid (b = true → l.ni + l.nw + l.no ≤ 51) ∧ Hid (Below w.heap.size w w')
set_option maxRecDepth 100000 in
set_option maxHeartbeats 8000000 in
theorem small15 (w : World) (x : St) (l : StL) (hx : StAt w x l) : Calls Tryz.prog 15 #[.agg (stCells x l)] w (SmallPost l w) := by
 have CA := Lib.hid (all44 (w.alloc (.cells (stCells x l) 58)) x l (hx.below (below_alloc _ _)))
 have n1 := hx.ni
 have n2 := hx.nw
 have n3 := hx.no
 obtain ⟨kd, tb, its, wh, grp, ord, lim⟩ := x
 obtain ⟨ia, ni, ci, wa, nw, cw, ga, ng, cg, oa, no, co⟩ := l
 simp only at n1 n2 n3
 clear hx
 go_enter Tryz.func15, Tryz.ntmps15
 go_wp2_with fail
 refine CA.out.mono ?_
 clear CA
 rintro e w2 ⟨A, c, rfl, hl, hb2⟩
 have B2 := Lib.hid (show Below w.heap.size w w2 from bt hb2.out (below_alloc _ _))
 clear hb2
 simp only at hl ⊢
 obtain ⟨m, hm⟩ : ∃ q, q = ni + nw + no := ⟨_, rfl⟩
 rw [← hm] at hl ⊢
 have hm9 : m ≤ 4000000 := by omega
 have HM := Lib.hid hm
 clear hm n1 n2 n3
 go_wp2_with fail
 go_loopg [4] m (fun kx s4 wr => ∃ i : Nat, s4 = .int .i64 i ∧ kx + i = m ∧ i ≤ 51 ∧ Hid (Below w2.heap.size w2 wr))
 case atStart => exact ⟨0, rfl, by omega, by omega, Lib.hid (Below.refl _ _)⟩
 case round =>
  obtain ⟨i, rfl, hki, hi51, HW⟩ := hrel
  have hi9 : (i : Int) ≤ 51 := by omega
  have hi0 : (0 : Int) ≤ (i : Int) := by omega
  by_cases hi : i < m
  ·have hiz : (i : Int) < (m : Int) := by omega
   by_cases h50 : 50 < i
   ·have hz : (50 : Int) < (i : Int) := by omega
    go_wp2_with fail
    go_ret
    exact ⟨false, rfl, Lib.hid (fun h => by cases h), Lib.hid (bt HW.out B2.out)⟩
   ·have hz : ¬ (50 : Int) < (i : Int) := by omega
    obtain ⟨a, ha⟩ : ∃ a, (St.all ⟨kd, tb, its, wh, grp, ord, lim⟩)[i]? = some a := ⟨_, List.getElem?_eq_getElem (by rw [hl.out.len]; exact hi)⟩
    obtain ⟨b, off, Ae, ne, ce, rfl, hb, ⟨a0, a1, a2, a3, a4, a5, a6⟩, hai⟩ := (hl.out.below HW.out).at_ i a ha
    have CP := Lib.hid (parts45 hai wr 0 500 (Below.refl _ _))
    clear ha hai
    go_wp2_with fail
    refine CP.out.mono ?_
    clear CP a0 a1 a2 a3 a4 a5 a6
    rintro e w3 ⟨k, rfl, hb3⟩
    have B3 := Lib.hid (bt hb3.out HW.out)
    by_cases hk : 500 ≤ k
    ·go_wp2_with fail
     go_ret
     exact ⟨false, rfl, Lib.hid (fun h => by cases h), Lib.hid (bt B3.out B2.out)⟩
    ·go_wp2_with fail
     go_roundg (gk - 1)
     case measure => omega
     case rel => exact ⟨i + 1, by first | rfl | (simp; done), by omega, by omega, B3⟩
  ·have hiz : ¬ (i : Int) < (m : Int) := by omega
   have hm51 : m ≤ 51 := by omega
   go_wp2_with fail
   go_ret
   exact ⟨true, rfl, Lib.hid (fun _ => by show ni + nw + no ≤ 51; rw [← HM.out]; exact hm51), Lib.hid (bt HW.out B2.out)⟩

end Go.Proofs.YtbcmmecilheicaaGreatDoor
