/- law 23's query: a query as the program's: printed by mkq18.py. -/
import Derived.Test.YtbcmmecilheicaaGreatDoorGvA
import Derived.Test.YtbcmmecilheicaaGreatDoorSnA
import Derived.Test.YtbcmmecilheicaaGreatDoorOqB
import Derived.Deep.RegionLaw
import Derived.Deep.RegionHeld3
namespace Go.Proofs.YtbcmmecilheicaaGreatDoor
open Go Go.RowKit

theorem tSorts72 : SlT Tryz.prog 72 137 9 104 (.agg #[.string ⟨#[]⟩, .int .i64 0, .int .i64 0, .int .i64 0, .int .i64 0, .string ⟨#[]⟩, .bool false, .slice none 0 0, .bool false]) := ⟨Tryz.underlying72, info_of (by kernel_rfl), rfl, by decide⟩
/-- a query that exec may be asked -/
structure QuOut (W : World) (S : Nat → Prop) (q : Qu) (l : QL) : Prop where
 its : ExsIn W S l.IA l.n1 q.its
 wh : ExsIn W S l.WA l.wn q.wh
 gr : CellsIn W S l.GA l.gn (q.gr.map (Value.int .i64))
 ords : OrdsIn W S l.OA l.n2 q.ords
 n1 : l.n1 ≤ 1048576
 wn : l.wn ≤ 1048576
 gn : l.gn ≤ 1048576
 n2 : l.n2 ≤ 1048576
def Q18Post (tb : ByteArray) (lim : Int) (ag : Bool) (q : Qu) (w : World) (e : Ending) (w' : World) : Prop := ∃ l : QL, e = .returned (.agg (qCells tb l lim ag)) ∧ Hid (QuOut w' (fun b => w.heap.size ≤ b) q l) ∧ Hid (Below w.heap.size w w')

/-- orders given so far -/
structure L5 (p : Nat) (ws wr : World) (tb : ByteArray) (c1 c2 c3 c4 : Value) (lim : Int) (ag : Bool) (ords : List (Ex × Bool)) (gs : List OGiven) (OA : Option Addr) (u : Nat) : Prop where
 old : Bx p ws wr
 ps : p < ws.heap.size
 qb : Blk wr p 74 #[.string tb, c1, c2, c3, c4, .slice OA gs.length u, .int .i64 lim, .bool ag]
 oO : wr.ownsRow ws.heap.size 137 9 (.slice OA gs.length u) gs.length (ordCells gs)
 is : (gs.map fun g => (g.1.1, g.2)) = ords.take gs.length
 kids : ∀ g ∈ gs, ExIn wr (fun b => ws.heap.size ≤ b ∧ some b ≠ (Value.slice OA gs.length u).ownBlock) g.1.1 g.1.2.1 g.1.2.2.1 g.1.2.2.2
section
variable {p : Nat} {ws wr : World} {tb : ByteArray} {c1 c2 c3 c4 : Value} {lim : Int} {ag : Bool} {ords : List (Ex × Bool)} {gs : List OGiven} {OA : Option Addr} {u : Nat}
theorem L5.below (I : L5 p ws wr tb c1 c2 c3 c4 lim ag ords gs OA u) {wx : World} (h : Below wr.heap.size wr wx) : L5 p ws wx tb c1 c2 c3 c4 lim ag ords gs OA u :=
 ⟨I.old.trans (.of h), I.ps, I.qb.below h, own_below I.oO h, I.is, fun g hg => (I.kids g hg).keep (fun b _ hl => h.block b hl) (fun _ hb _ => hb) h.size⟩
theorem L5.push (I : L5 p ws wr tb c1 c2 c3 c4 lim ag ords gs OA u) (hm : gs.length + 1 ≤ 1048577) {e : Ex × Bool} (hoe : ords[gs.length]? = some e) {Ae : Option Addr} {ne ce : Nat} (he : ExIn wr (fun b => ws.heap.size ≤ b ∧ some b ≠ (Value.slice OA gs.length u).ownBlock) e.1 Ae ne ce) {wd : World} (hd : Below wr.heap.size wr wd) (z : Blk wd wr.heap.size 137 #[.string e.1.op, .int .i64 e.1.kind, .int .i64 e.1.col, .int .i64 e.1.val.kind, .int .i64 e.1.val.int, .string e.1.val.text, .bool e.1.val.bool, .slice Ae ne ce, .bool e.2]) :
  ∃ An cn w4, (Builtin.append_ #[72, 72] 72 #[.slice OA gs.length u, .slice (some ⟨wr.heap.size, 0, none⟩) 1 1]).run Tryz.prog wd = .ok (.slice An (gs.length + 1) cn) w4 ∧
   w4.cell? ⟨p, 5, none⟩ = some (.slice OA gs.length u) ∧ w4.frozen? ⟨p, 5, none⟩ = false ∧ p < w4.heap.size ∧ (∀ b, b < wd.heap.size → some b ≠ (Value.slice OA gs.length u).ownBlock → w4.heap[b]? = wd.heap[b]?) ∧ L5 p ws (w4.setCell ⟨p, 5, none⟩ (.slice An (gs.length + 1) cn)) tb c1 c2 c3 c4 lim ag ords (gs ++ [((e.1, Ae, ne, ce), e.2)]) An cn := by
 have hp := I.ps
 have hs0 := I.old.size
 have Id := I.below hd
 obtain ⟨An, cn, w4, hrun, hown, hg, hnew⟩ := app_some tSorts72 72 Id.oO (by have := hd.size; omega) ⟨wr.heap.size, 0, none⟩ 1 1 (by omega) (ordCells [((e.1, Ae, ne, ce), e.2)]) (ordCells_len _) (fun j u hj => by
  rw [add_lit0, z.cell j]
  simpa [ordCells] using hj) ordCells_one (by unfold maxLen; omega) (by omega)
 have own_lt : ∀ k, (Value.slice OA gs.length u).ownBlock = some k → ws.heap.size ≤ k ∧ k < wr.heap.size := I.oO.lt
 have hs4 := hg.size
 have hsd := hd.size
 have keep : ∀ b, b < wd.heap.size → some b ≠ (Value.slice OA gs.length u).ownBlock → w4.heap[b]? = wd.heap[b]? := fun b hb hne => hg.block b hb hne
 have pne : some p ≠ (Value.slice OA gs.length u).ownBlock := fun e => by have := (own_lt p e.symm).1; omega
 have q4 : Blk w4 p 74 #[.string tb, c1, c2, c3, c4, .slice OA gs.length u, .int .i64 lim, .bool ag] := (keep p (by omega) pne).trans Id.qb
 have far : ∀ b, b ≠ p → (w4.setCell ⟨p, 5, none⟩ (.slice An (gs.length + 1) cn)).heap[b]? = w4.heap[b]? := fun b hb => Below.heap_setCell _ _ _ _ hb
 have newne : ∀ b, b < wd.heap.size → some b ≠ (Value.slice OA gs.length u).ownBlock → some b ≠ (Value.slice An (gs.length + 1) cn).ownBlock := fun b hb hne e => by
  rcases hnew with hn | hn
  ·exact hne (e.trans hn)
  ·rw [hn] at e; injection e with e; omega
 have hl : (gs ++ [((e.1, Ae, ne, ce), e.2)]).length = gs.length + 1 := by simp
 refine ⟨An, cn, w4, hrun, q4.cell 5, q4.frozen 5, q4.lt, keep, (Id.old.grown (fun k hk => (own_lt k hk).1) hg).trans (.set _ _ _ _), hp, by rw [hl]; exact q4.set_ 5 _, ?_, ?_, ?_⟩
 ·rw [hl, ordCells_append]
  exact own_keepB hown (fun k hk => far k (by have := (hown.lt k hk).1; omega))
 ·rw [hl, List.map_append, I.is, List.take_add_one, hoe]; rfl
 ·rw [hl]
  have fin : ∀ {x A n c}, ExIn wd (fun b => ws.heap.size ≤ b ∧ some b ≠ (Value.slice OA gs.length u).ownBlock) x A n c → ExIn (w4.setCell ⟨p, 5, none⟩ (.slice An (gs.length + 1) cn)) (fun b => ws.heap.size ≤ b ∧ some b ≠ (Value.slice An (gs.length + 1) cn).ownBlock) x A n c := fun hx =>
   hx.keep (fun b hb hlt => (far b (by omega)).trans (keep b hlt hb.2)) (fun b hb hlt => ⟨hb.1, newne b hlt hb.2⟩) (by simp [World.setCell]; omega)
  intro g hgm
  rcases List.mem_append.1 hgm with h | h
  ·exact fin (Id.kids g h)
  ·obtain rfl : g = ((e.1, Ae, ne, ce), e.2) := by simpa using h
   exact fin (he.keep (fun b _ hl => hd.block b hl) (fun _ hb _ => hb) hd.size)
end
theorem results_q {fn : Func} {s : Nat} (h : fn.results = #[.cell s 74]) {tmps : Array Value} {W : World} {b : Nat} {c0 c1 c2 c3 c4 c5 c6 c7 : Value} (hs : tmps[s]? = some (.pointer (some ⟨b, 0, none⟩))) (z : Blk W b 74 #[c0, c1, c2, c3, c4, c5, c6, c7]) :
  (results fn tmps).run Tryz.prog W = .ok (.agg #[c0, c1, c2, c3, c4, c5, c6, c7]) W := by
 have q0 := z.cell 0
 have q1 := z.cell 1
 have q2 := z.cell 2
 have q3 := z.cell 3
 have q4 := z.cell 4
 have q5 := z.cell 5
 have q6 := z.cell 6
 have q7 := z.cell 7
 simp [results, h, hs, go_sem, q0, q1, q2, q3, q4, q5, q6, q7]

theorem q18_w {w1 w4 w5 wx : World} {p : Nat} {S4 S5 : Nat → Prop} {A4 A5 : Option Addr} {n1 wn : Nat} {its wh : List Ex} (hI4 : ExsIn w4 S4 A4 n1 its) (hI5 : ExsIn w5 S5 A5 wn wh) (b45 : Below w4.heap.size w4 w5) (hw : ∀ b, b < w5.heap.size → b ≠ p → wx.heap[b]? = w5.heap[b]?) (hs : w5.heap.size ≤ wx.heap.size) (h4 : ∀ b, S4 b → b < w4.heap.size → w1.heap.size ≤ b ∧ b ≠ p) (h5 : ∀ b, S5 b → b < w5.heap.size → w1.heap.size ≤ b ∧ b ≠ p) :
  ExsIn wx (fun b => w1.heap.size ≤ b ∧ b ≠ p) A4 n1 its ∧ ExsIn wx (fun b => w1.heap.size ≤ b ∧ b ≠ p) A5 wn wh :=
 ⟨hI4.keep (fun b hb hl => (hw b (Nat.lt_of_lt_of_le hl b45.size) (h4 b hb hl).2).trans (b45.block b hl)) h4 (Nat.le_trans b45.size hs), hI5.keep (fun b hb hl => hw b hl (h5 b hb hl).2) h5 hs⟩
theorem QuOut.keep {W W' : World} {S S' : Nat → Prop} (hW : ∀ b, S b → b < W.heap.size → W'.heap[b]? = W.heap[b]?) (hS : ∀ b, S b → b < W.heap.size → S' b) (hs : W.heap.size ≤ W'.heap.size) {q : Qu} {l : QL} (h : QuOut W S q l) : QuOut W' S' q l :=
 ⟨h.its.keep hW hS hs, h.wh.keep hW hS hs, h.gr.keep hW hS hs, h.ords.keep hW hS hs, h.n1, h.wn, h.gn, h.n2⟩
theorem q18_fin {w W : World} {tb : ByteArray} {l : QL} {lim : Int} {ag : Bool} {q : Qu} (hq : QuOut W (fun b => w.heap.size + 2 ≤ b) q l) (hb : Below w.heap.size w W) (d0 d1 d2 d3 d4 d5 d6 d7 : Value) :
  Q18Post tb lim ag q w (.returned (.agg (qCells tb l lim ag))) ((((((((W.setCell ⟨w.heap.size + 1, 0, none⟩ d0).setCell ⟨w.heap.size + 1, 1, none⟩ d1).setCell ⟨w.heap.size + 1, 2, none⟩ d2).setCell ⟨w.heap.size + 1, 3, none⟩ d3).setCell ⟨w.heap.size + 1, 4, none⟩ d4).setCell ⟨w.heap.size + 1, 5, none⟩ d5).setCell ⟨w.heap.size + 1, 6, none⟩ d6).setCell ⟨w.heap.size + 1, 7, none⟩ d7) :=
 ⟨l, rfl, Lib.hid (hq.keep (fun b hb _ => ex_far (by omega) _ _ _ _ _ _ _ _) (fun b hb _ => by omega) (by simp [World.setCell])), Lib.hid (by have hs := hb.size; go_grown)⟩

set_option maxRecDepth 100000 in
set_option maxHeartbeats 16000000 in
theorem query18 (w : World) (tb : ByteArray) (lim : Int) (ag : Bool) (q : Qu) (l : QL) {S : Nat → Prop} (hq : QuIn w S q l) : Calls Tryz.prog 18 #[.agg (qCells tb l lim ag)] w (Q18Post tb lim ag q w) := by
 have HQ := Lib.hid hq
 obtain ⟨T1, t1, cT, IA, n1, cI, WA, wn, wc, GA, gn, gc, OA, n2, cO⟩ := l
 obtain ⟨ti, its, wh, gr, ords⟩ := q
 clear hq
 show Calls Tryz.prog 18 #[.agg #[.string tb, .slice T1 t1 cT, .slice IA n1 cI, .slice WA wn wc, .slice GA gn gc, .slice OA n2 cO, .int .i64 lim, .bool ag]] w _
 obtain ⟨w1, hw1⟩ : ∃ z, z = (w.alloc (.cells #[.string tb, .slice T1 t1 cT, .slice IA n1 cI, .slice WA wn wc, .slice GA gn gc, .slice OA n2 cO, .int .i64 lim, .bool ag] 68)).alloc (.cells #[.string ⟨#[]⟩, .slice none 0 0, .slice none 0 0, .slice none 0 0, .slice none 0 0, .slice none 0 0, .int .i64 0, .bool false] 74) := ⟨_, rfl⟩
 have B1 := Lib.hid (show Below w.heap.size w w1 by rw [hw1]; exact bt (below_alloc _ _) (below_alloc _ _))
 have Z1 := Lib.hid (show Blk w1 w.heap.size 68 #[.string tb, .slice T1 t1 cT, .slice IA n1 cI, .slice WA wn wc, .slice GA gn gc, .slice OA n2 cO, .int .i64 lim, .bool ag] by rw [hw1]; exact (Blk.new w 68 _).alloc _)
 have ZR := Lib.hid (show Blk w1 (w.heap.size + 1) 74 #[.string ⟨#[]⟩, .slice none 0 0, .slice none 0 0, .slice none 0 0, .slice none 0 0, .slice none 0 0, .int .i64 0, .bool false] by rw [hw1]; exact blk_new' (w := w.alloc _) rfl (by simp))
 have hn1 : n1 ≤ 1048576 := HQ.out.n1
 have hwn : wn ≤ 1048576 := HQ.out.wn
 have hn2 : n2 ≤ 1048576 := HQ.out.n2
 have ht1 : t1 ≤ 1048576 := HQ.out.t1
 have hgn : gn ≤ 1048576 := HQ.out.gn
 have CI := Lib.hid (fun (W : World) (h : Below w1.heap.size w1 W) => gives53 W IA n1 cI its ((HQ.out.its.is.below B1.out).below h) (by unfold TB; omega))
 have CW := Lib.hid (fun (W : World) (h : Below w1.heap.size w1 W) => gives53 W WA wn wc wh ((HQ.out.wh.is.below B1.out).below h) (by unfold TB; omega))
 go_enter Tryz.func18, Tryz.ntmps18
 go_upto_region 1 with fail
 rw [← hw1]
 clear hw1
 go_cut [3] from 5 to 18 (fun s3 wx => ∃ (p : Nat) (IA' : Option Addr) (ic : Nat) (WA' : Option Addr) (wc' : Nat), s3 = .pointer (some ⟨p, 0, none⟩) ∧ Hid (w1.heap.size ≤ p ∧ Below w1.heap.size w1 wx ∧ Blk wx p 74 #[.string tb, .slice none 0 0, .slice IA' n1 ic, .slice WA' wn wc', .slice none 0 0, .slice none 0 0, .int .i64 lim, .bool ag] ∧ ExsIn wx (fun b => w1.heap.size ≤ b ∧ b ≠ p) IA' n1 its ∧ ExsIn wx (fun b => w1.heap.size ≤ b ∧ b ≠ p) WA' wn wh))
 case first =>
  have K1 := Lib.hid (fun (W : World) (h : Below w1.heap.size w1 W) => show W.cell? ⟨w.heap.size, 0, none⟩ = some (.string tb) ∧ W.cell? ⟨w.heap.size, 2, none⟩ = some (.slice IA n1 cI) ∧ W.cell? ⟨w.heap.size, 3, none⟩ = some (.slice WA wn wc) ∧ W.cell? ⟨w.heap.size, 6, none⟩ = some (.int .i64 lim) ∧ W.cell? ⟨w.heap.size, 7, none⟩ = some (.bool ag) from
   ⟨(Z1.out.below h).cell 0, (Z1.out.below h).cell 2, (Z1.out.below h).cell 3, (Z1.out.below h).cell 6, (Z1.out.below h).cell 7⟩)
  obtain ⟨c0, c2, c3, c6, c7⟩ := K1.out w1.drew (below_drew w1)
  have hs1 := Z1.out.lt
  go_region_held3 (fun w' : World => w'.cell? ⟨w.heap.size, 0, none⟩ = some (.string tb) ∧ w'.cell? ⟨w.heap.size, 2, none⟩ = some (.slice IA n1 cI) ∧ w'.cell? ⟨w.heap.size, 3, none⟩ = some (.slice WA wn wc) ∧ w'.cell? ⟨w.heap.size, 6, none⟩ = some (.int .i64 lim) ∧ w'.cell? ⟨w.heap.size, 7, none⟩ = some (.bool ag))
   ((refine K1.out _ ?_; go_grown))
   (first
    | (go_at_call 53; with_reducible refine (CI.out _ ?_).mono ?_; · go_grown
       rintro e w4 ⟨A4, c4, rfl, hI4, h4⟩; have hb4 := bt h4.out (show Below w1.heap.size w1 _ by go_grown); have hs4 := hb4.size; try ((first | with_reducible have zz := one_al h4.out | with_reducible have zz := one_ald h4.out); have z4 := Lib.hid (show Blk w4 w1.heap.size 74 #[.string ⟨#[]⟩, .slice none 0 0, .slice none 0 0, .slice none 0 0, .slice none 0 0, .slice none 0 0, .int .i64 0, .bool false] from zz); clear zz))
    | (go_at_call 53; with_reducible refine (CW.out _ ?_).mono ?_; · go_grown
       rintro e w5 ⟨A5, c5, rfl, hI5, h5⟩; have hb5 := bt h5.out (show Below w1.heap.size w1 _ by go_grown); have hs5 := hb5.size; try ((first | have z5 := Lib.hid (z4.out.below h5.out) | (with_reducible have zz := one_al h5.out; have z5 := Lib.hid (show Blk w5 w4.heap.size 74 #[.string ⟨#[]⟩, .slice none 0 0, .slice none 0 0, .slice none 0 0, .slice none 0 0, .slice none 0 0, .int .i64 0, .bool false] from zz); clear zz) | (with_reducible have zz := one_ald h5.out; have z5 := Lib.hid (show Blk w5 w4.heap.size 74 #[.string ⟨#[]⟩, .slice none 0 0, .slice none 0 0, .slice none 0 0, .slice none 0 0, .slice none 0 0, .int .i64 0, .bool false] from zz); clear zz)); have q0 := z5.out.cell 0; have q1 := z5.out.cell 1; have q2 := z5.out.cell 2; have q3 := z5.out.cell 3; have q4 := z5.out.cell 4; have q5 := z5.out.cell 5; have q6 := z5.out.cell 6; have q7 := z5.out.cell 7; have hfz := fun o => z5.out.frozen o; have hzl := z5.out.lt)))
  ·go_wp2_with fail
   go_meet
   case rel =>
    obtain ⟨k1, k2⟩ := q18_w (w1 := w1) (p := w5.heap.size) hI4.out hI5.out h5.out (wx := w5.alloc (.cells #[.string tb, .slice none 0 0, .slice A4 n1 c4, .slice A5 wn c5, .slice none 0 0, .slice none 0 0, .int .i64 lim, .bool ag] 74)) (fun b hb _ => (below_alloc w5 _).block b hb) (by simp) (fun b hb hl => ⟨hb, by have := h5.out.size; omega⟩) (fun b hb hl => ⟨by omega, by omega⟩)
    exact ⟨w5.heap.size, A4, c4, A5, c5, rfl, Lib.hid ⟨hb5.size, bt (below_alloc _ _) hb5, Blk.new w5 74 _, k1, k2⟩⟩
  ·have z6 := ex_set z5.out (.string tb) (.slice none 0 0) (.slice A4 n1 c4) (.slice A5 wn c5) (.slice none 0 0) (.slice none 0 0) (.int .i64 lim) (.bool ag)
   have Z6 := Lib.hid z6
   clear z6
   go_wp2_with fail
   go_meet
   case rel =>
    obtain ⟨k1, k2⟩ := q18_w (w1 := w1) (p := w4.heap.size) hI4.out hI5.out (bt h5.out (below_alloc _ _)) (fun b _ hp => ex_far hp (.string tb) (.slice none 0 0) (.slice A4 n1 c4) (.slice A5 wn c5) (.slice none 0 0) (.slice none 0 0) (.int .i64 lim) (.bool ag)) (by simp [World.setCell]) (fun b hb hl => ⟨hb, by omega⟩) (fun b hb hl => by simp at hb; exact ⟨by omega, by omega⟩)
    exact ⟨w4.heap.size, A4, c4, A5, c5, rfl, Lib.hid ⟨hb4.size, by go_grown, Z6.out, k1, k2⟩⟩
  ·have z6 := ex_set z5.out (.string tb) (.slice none 0 0) (.slice A4 n1 c4) (.slice A5 wn c5) (.slice none 0 0) (.slice none 0 0) (.int .i64 lim) (.bool ag)
   have Z6 := Lib.hid z6
   clear z6
   go_wp2_with fail
   go_meet
   case rel =>
    obtain ⟨k1, k2⟩ := q18_w (w1 := w1) (p := w1.heap.size) hI4.out hI5.out h5.out (fun b _ hp => ex_far hp (.string tb) (.slice none 0 0) (.slice A4 n1 c4) (.slice A5 wn c5) (.slice none 0 0) (.slice none 0 0) (.int .i64 lim) (.bool ag)) (by simp [World.setCell]) (fun b hb hl => by simp at hb; exact ⟨by omega, by omega⟩) (fun b hb hl => by have := h4.out.size; simp at this; exact ⟨by omega, by omega⟩)
    exact ⟨w1.heap.size, A4, c4, A5, c5, rfl, Lib.hid ⟨Nat.le_refl _, by go_grown, Z6.out, k1, k2⟩⟩
 case rest =>
  obtain ⟨p, IA', ic, WA', wc', rfl, H⟩ := hcut
  have hp := H.out.1
  have BX := Lib.hid H.out.2.1
  have QB := Lib.hid H.out.2.2.1
  have FI := Lib.hid H.out.2.2.2.1
  have FW := Lib.hid H.out.2.2.2.2
  clear H CI CW
  have hr2 : w.heap.size + 2 ≤ w1.heap.size := by have := ZR.out.lt; omega
  have BW := Lib.hid (bt BX.out B1.out)
  have ZX := Lib.hid (Z1.out.below BX.out)
  have ZY := Lib.hid (ZR.out.below BX.out)
  have hpc : p < wc.heap.size := QB.out.lt
  -- titles
  obtain ⟨Tn, tcn, w3, hr, -, hb⟩ := app_cells tStrs33 33 (c := cT) (HQ.out.ti.keep (fun b _ hl => BW.out.block b hl) (fun _ hb _ => hb) BW.out.size) strs_one (by show t1 ≤ 1048577; omega) (by omega)
  have HR := Lib.hid hr
  have B3 := Lib.hid hb
  clear hr hb
  have q1 := QB.out.cell 1
  have x1 := ZX.out.cell 1
  have hxl := ZX.out.lt
  have g1 := (QB.out.below B3.out).cell 1
  have g2 := (QB.out.below B3.out).frozen 1
  have g3 := (QB.out.below B3.out).lt
  go_upto_region 3 with (at_builtin; refine wpList_append_runI _ rfl _ _ 33 33 rfl (.slice none 0 0) (.slice T1 t1 cT) rfl rfl HR.out ?_)
  clear q1 x1 hxl g1 g2 g3 HR
  obtain ⟨wy, hwy⟩ : ∃ z, z = w3.setCell ⟨p, 1, none⟩ (.slice Tn t1 tcn) := ⟨_, rfl⟩
  have BY := Lib.hid (show Bx p wc wy by rw [hwy]; exact (Bx.of B3.out).trans (.set _ _ _ _))
  have QY := Lib.hid (show Blk wy p 74 #[.string tb, .slice Tn t1 tcn, .slice IA' n1 ic, .slice WA' wn wc', .slice none 0 0, .slice none 0 0, .int .i64 lim, .bool ag] by rw [hwy]; exact (QB.out.below B3.out).set_ 1 _)
  rw [← hwy]
  clear hwy B3 QB
  have BWy := Lib.hid (BY.out.below BW.out (by omega) (by have := BW.out.size; omega))
  have ZXy := Lib.hid (BY.out.blk ZX.out (by omega))
  have ZYy := Lib.hid (BY.out.blk ZY.out (by omega))
  have hsy : wc.heap.size ≤ wy.heap.size := BY.out.size
  -- groups
  obtain ⟨Gn, gcn, w5, hr, ho, hb⟩ := app_cells tInts 65 (c := gc) (HQ.out.gr.keep (fun b _ hl => BWy.out.block b hl) (fun _ hb _ => hb) BWy.out.size) ints_one (by show gn ≤ 1048577; omega) (by omega)
  have HR := Lib.hid hr
  have B5 := Lib.hid hb
  have GO := Lib.hid ho
  clear hr hb ho
  have q4 := QY.out.cell 4
  have x4 := ZXy.out.cell 4
  have hxl := ZXy.out.lt
  have g1 := (QY.out.below B5.out).cell 4
  have g2 := (QY.out.below B5.out).frozen 4
  have g3 := (QY.out.below B5.out).lt
  have hqy := QY.out.lt
  go_upto_region 4 with (at_builtin; refine wpList_append_runI _ rfl _ _ 65 65 rfl (.slice none 0 0) (.slice GA gn gc) rfl rfl HR.out ?_)
  clear q4 x4 hxl g1 g2 g3 HR hqy
  obtain ⟨wz, hwz⟩ : ∃ z, z = w5.setCell ⟨p, 4, none⟩ (.slice Gn gn gcn) := ⟨_, rfl⟩
  have BZ := Lib.hid (show Bx p wy wz by rw [hwz]; exact (Bx.of B5.out).trans (.set _ _ _ _))
  have QZ := Lib.hid (show Blk wz p 74 #[.string tb, .slice Tn t1 tcn, .slice IA' n1 ic, .slice WA' wn wc', .slice Gn gn gcn, .slice none 0 0, .int .i64 lim, .bool ag] by rw [hwz]; exact (QY.out.below B5.out).set_ 4 _)
  have hpy : p < wy.heap.size := by omega
  have FG := Lib.hid (show CellsIn wz (fun b => w1.heap.size ≤ b ∧ b ≠ p) Gn gn (gr.map (Value.int .i64)) by
   rw [hwz]
   exact (own_cells GO.out).keep (fun b hb _ => Below.heap_setCell _ _ _ _ (by show b ≠ p; omega)) (fun b hb _ => by omega) (by simp [World.setCell]))
  rw [← hwz]
  clear hwz B5 QY GO
  have BB := Lib.hid (BY.out.trans BZ.out)
  have BWz := Lib.hid (BZ.out.below BWy.out (by omega) (by have := BWy.out.size; omega))
  have ZXz := Lib.hid (BZ.out.blk ZXy.out (by omega))
  have ZYz := Lib.hid (BZ.out.blk ZYy.out (by omega))
  have hsz : wc.heap.size ≤ wz.heap.size := BB.out.size
  have FIz := Lib.hid (FI.out.keep (fun b hb hl => BB.out.block b hl hb.2) (fun _ hb _ => hb) hsz)
  have FWz := Lib.hid (FW.out.keep (fun b hb hl => BB.out.block b hl hb.2) (fun _ hb _ => hb) hsz)
  have hpz : p < wz.heap.size := QZ.out.lt
  clear BY BZ BB FI FW ZXy ZYy BWy ZX ZY BW BX hsy
  go_wp2_with fail
  go_loopg [4] n2 (fun kx s4 wr => ∃ (i : Nat) (gs : List OGiven) (OB : Option Addr) (u : Nat), s4 = .int .i64 i ∧ kx + i = n2 ∧ Hid (gs.length = i) ∧ Hid (L5 p wz wr tb (.slice Tn t1 tcn) (.slice IA' n1 ic) (.slice WA' wn wc') (.slice Gn gn gcn) lim ag ords gs OB u))
  case atStart => exact ⟨0, [], none, 0, rfl, rfl, Lib.hid rfl, Lib.hid ⟨Bx.refl _ _, hpz, QZ.out, World.ownsRow_nil _ _ _ _, rfl, fun g hg => (by cases hg)⟩⟩
  case round =>
   obtain ⟨i, gs, OB, u, rfl, hk, HGL, I⟩ := hrel
   have hi9 : (i : Int) ≤ 1048576 := by omega
   have hi0 : (0 : Int) ≤ (i : Int) := by omega
   have BR := Lib.hid I.out.old
   have hszr : wz.heap.size ≤ wr.heap.size := BR.out.size
   have BWr := Lib.hid (BR.out.below BWz.out (by omega) (by have := BWz.out.size; omega))
   have ZXr := Lib.hid (BR.out.blk ZXz.out (by omega))
   have x5 := ZXr.out.cell 5
   have hxl := ZXr.out.lt
   by_cases hi : i < n2
   ·have hiz : (i : Int) < (n2 : Int) := by omega
    obtain ⟨e, he⟩ : ∃ e, ords[i]? = some e := ⟨_, List.getElem?_eq_getElem (by have := HQ.out.ords.len; simp only at this; omega)⟩
    obtain ⟨b, off, Ae, ne, ce, hoa, hb0, -, hcx, hix, hd⟩ := HQ.out.ords.at_ i e he
    simp only at hoa
    subst hoa
    obtain ⟨a0, a1, a2, a3, a4, a5, a6, a7⟩ := hcx.below hb0 BWr.out
    have a8 := (BWr.out.cell (p := ⟨b, off + i * 9 + 8, none⟩) hb0).trans hd
    have hbw : b < w.heap.size := hb0
    have hbr := Nat.lt_of_lt_of_le hb0 BWr.out.size
    have hcall := Lib.hid (show Calls Tryz.prog 54 #[.agg #[.string e.1.op, .int .i64 e.1.kind, .int .i64 e.1.col, .int .i64 e.1.val.kind, .int .i64 e.1.val.int, .string e.1.val.text, .bool e.1.val.bool, .slice Ae ne ce]] wr.drew (GivePost e.1 ne wr.drew) from give54 hix.is wr.drew (bt (below_drew wr) BWr.out))
    have HE := Lib.hid (show ords[gs.length]? = some e by rw [HGL.out]; exact he)
    have q5 := I.out.qb.cell 5
    have hq8 := I.out.qb.lt
    have hgl9 : gs.length + 1 ≤ 1048577 := by have := HGL.out; omega
    have own9 : ∀ x, (Value.slice OB gs.length u).ownBlock = some x → wz.heap.size ≤ x ∧ x < wr.heap.size := I.out.oO.lt
    have OWN := Lib.hid own9
    have hS0 : (fun w' : World => w'.cell? ⟨p, 5, none⟩ = some (.slice OB gs.length u) ∧ w'.cell? ⟨w.heap.size, 5, none⟩ = some (.slice (some ⟨b, off, none⟩) n2 cO) ∧ w'.cell? ⟨b, off + i * 9, none⟩ = some (.string e.1.op) ∧ w'.cell? ⟨b, off + i * 9 + 1, none⟩ = some (.int .i64 e.1.kind) ∧ w'.cell? ⟨b, off + i * 9 + 2, none⟩ = some (.int .i64 e.1.col) ∧ w'.cell? ⟨b, off + i * 9 + 3, none⟩ = some (.int .i64 e.1.val.kind) ∧ w'.cell? ⟨b, off + i * 9 + 4, none⟩ = some (.int .i64 e.1.val.int) ∧ w'.cell? ⟨b, off + i * 9 + 5, none⟩ = some (.string e.1.val.text) ∧ w'.cell? ⟨b, off + i * 9 + 6, none⟩ = some (.bool e.1.val.bool) ∧ w'.cell? ⟨b, off + i * 9 + 7, none⟩ = some (.slice Ae ne ce) ∧ w'.cell? ⟨b, off + i * 9 + 8, none⟩ = some (.bool e.2)) wr.drew := ⟨q5, x5, a0, a1, a2, a3, a4, a5, a6, a7, a8⟩
    have HB := Lib.hid hb0
    have SB := Lib.hid (show ∀ W : World, Below wr.heap.size wr W → W.cell? ⟨p, 5, none⟩ = some (.slice OB gs.length u) ∧ W.cell? ⟨w.heap.size, 5, none⟩ = some (.slice (some ⟨b, off, none⟩) n2 cO) ∧ W.cell? ⟨b, off + i * 9, none⟩ = some (.string e.1.op) ∧ W.cell? ⟨b, off + i * 9 + 1, none⟩ = some (.int .i64 e.1.kind) ∧ W.cell? ⟨b, off + i * 9 + 2, none⟩ = some (.int .i64 e.1.col) ∧ W.cell? ⟨b, off + i * 9 + 3, none⟩ = some (.int .i64 e.1.val.kind) ∧ W.cell? ⟨b, off + i * 9 + 4, none⟩ = some (.int .i64 e.1.val.int) ∧ W.cell? ⟨b, off + i * 9 + 5, none⟩ = some (.string e.1.val.text) ∧ W.cell? ⟨b, off + i * 9 + 6, none⟩ = some (.bool e.1.val.bool) ∧ W.cell? ⟨b, off + i * 9 + 7, none⟩ = some (.slice Ae ne ce) ∧ W.cell? ⟨b, off + i * 9 + 8, none⟩ = some (.bool e.2) from fun W hW => by
     have k := fun (x o : Nat) (hx : x < wr.heap.size) => hW.cell (p := ⟨x, o, none⟩) hx
     exact ⟨(k p 5 hq8).trans q5, (k _ 5 hxl).trans x5, (k b _ hbr).trans a0, (k b _ hbr).trans a1, (k b _ hbr).trans a2, (k b _ hbr).trans a3, (k b _ hbr).trans a4, (k b _ hbr).trans a5, (k b _ hbr).trans a6, (k b _ hbr).trans a7, (k b _ hbr).trans a8⟩)
    clear he hcx hix hd hb0 own9
    go_upto_region 7 with fail
    clear a0 a1 a2 a3 a4 a5 a6 a7 a8 x5 q5 hq8 hxl
    refine wp_region_noPanic ?_
    refine wp_region_late (fun w' : World => w'.cell? ⟨p, 5, none⟩ = some (.slice OB gs.length u) ∧ w'.cell? ⟨w.heap.size, 5, none⟩ = some (.slice (some ⟨b, off, none⟩) n2 cO) ∧ w'.cell? ⟨b, off + i * 9, none⟩ = some (.string e.1.op) ∧ w'.cell? ⟨b, off + i * 9 + 1, none⟩ = some (.int .i64 e.1.kind) ∧ w'.cell? ⟨b, off + i * 9 + 2, none⟩ = some (.int .i64 e.1.col) ∧ w'.cell? ⟨b, off + i * 9 + 3, none⟩ = some (.int .i64 e.1.val.kind) ∧ w'.cell? ⟨b, off + i * 9 + 4, none⟩ = some (.int .i64 e.1.val.int) ∧ w'.cell? ⟨b, off + i * 9 + 5, none⟩ = some (.string e.1.val.text) ∧ w'.cell? ⟨b, off + i * 9 + 6, none⟩ = some (.bool e.1.val.bool) ∧ w'.cell? ⟨b, off + i * 9 + 7, none⟩ = some (.slice Ae ne ce) ∧ w'.cell? ⟨b, off + i * 9 + 8, none⟩ = some (.bool e.2)) [19] (by kernel_rfl) ?_
    refine wpAnyL_take 0 37 (v := ?_) rfl rfl (by kernel_rfl) (by kernel_rfl) (by kernel_rfl) (by kernel_rfl) (fun _ _ _ h => h) (by rfl) ?_ hS0 ?_
    rotate_left
    ·(intro w' hSw; obtain ⟨s0, s1, s2, s3, s4, s5, s6, s7, s8, s9, s10⟩ := hSw; go_simp; try with_reducible rfl)
    simp only [List.setIfInBounds_toArray, List.set_cons_zero, List.set_cons_succ]
    refine wpAnyL_take 1 38 (v := ?_) rfl rfl (by kernel_rfl) (by kernel_rfl) (by kernel_rfl) (by kernel_rfl) (fun _ _ _ h => h) (by rfl) ?_ hS0 ?_
    rotate_left
    ·(intro w' hSw; obtain ⟨s0, s1, s2, s3, s4, s5, s6, s7, s8, s9, s10⟩ := hSw; go_simp; try with_reducible rfl)
    simp only [List.setIfInBounds_toArray, List.set_cons_zero, List.set_cons_succ]
    refine wpAnyL_take 2 39 (v := ?_) rfl rfl (by kernel_rfl) (by kernel_rfl) (by kernel_rfl) (by kernel_rfl) (fun _ _ _ h => h) (by rfl) ?_ hS0 ?_
    rotate_left
    ·(intro w' hSw; obtain ⟨s0, s1, s2, s3, s4, s5, s6, s7, s8, s9, s10⟩ := hSw; go_simp; try with_reducible rfl)
    simp only [List.setIfInBounds_toArray, List.set_cons_zero, List.set_cons_succ]
    refine wpAnyL_take 3 40 (v := ?_) rfl rfl (by kernel_rfl) (by kernel_rfl) (by kernel_rfl) (by kernel_rfl) (fun _ _ _ h => h) (by rfl) ?_ hS0 ?_
    rotate_left
    ·(intro w' hSw; obtain ⟨s0, s1, s2, s3, s4, s5, s6, s7, s8, s9, s10⟩ := hSw; go_simp; try with_reducible rfl)
    simp only [List.setIfInBounds_toArray, List.set_cons_zero, List.set_cons_succ]
    refine wpAnyL_take 4 41 (v := ?_) rfl rfl (by kernel_rfl) (by kernel_rfl) (by kernel_rfl) (by kernel_rfl) (fun _ _ _ h => h) (by rfl) ?_ hS0 ?_
    rotate_left
    ·(intro w' hSw; obtain ⟨s0, s1, s2, s3, s4, s5, s6, s7, s8, s9, s10⟩ := hSw; go_simp; try with_reducible rfl)
    simp only [List.setIfInBounds_toArray, List.set_cons_zero, List.set_cons_succ]
    refine wpAnyL_take 5 42 (v := ?_) rfl rfl (by kernel_rfl) (by kernel_rfl) (by kernel_rfl) (by kernel_rfl) (fun _ _ _ h => h) (by rfl) ?_ hS0 ?_
    rotate_left
    ·(intro w' hSw; obtain ⟨s0, s1, s2, s3, s4, s5, s6, s7, s8, s9, s10⟩ := hSw; go_simp; try with_reducible rfl)
    simp only [List.setIfInBounds_toArray, List.set_cons_zero, List.set_cons_succ]
    refine wpAnyL_take 6 43 (v := ?_) rfl rfl (by kernel_rfl) (by kernel_rfl) (by kernel_rfl) (by kernel_rfl) (fun _ _ _ h => h) (by rfl) ?_ hS0 ?_
    rotate_left
    ·(intro w' hSw; obtain ⟨s0, s1, s2, s3, s4, s5, s6, s7, s8, s9, s10⟩ := hSw; go_simp; try with_reducible rfl)
    simp only [List.setIfInBounds_toArray, List.set_cons_zero, List.set_cons_succ]
    refine wpAnyL_take 7 44 (v := ?_) rfl rfl (by kernel_rfl) (by kernel_rfl) (by kernel_rfl) (by kernel_rfl) (fun _ _ _ h => h) (by rfl) ?_ hS0 ?_
    rotate_left
    ·(intro w' hSw; obtain ⟨s0, s1, s2, s3, s4, s5, s6, s7, s8, s9, s10⟩ := hSw; go_simp; try with_reducible rfl)
    simp only [List.setIfInBounds_toArray, List.set_cons_zero, List.set_cons_succ]
    refine wpAnyL_take 9 46 (v := ?_) rfl rfl (by kernel_rfl) (by kernel_rfl) (by kernel_rfl) (by kernel_rfl) (fun _ _ _ h => h) (by rfl) ?_ hS0 ?_
    rotate_left
    ·(intro w' hSw; obtain ⟨s0, s1, s2, s3, s4, s5, s6, s7, s8, s9, s10⟩ := hSw; go_simp; try with_reducible rfl)
    simp only [List.setIfInBounds_toArray, List.set_cons_zero, List.set_cons_succ]
    refine wpAnyL_take 10 47 (v := ?_) rfl rfl (by kernel_rfl) (by kernel_rfl) (by kernel_rfl) (by kernel_rfl) (fun _ _ _ h => h) (by rfl) ?_ hS0 ?_
    rotate_left
    ·(intro w' hSw; obtain ⟨s0, s1, s2, s3, s4, s5, s6, s7, s8, s9, s10⟩ := hSw; go_simp; try with_reducible rfl)
    simp only [List.setIfInBounds_toArray, List.set_cons_zero, List.set_cons_succ]
    refine wpAnyL_take 11 48 (v := ?_) rfl rfl (by kernel_rfl) (by kernel_rfl) (by kernel_rfl) (by kernel_rfl) (fun _ _ _ h => h) (by rfl) ?_ hS0 ?_
    rotate_left
    ·(intro w' hSw; obtain ⟨s0, s1, s2, s3, s4, s5, s6, s7, s8, s9, s10⟩ := hSw; go_simp; try with_reducible rfl)
    simp only [List.setIfInBounds_toArray, List.set_cons_zero, List.set_cons_succ]
    refine wpAnyL_take 12 49 (v := ?_) rfl rfl (by kernel_rfl) (by kernel_rfl) (by kernel_rfl) (by kernel_rfl) (fun _ _ _ h => h) (by rfl) ?_ hS0 ?_
    rotate_left
    ·(intro w' hSw; obtain ⟨s0, s1, s2, s3, s4, s5, s6, s7, s8, s9, s10⟩ := hSw; go_simp; try with_reducible rfl)
    simp only [List.setIfInBounds_toArray, List.set_cons_zero, List.set_cons_succ]
    refine wpAnyL_take 13 50 (v := ?_) rfl rfl (by kernel_rfl) (by kernel_rfl) (by kernel_rfl) (by kernel_rfl) (fun _ _ _ h => h) (by rfl) ?_ hS0 ?_
    rotate_left
    ·(intro w' hSw; obtain ⟨s0, s1, s2, s3, s4, s5, s6, s7, s8, s9, s10⟩ := hSw; go_simp; try with_reducible rfl)
    simp only [List.setIfInBounds_toArray, List.set_cons_zero, List.set_cons_succ]
    refine wpAnyL_take 14 51 (v := ?_) rfl rfl (by kernel_rfl) (by kernel_rfl) (by kernel_rfl) (by kernel_rfl) (fun _ _ _ h => h) (by rfl) ?_ hS0 ?_
    rotate_left
    ·(intro w' hSw; obtain ⟨s0, s1, s2, s3, s4, s5, s6, s7, s8, s9, s10⟩ := hSw; go_simp; try with_reducible rfl)
    simp only [List.setIfInBounds_toArray, List.set_cons_zero, List.set_cons_succ]
    refine wpAnyL_call 8 45 (f := 54) (args := #[.agg #[.string e.1.op, .int .i64 e.1.kind, .int .i64 e.1.col, .int .i64 e.1.val.kind, .int .i64 e.1.val.int, .string e.1.val.text, .bool e.1.val.bool, .slice Ae ne ce]]) rfl rfl (by kernel_rfl) (by rfl) (by go_simp; try rfl) hcall.out ?_
    clear hcall
    rintro ev w6 ⟨A2, c2, rfl, hin, h2⟩
    have b26 := Lib.hid (bt h2.out (below_drew wr))
    have hS1 := SB.out w6 b26.out
    have h26 : wr.heap.size ≤ w6.heap.size := b26.out.size
    obtain ⟨An, cn, w7, hrun, f1, f2, f3, fk, J⟩ := (I.out.below b26.out).push hgl9 HE.out (hin.out.keep (S' := fun b => wz.heap.size ≤ b ∧ some b ≠ (Value.slice OB gs.length u).ownBlock) (fun _ _ _ => rfl) (fun b hb _ => by
     have hb : wr.heap.size ≤ b := hb
     exact ⟨by omega, fun h => by have := (OWN.out b h.symm).2; omega⟩) (Nat.le_refl _)) (below_alloc w6 (.cells #[.string e.1.op, .int .i64 e.1.kind, .int .i64 e.1.col, .int .i64 e.1.val.kind, .int .i64 e.1.val.int, .string e.1.val.text, .bool e.1.val.bool, .slice A2 ne c2, .bool e.2] 137)) (Blk.new w6 137 _)
    have HRUN := Lib.hid hrun
    have JJ := Lib.hid J
    have hS2 : (fun w' : World => w'.cell? ⟨p, 5, none⟩ = some (.slice OB gs.length u) ∧ w'.cell? ⟨w.heap.size, 5, none⟩ = some (.slice (some ⟨b, off, none⟩) n2 cO) ∧ w'.cell? ⟨b, off + i * 9, none⟩ = some (.string e.1.op) ∧ w'.cell? ⟨b, off + i * 9 + 1, none⟩ = some (.int .i64 e.1.kind) ∧ w'.cell? ⟨b, off + i * 9 + 2, none⟩ = some (.int .i64 e.1.col) ∧ w'.cell? ⟨b, off + i * 9 + 3, none⟩ = some (.int .i64 e.1.val.kind) ∧ w'.cell? ⟨b, off + i * 9 + 4, none⟩ = some (.int .i64 e.1.val.int) ∧ w'.cell? ⟨b, off + i * 9 + 5, none⟩ = some (.string e.1.val.text) ∧ w'.cell? ⟨b, off + i * 9 + 6, none⟩ = some (.bool e.1.val.bool) ∧ w'.cell? ⟨b, off + i * 9 + 7, none⟩ = some (.slice Ae ne ce) ∧ w'.cell? ⟨b, off + i * 9 + 8, none⟩ = some (.bool e.2)) (w6.alloc (.cells #[.string e.1.op, .int .i64 e.1.kind, .int .i64 e.1.col, .int .i64 e.1.val.kind, .int .i64 e.1.val.int, .string e.1.val.text, .bool e.1.val.bool, .slice A2 ne c2, .bool e.2] 137)) := SB.out _ (bt (below_alloc _ _) b26.out)
    have hS3 : (fun w' : World => w'.cell? ⟨p, 5, none⟩ = some (.slice OB gs.length u) ∧ w'.cell? ⟨w.heap.size, 5, none⟩ = some (.slice (some ⟨b, off, none⟩) n2 cO) ∧ w'.cell? ⟨b, off + i * 9, none⟩ = some (.string e.1.op) ∧ w'.cell? ⟨b, off + i * 9 + 1, none⟩ = some (.int .i64 e.1.kind) ∧ w'.cell? ⟨b, off + i * 9 + 2, none⟩ = some (.int .i64 e.1.col) ∧ w'.cell? ⟨b, off + i * 9 + 3, none⟩ = some (.int .i64 e.1.val.kind) ∧ w'.cell? ⟨b, off + i * 9 + 4, none⟩ = some (.int .i64 e.1.val.int) ∧ w'.cell? ⟨b, off + i * 9 + 5, none⟩ = some (.string e.1.val.text) ∧ w'.cell? ⟨b, off + i * 9 + 6, none⟩ = some (.bool e.1.val.bool) ∧ w'.cell? ⟨b, off + i * 9 + 7, none⟩ = some (.slice Ae ne ce) ∧ w'.cell? ⟨b, off + i * 9 + 8, none⟩ = some (.bool e.2)) w7 := by
     have b27 := bt (below_alloc w6 (.cells #[.string e.1.op, .int .i64 e.1.kind, .int .i64 e.1.col, .int .i64 e.1.val.kind, .int .i64 e.1.val.int, .string e.1.val.text, .bool e.1.val.bool, .slice A2 ne c2, .bool e.2] 137)) b26.out
     have hwl : w.heap.size < wr.heap.size := ZXr.out.lt
     have k2 := fk w.heap.size (by simp; omega) (fun h => by have := (OWN.out _ h.symm).1; omega)
     have k3 := fk b (by simp; omega) (fun h => by have := (OWN.out _ h.symm).1; omega)
     obtain ⟨-, s1, s2, s3, s4, s5, s6, s7, s8, s9, s10⟩ := hS2
     have c := fun {x : Nat} (o : Nat) (h : w7.heap[x]? = (w6.alloc (.cells #[.string e.1.op, .int .i64 e.1.kind, .int .i64 e.1.col, .int .i64 e.1.val.kind, .int .i64 e.1.val.int, .string e.1.val.text, .bool e.1.val.bool, .slice A2 ne c2, .bool e.2] 137)).heap[x]?) => World.cell?_of_block (a := ⟨x, o, none⟩) h
     exact ⟨f1, (c 5 k2).trans s1, (c _ k3).trans s2, (c _ k3).trans s3, (c _ k3).trans s4, (c _ k3).trans s5, (c _ k3).trans s6, (c _ k3).trans s7, (c _ k3).trans s8, (c _ k3).trans s9, (c _ k3).trans s10⟩
    clear hrun J fk
    refine ⟨_, rfl, .inr hS1, ?_⟩
    simp only [List.setIfInBounds_toArray, List.set_cons_zero, List.set_cons_succ]
    refine wpAnyL_val 15 52 (v := .agg #[.string e.1.op, .int .i64 e.1.kind, .int .i64 e.1.col, .int .i64 e.1.val.kind, .int .i64 e.1.val.int, .string e.1.val.text, .bool e.1.val.bool, .slice A2 ne c2, .bool e.2]) (w' := w6) rfl rfl (by kernel_rfl) (by rfl) (by go_simp; try rfl) (.inr hS1) ?_
    simp only [List.setIfInBounds_toArray, List.set_cons_zero, List.set_cons_succ]
    refine wpAnyL_val 16 53 (v := .slice (some ⟨w6.heap.size, 0, none⟩) 1 1) (w' := w6.alloc (.cells #[.string e.1.op, .int .i64 e.1.kind, .int .i64 e.1.col, .int .i64 e.1.val.kind, .int .i64 e.1.val.int, .string e.1.val.text, .bool e.1.val.bool, .slice A2 ne c2, .bool e.2] 137)) rfl rfl (by kernel_rfl) (by rfl) (by go_simp; try rfl) (.inr hS2) ?_
    simp only [List.setIfInBounds_toArray, List.set_cons_zero, List.set_cons_succ]
    refine wpAnyL_val 17 54 (v := .slice An (gs.length + 1) cn) (w' := w7) rfl rfl (by kernel_rfl) (by rfl) (exec_append _ _ 72 72 rfl (.slice OB gs.length u) (.slice (some ⟨w6.heap.size, 0, none⟩) 1 1) rfl rfl HRUN.out) (.inr hS3) ?_
    simp only [List.setIfInBounds_toArray, List.set_cons_zero, List.set_cons_succ]
    refine wpAnyL_val 18 55 (v := .pointer (some ⟨p, 5, none⟩)) (w' := w7) rfl rfl (by kernel_rfl) (by rfl) (by go_simp; try rfl) (.inr hS3) ?_
    simp only [List.setIfInBounds_toArray, List.set_cons_zero, List.set_cons_succ]
    refine wpAnyL_skip 19 (w' := w7.setCell ⟨p, 5, none⟩ (.slice An (gs.length + 1) cn)) rfl rfl (by kernel_rfl) (by rfl) (by go_simp; try rfl) (.inl (by simp)) ?_
    refine wpAnyL_done (by kernel_rfl) ?_ _
    refine NoPanic.normal ?_
    clear hS0 hS1 hS2 hS3 SB f1 f2 f3 HRUN
    go_wp2_with fail
    go_roundg (gk - 1)
    case measure => omega
    case rel => exact ⟨i + 1, gs ++ [((e.1, A2, ne, c2), e.2)], An, cn, by first | rfl | (simp; done), by omega, Lib.hid (by simp [HGL.out]), JJ⟩
   ·have hiz : ¬ (i : Int) < (n2 : Int) := by omega
    obtain rfl : i = n2 := by omega
    have hgl9 : gs.length ≤ 1048576 := by have := HGL.out; omega
    have QE := Lib.hid (show QuOut wr (fun b => w.heap.size + 2 ≤ b) ⟨ti, its, wh, gr, ords⟩ ⟨Tn, t1, tcn, IA', n1, ic, WA', wn, wc', Gn, gn, gcn, OB, gs.length, u⟩ from
     ⟨FIz.out.keep (fun b hb hl => BR.out.block b hl hb.2) (fun b hb _ => by have := hb.1; omega) hszr, FWz.out.keep (fun b hb hl => BR.out.block b hl hb.2) (fun b hb _ => by have := hb.1; omega) hszr, FG.out.keep (fun b hb hl => BR.out.block b hl hb.2) (fun b hb _ => by have := hb.1; omega) hszr, by
      have k := own_ords (S := fun b => w.heap.size + 2 ≤ b) I.out.oO (fun b hb => by have := (I.out.oO.lt b hb).1; omega) (fun g hg => (I.out.kids g hg).keep (fun _ _ _ => rfl) (fun b hb _ => by have := hb.1; omega) (Nat.le_refl _))
      have e1 : (gs.map fun g => (g.1.1, g.2)) = ords := by
       rw [I.out.is, List.take_of_length_le (by have := HQ.out.ords.len; simp only at this; have := HGL.out; omega)]
      rw [e1] at k
      exact k, hn1, hwn, hgn, hgl9⟩)
    have QC := Lib.hid I.out.qb
    have YC := Lib.hid (BR.out.blk ZYz.out (by omega))
    have BWC := Lib.hid BWr.out
    clear FIz FWz FG
    have zc := QC.out.cell
    have q0 := zc 0
    have q1 := zc 1
    have q2 := zc 2
    have q3 := zc 3
    have q4 := zc 4
    have q5 := zc 5
    have q6 := zc 6
    have q7 := zc 7
    have hfz := fun o => YC.out.frozen o
    have r0 := YC.out.cell 0
    have r1 := YC.out.cell 1
    have r2 := YC.out.cell 2
    have r3 := YC.out.cell 3
    have r4 := YC.out.cell 4
    have r5 := YC.out.cell 5
    have r6 := YC.out.cell 6
    have r7 := YC.out.cell 7
    have hrl := YC.out.lt
    clear zc
    go_wp2_with fail
    refine bodyPost_ret (results_q (s := 2) rfl rfl (ex_set YC.out _ _ _ _ _ _ _ _)) rfl (q18_fin QE.out BWC.out _ _ _ _ _ _ _ _)
end Go.Proofs.YtbcmmecilheicaaGreatDoor
