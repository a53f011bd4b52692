/- The document's OfQuery: what its loops keep: all but one block; the rows of items and titles. The document's OfQuery: what its loops keep: the rows of groups, orders. -/
import Derived.Test.YtbcmmecilheicaaGreatDoorGpdA
import Derived.Test.YtbcmmecilheicaaGreatDoorQuA
import Derived.Test.YtbcmmecilheicaaGreatDoorQpA

/- The document's OfQuery: what its loops keep: all but one block; the rows of items and titles. -/
namespace Go.Proofs.YtbcmmecilheicaaGreatDoor
open Go Go.RowKit

/-- all that was is as it was, but one block -/
structure Bx (p : Nat) (w w' : World) : Prop where
 os : w'.os = w.os
 tape : w'.tape = w.tape
 output : w'.output = w.output
 size : w.heap.size ≤ w'.heap.size
 block : ∀ b, b < w.heap.size → b ≠ p → w'.heap[b]? = w.heap[b]?
theorem Bx.refl (p : Nat) (w : World) : Bx p w w := ⟨rfl, rfl, rfl, Nat.le_refl _, fun _ _ _ => rfl⟩
theorem Bx.of {p : Nat} {w w' : World} (h : Below w.heap.size w w') : Bx p w w' := ⟨h.os, h.tape, h.output, h.size, fun b hb _ => h.block b hb⟩
theorem Bx.trans {p : Nat} {w w' w2 : World} (h : Bx p w w') (h2 : Bx p w' w2) : Bx p w w2 :=
 ⟨h2.os.trans h.os, h2.tape.trans h.tape, h2.output.trans h.output, Nat.le_trans h.size h2.size, fun b hb hp => (h2.block b (Nat.lt_of_lt_of_le hb h.size) hp).trans (h.block b hb hp)⟩
theorem Bx.set (w : World) (p o : Nat) (v : Value) : Bx p w (w.setCell ⟨p, o, none⟩ v) :=
 ⟨rfl, rfl, rfl, by simp [World.setCell], fun b _ hp => Below.heap_setCell _ _ _ _ hp⟩
/-- a row that grew -/
theorem Bx.grown {p : Nat} {w wr w3 : World} {V : Value} (h : Bx p w wr) (hV : ∀ k, V.ownBlock = some k → w.heap.size ≤ k) (hg : wr.grownBy w3 V.ownBlock) : Bx p w w3 :=
 ⟨hg.os.trans h.os, hg.tape.trans h.tape, hg.output.trans h.output, Nat.le_trans h.size hg.size, fun b hb hp => (hg.block b (Nat.lt_of_lt_of_le hb h.size) (fun e => by have := hV b e.symm; omega)).trans (h.block b hb hp)⟩
/-- as seen from below -/
theorem Bx.below {p lo : Nat} {w0 w w' : World} (h : Bx p w w') (hb : Below lo w0 w) (hp : lo ≤ p) (hl : lo ≤ w.heap.size) : Below lo w0 w' :=
 ⟨h.os.trans hb.os, h.tape.trans hb.tape, h.output.trans hb.output, Nat.le_trans hb.size h.size, fun b hbl => (h.block b (by omega) (by omega)).trans (hb.block b hbl)⟩

theorem own_keepB {W W' : World} {B n size : Nat} {e : TypeId} {v : Value} {xs : List Value} (h : W.ownsRow B e size v n xs) (hk : ∀ k, v.ownBlock = some k → W'.heap[k]? = W.heap[k]?) : W'.ownsRow B e size v n xs := by
 obtain ⟨h1, h2⟩ := h
 refine ⟨h1, ?_⟩
 rcases h2 with h2 | ⟨g, cap, cur, e1, e2, e3, e4⟩
 ·exact .inl h2
 ·refine .inr ⟨g, cap, cur, e1, e2, ?_, e4⟩
  rw [hk g (by rw [e1]; rfl)]
  exact e3

/-- items and titles so far -/
structure L1 (cols : List Col) (p : Nat) (ws wr : World) (tb : ByteArray) (c3 c4 c5 : Value) (lim : Int) (ag : Bool) (ti : List ByteArray) (T1 : Option Addr) (u1 : Nat) (gs : List Given) (IA : Option Addr) (u2 : Nat) : Prop where
 old : Bx p ws wr
 ps : p < ws.heap.size
 qb : Blk wr p 68 #[.string tb, .slice T1 ti.length u1, .slice IA gs.length u2, c3, c4, c5, .int .i64 lim, .bool ag]
 tO : wr.ownsRow ws.heap.size 9 1 (.slice T1 ti.length u1) ti.length (ti.map Value.string)
 iO : wr.ownsRow ws.heap.size 38 8 (.slice IA gs.length u2) gs.length (exCells gs)
 ap : ∀ k, (Value.slice T1 ti.length u1).ownBlock = some k → (Value.slice IA gs.length u2).ownBlock ≠ some k
 kids : ∀ g ∈ gs, Typed cols true g.1 ∧ ExIn wr (fun b => ws.heap.size ≤ b ∧ some b ≠ (Value.slice T1 ti.length u1).ownBlock ∧ some b ≠ (Value.slice IA gs.length u2).ownBlock) g.1 g.2.1 g.2.2.1 g.2.2.2
section
variable {cols : List Col} {p : Nat} {ws wr : World} {tb : ByteArray} {c3 c4 c5 : Value} {lim : Int} {ag : Bool} {ti : List ByteArray} {T1 : Option Addr} {u1 : Nat} {gs : List Given} {IA : Option Addr} {u2 : Nat}
theorem L1.below (I : L1 cols p ws wr tb c3 c4 c5 lim ag ti T1 u1 gs IA u2) {wx : World} (h : Below wr.heap.size wr wx) : L1 cols p ws wx tb c3 c4 c5 lim ag ti T1 u1 gs IA u2 :=
 ⟨I.old.trans (.of h), I.ps, I.qb.below h, own_below I.tO h, own_below I.iO h, I.ap, fun g hg => ⟨(I.kids g hg).1, (I.kids g hg).2.keep (fun b _ hl => h.block b hl) (fun _ hb _ => hb) h.size⟩⟩
theorem L1.setAg (I : L1 cols p ws wr tb c3 c4 c5 lim ag ti T1 u1 gs IA u2) (q : Bool) : L1 cols p ws (wr.setCell ⟨p, 7, none⟩ (.bool q)) tb c3 c4 c5 lim q ti T1 u1 gs IA u2 := by
 have hp := I.ps
 have far : ∀ b, b ≠ p → (wr.setCell ⟨p, 7, none⟩ (.bool q)).heap[b]? = wr.heap[b]? := fun b hb => Below.heap_setCell _ _ _ _ hb
 exact ⟨I.old.trans (.set _ _ _ _), hp, I.qb.set_ 7 _, own_keepB I.tO (fun k hk => far k (by have := (I.tO.lt k hk).1; omega)), own_keepB I.iO (fun k hk => far k (by have := (I.iO.lt k hk).1; omega)), I.ap,
  fun g hg => ⟨(I.kids g hg).1, (I.kids g hg).2.keep (fun b hb _ => far b (by omega)) (fun _ hb _ => hb) (by simp [World.setCell])⟩⟩
theorem L1.pushI (I : L1 cols p ws wr tb c3 c4 c5 lim ag ti T1 u1 gs IA u2) (hm : gs.length + 1 ≤ 1048577) {e : Ex} {Ae : Option Addr} {ne ce : Nat} (hty : Typed cols true e) (he : ExIn wr (fun b => ws.heap.size ≤ b ∧ some b ≠ (Value.slice T1 ti.length u1).ownBlock ∧ some b ≠ (Value.slice IA gs.length u2).ownBlock) e Ae ne ce) {wd : World} (hd : Below wr.heap.size wr wd) (z : Blk wd wr.heap.size 38 #[.string e.op, .int .i64 e.kind, .int .i64 e.col, .int .i64 e.val.kind, .int .i64 e.val.int, .string e.val.text, .bool e.val.bool, .slice Ae ne ce]) :
  ∃ An cn w4, (Builtin.append_ #[36, 36] 36 #[.slice IA gs.length u2, .slice (some ⟨wr.heap.size, 0, none⟩) 1 1]).run Tryz.prog wd = .ok (.slice An (gs.length + 1) cn) w4 ∧
   w4.cell? ⟨p, 2, none⟩ = some (.slice IA gs.length u2) ∧ w4.frozen? ⟨p, 2, none⟩ = false ∧ p < w4.heap.size ∧ (∀ b, b < wd.heap.size → b ≠ p → some b ≠ (Value.slice IA gs.length u2).ownBlock → (w4.setCell ⟨p, 2, none⟩ (.slice An (gs.length + 1) cn)).heap[b]? = wd.heap[b]?) ∧ L1 cols p ws (w4.setCell ⟨p, 2, none⟩ (.slice An (gs.length + 1) cn)) tb c3 c4 c5 lim ag ti T1 u1 (gs ++ [(e, Ae, ne, ce)]) An cn := by
 have hp := I.ps
 have hs0 := I.old.size
 have Id := I.below hd
 obtain ⟨An, cn, w4, hrun, hown, hg, hnew⟩ := app_some tRefs 36 Id.iO (by have := hd.size; omega) ⟨wr.heap.size, 0, none⟩ 1 1 (by omega) (exCells [(e, Ae, ne, ce)]) (exCells_len _) (fun j u hj => by
  rw [add_lit0, z.cell j]
  simpa [exCells] using hj) exCells_one (by unfold maxLen; omega) (by omega)
 have own_lt : ∀ k, (Value.slice IA gs.length u2).ownBlock = some k → ws.heap.size ≤ k ∧ k < wr.heap.size := I.iO.lt
 have town_lt : ∀ k, (Value.slice T1 ti.length u1).ownBlock = some k → ws.heap.size ≤ k ∧ k < wr.heap.size := I.tO.lt
 have hs4 := hg.size
 have hsd := hd.size
 have keep : ∀ b, b < wd.heap.size → some b ≠ (Value.slice IA gs.length u2).ownBlock → w4.heap[b]? = wd.heap[b]? := fun b hb hne => hg.block b hb hne
 have pne : some p ≠ (Value.slice IA gs.length u2).ownBlock := fun e => by have := (own_lt p e.symm).1; omega
 have q4 : Blk w4 p 68 #[.string tb, .slice T1 ti.length u1, .slice IA gs.length u2, c3, c4, c5, .int .i64 lim, .bool ag] := (keep p (by omega) pne).trans Id.qb
 have far : ∀ b, b ≠ p → (w4.setCell ⟨p, 2, none⟩ (.slice An (gs.length + 1) cn)).heap[b]? = w4.heap[b]? := fun b hb => Below.heap_setCell _ _ _ _ hb
 have newne : ∀ b, b < wd.heap.size → some b ≠ (Value.slice IA gs.length u2).ownBlock → some b ≠ (Value.slice An (gs.length + 1) cn).ownBlock := fun b hb hne e => by
  rcases hnew with hn | hn
  ·exact hne (e.trans hn)
  ·rw [hn] at e; injection e with e; omega
 have hl : (gs ++ [(e, Ae, ne, ce)]).length = gs.length + 1 := by simp
 refine ⟨An, cn, w4, hrun, q4.cell 2, q4.frozen 2, q4.lt, fun b hb hp hne => (far b hp).trans (keep b hb hne), (Id.old.grown (fun k hk => (own_lt k hk).1) hg).trans (.set _ _ _ _), hp, by rw [hl]; exact q4.set_ 2 _, ?_, ?_, ?_, ?_⟩
 ·exact own_keepB Id.tO (fun k hk => (far k (by have := (town_lt k hk).1; omega)).trans (keep k (by have := (town_lt k hk).2; omega) (fun e => I.ap k hk e.symm)))
 ·rw [hl, exCells_append]
  exact own_keepB hown (fun k hk => far k (by have := (hown.lt k hk).1; omega))
 ·rw [hl]
  exact fun k hk hc => newne k (by have := (town_lt k hk).2; omega) (fun e => I.ap k hk e.symm) hc.symm
 ·rw [hl]
  have fin : ∀ {x A n c}, ExIn wd (fun b => ws.heap.size ≤ b ∧ some b ≠ (Value.slice T1 ti.length u1).ownBlock ∧ some b ≠ (Value.slice IA gs.length u2).ownBlock) x A n c → ExIn (w4.setCell ⟨p, 2, none⟩ (.slice An (gs.length + 1) cn)) (fun b => ws.heap.size ≤ b ∧ some b ≠ (Value.slice T1 ti.length u1).ownBlock ∧ some b ≠ (Value.slice An (gs.length + 1) cn).ownBlock) x A n c := fun hx =>
   hx.keep (fun b hb hlt => (far b (by omega)).trans (keep b hlt hb.2.2)) (fun b hb hlt => ⟨hb.1, hb.2.1, newne b hlt hb.2.2⟩) (by simp [World.setCell]; omega)
  intro g hgm
  rcases List.mem_append.1 hgm with h | h
  ·exact ⟨(I.kids g h).1, fin (Id.kids g h).2⟩
  ·obtain rfl : g = (e, Ae, ne, ce) := by simpa using h
   exact ⟨hty, fin (he.keep (fun b _ hl => hd.block b hl) (fun _ hb _ => hb) hd.size)⟩
theorem tStrs33 : SlT Tryz.prog 33 9 1 16 (.string ⟨#[]⟩) := ⟨Tryz.underlying33, info_of (by kernel_rfl), rfl, by decide⟩
theorem strs_one {l : List ByteArray} : ∀ u ∈ l.map Value.string, u.oneCell' = true := fun u hu => by
 obtain ⟨s, -, rfl⟩ := List.mem_map.1 hu
 rfl
theorem L1.pushT (I : L1 cols p ws wr tb c3 c4 c5 lim ag ti T1 u1 gs IA u2) (hm : ti.length + 1 ≤ 1048577) (s : ByteArray) {wd : World} (hd : Below wr.heap.size wr wd) (z : Blk wd wr.heap.size 9 #[.string s]) :
  ∃ An cn w4, (Builtin.append_ #[33, 33] 33 #[.slice T1 ti.length u1, .slice (some ⟨wr.heap.size, 0, none⟩) 1 1]).run Tryz.prog wd = .ok (.slice An (ti.length + 1) cn) w4 ∧
   w4.cell? ⟨p, 1, none⟩ = some (.slice T1 ti.length u1) ∧ w4.frozen? ⟨p, 1, none⟩ = false ∧ p < w4.heap.size ∧ (∀ b, b < wd.heap.size → b ≠ p → some b ≠ (Value.slice T1 ti.length u1).ownBlock → (w4.setCell ⟨p, 1, none⟩ (.slice An (ti.length + 1) cn)).heap[b]? = wd.heap[b]?) ∧ L1 cols p ws (w4.setCell ⟨p, 1, none⟩ (.slice An (ti.length + 1) cn)) tb c3 c4 c5 lim ag (ti ++ [s]) An cn gs IA u2 := by
 have hp := I.ps
 have hs0 := I.old.size
 have Id := I.below hd
 obtain ⟨An, cn, w4, hrun, hown, hg, hnew⟩ := app_some tStrs33 33 Id.tO (by have := hd.size; omega) ⟨wr.heap.size, 0, none⟩ 1 1 (by omega) ([s].map Value.string) rfl (fun j u hj => by
  rw [add_lit0, z.cell j]
  simpa using hj) strs_one (by unfold maxLen; omega) (by omega)
 have own_lt : ∀ k, (Value.slice T1 ti.length u1).ownBlock = some k → ws.heap.size ≤ k ∧ k < wr.heap.size := I.tO.lt
 have iown_lt : ∀ k, (Value.slice IA gs.length u2).ownBlock = some k → ws.heap.size ≤ k ∧ k < wr.heap.size := I.iO.lt
 have hs4 := hg.size
 have hsd := hd.size
 have keep : ∀ b, b < wd.heap.size → some b ≠ (Value.slice T1 ti.length u1).ownBlock → w4.heap[b]? = wd.heap[b]? := fun b hb hne => hg.block b hb hne
 have pne : some p ≠ (Value.slice T1 ti.length u1).ownBlock := fun e => by have := (own_lt p e.symm).1; omega
 have q4 : Blk w4 p 68 #[.string tb, .slice T1 ti.length u1, .slice IA gs.length u2, c3, c4, c5, .int .i64 lim, .bool ag] := (keep p (by omega) pne).trans Id.qb
 have far : ∀ b, b ≠ p → (w4.setCell ⟨p, 1, none⟩ (.slice An (ti.length + 1) cn)).heap[b]? = w4.heap[b]? := fun b hb => Below.heap_setCell _ _ _ _ hb
 have newne : ∀ b, b < wd.heap.size → some b ≠ (Value.slice T1 ti.length u1).ownBlock → some b ≠ (Value.slice An (ti.length + 1) cn).ownBlock := fun b hb hne e => by
  rcases hnew with hn | hn
  ·exact hne (e.trans hn)
  ·rw [hn] at e; injection e with e; omega
 have hl : (ti ++ [s]).length = ti.length + 1 := by simp
 refine ⟨An, cn, w4, hrun, q4.cell 1, q4.frozen 1, q4.lt, fun b hb hp hne => (far b hp).trans (keep b hb hne), (Id.old.grown (fun k hk => (own_lt k hk).1) hg).trans (.set _ _ _ _), hp, by rw [hl]; exact q4.set_ 1 _, ?_, ?_, ?_, ?_⟩
 ·rw [hl, List.map_append]
  exact own_keepB hown (fun k hk => far k (by have := (hown.lt k hk).1; omega))
 ·exact own_keepB Id.iO (fun k hk => (far k (by have := (iown_lt k hk).1; omega)).trans (keep k (by have := (iown_lt k hk).2; omega) (fun e => I.ap k e.symm hk)))
 ·rw [hl]
  exact fun k hk hc => newne k (by have := (iown_lt k hc).2; omega) (fun e => I.ap k e.symm hc) hk.symm
 ·rw [hl]
  exact fun g hgm => ⟨(I.kids g hgm).1, (Id.kids g hgm).2.keep (fun b hb hlt => (far b (by omega)).trans (keep b hlt hb.2.1)) (fun b hb hlt => ⟨hb.1, newne b hlt hb.2.1, hb.2.2⟩) (by simp [World.setCell]; omega)⟩
end

end Go.Proofs.YtbcmmecilheicaaGreatDoor

/- The document's OfQuery: what its loops keep: the rows of groups, orders. -/
namespace Go.Proofs.YtbcmmecilheicaaGreatDoor
open Go Go.RowKit

/-- groups so far -/
structure L2 (p : Nat) (ws wr : World) (tb : ByteArray) (c1 c2 c3 c5 : Value) (lim : Int) (ag : Bool) (gr : List Int) (GA : Option Addr) (u : Nat) : Prop where
 old : Bx p ws wr
 ps : p < ws.heap.size
 qb : Blk wr p 68 #[.string tb, c1, c2, c3, .slice GA gr.length u, c5, .int .i64 lim, .bool ag]
 gO : wr.ownsRow ws.heap.size 3 1 (.slice GA gr.length u) gr.length (gr.map (Value.int .i64))
section
variable {p : Nat} {ws wr : World} {tb : ByteArray} {c1 c2 c3 c4 c5 : Value} {lim : Int} {ag : Bool}
theorem L2.below {gr : List Int} {GA : Option Addr} {u : Nat} (I : L2 p ws wr tb c1 c2 c3 c5 lim ag gr GA u) {wx : World} (h : Below wr.heap.size wr wx) : L2 p ws wx tb c1 c2 c3 c5 lim ag gr GA u :=
 ⟨I.old.trans (.of h), I.ps, I.qb.below h, own_below I.gO h⟩
theorem L2.setAg {gr : List Int} {GA : Option Addr} {u : Nat} (I : L2 p ws wr tb c1 c2 c3 c5 lim ag gr GA u) (q : Bool) : L2 p ws (wr.setCell ⟨p, 7, none⟩ (.bool q)) tb c1 c2 c3 c5 lim q gr GA u := by
 have hp := I.ps
 have far : ∀ b, b ≠ p → (wr.setCell ⟨p, 7, none⟩ (.bool q)).heap[b]? = wr.heap[b]? := fun b hb => Below.heap_setCell _ _ _ _ hb
 exact ⟨I.old.trans (.set _ _ _ _), hp, I.qb.set_ 7 _, own_keepB I.gO (fun k hk => far k (by have := (I.gO.lt k hk).1; omega))⟩
theorem ints_one {l : List Int} : ∀ u ∈ l.map (Value.int .i64), u.oneCell' = true := fun u hu => by
 obtain ⟨s, -, rfl⟩ := List.mem_map.1 hu
 rfl
theorem L2.push {gr : List Int} {GA : Option Addr} {u : Nat} (I : L2 p ws wr tb c1 c2 c3 c5 lim ag gr GA u) (hm : gr.length + 1 ≤ 1048577) (s : Int) {wd : World} (hd : Below wr.heap.size wr wd) (z : Blk wd wr.heap.size 3 #[.int .i64 s]) :
  ∃ An cn w4, (Builtin.append_ #[65, 65] 65 #[.slice GA gr.length u, .slice (some ⟨wr.heap.size, 0, none⟩) 1 1]).run Tryz.prog wd = .ok (.slice An (gr.length + 1) cn) w4 ∧
   w4.cell? ⟨p, 4, none⟩ = some (.slice GA gr.length u) ∧ w4.frozen? ⟨p, 4, none⟩ = false ∧ p < w4.heap.size ∧ L2 p ws (w4.setCell ⟨p, 4, none⟩ (.slice An (gr.length + 1) cn)) tb c1 c2 c3 c5 lim ag (gr ++ [s]) An cn := by
 have hp := I.ps
 have hs0 := I.old.size
 have Id := I.below hd
 obtain ⟨An, cn, w4, hrun, hown, hg, hnew⟩ := app_some tInts 65 Id.gO (by have := hd.size; omega) ⟨wr.heap.size, 0, none⟩ 1 1 (by omega) ([s].map (Value.int .i64)) rfl (fun j u hj => by
  rw [add_lit0, z.cell j]
  simpa using hj) ints_one (by unfold maxLen; omega) (by omega)
 have own_lt : ∀ k, (Value.slice GA gr.length u).ownBlock = some k → ws.heap.size ≤ k ∧ k < wr.heap.size := I.gO.lt
 have hs4 := hg.size
 have hsd := hd.size
 have keep : ∀ b, b < wd.heap.size → some b ≠ (Value.slice GA gr.length u).ownBlock → w4.heap[b]? = wd.heap[b]? := fun b hb hne => hg.block b hb hne
 have pne : some p ≠ (Value.slice GA gr.length u).ownBlock := fun e => by have := (own_lt p e.symm).1; omega
 have q4 : Blk w4 p 68 #[.string tb, c1, c2, c3, .slice GA gr.length u, c5, .int .i64 lim, .bool ag] := (keep p (by omega) pne).trans Id.qb
 have far : ∀ b, b ≠ p → (w4.setCell ⟨p, 4, none⟩ (.slice An (gr.length + 1) cn)).heap[b]? = w4.heap[b]? := fun b hb => Below.heap_setCell _ _ _ _ hb
 have hl : (gr ++ [s]).length = gr.length + 1 := by simp
 refine ⟨An, cn, w4, hrun, q4.cell 4, q4.frozen 4, q4.lt, (Id.old.grown (fun k hk => (own_lt k hk).1) hg).trans (.set _ _ _ _), hp, by rw [hl]; exact q4.set_ 4 _, ?_⟩
 rw [hl, List.map_append]
 exact own_keepB hown (fun k hk => far k (by have := (hown.lt k hk).1; omega))

abbrev OGiven := Given × Bool
def ordCells (l : List OGiven) : List Value := (l.map fun g => [Value.string g.1.1.op, .int .i64 g.1.1.kind, .int .i64 g.1.1.col, .int .i64 g.1.1.val.kind, .int .i64 g.1.1.val.int, .string g.1.1.val.text, .bool g.1.1.val.bool, .slice g.1.2.1 g.1.2.2.1 g.1.2.2.2, .bool g.2]).flatten
theorem ordCells_len (l : List OGiven) : (ordCells l).length = l.length * 9 := by
 induction l with
 | nil => rfl
 | cons p l ih => simp only [ordCells, List.map_cons, List.flatten_cons, List.length_append, List.length_cons, List.length_nil] at ih ⊢; omega
theorem ordCells_append (a b : List OGiven) : ordCells (a ++ b) = ordCells a ++ ordCells b := by simp [ordCells]
theorem ordCells_at : ∀ {l : List OGiven} {i : Nat} {g : OGiven}, l[i]? = some g → ∀ k < 9, (ordCells l)[i * 9 + k]? = (ordCells [g])[k]?
 | [], _, _, h, _, _ => by simp at h
 | q :: l, 0, p, h, k, hk => by
  obtain rfl : q = p := by simpa using h
  have e : ordCells (q :: l) = ordCells [q] ++ ordCells l := by simp [ordCells]
  rw [e, Nat.zero_mul, Nat.zero_add, List.getElem?_append_left (by rw [ordCells_len]; exact hk)]
 | q :: l, i + 1, p, h, k, hk => by
  have ih := ordCells_at (l := l) (i := i) (g := p) (by simpa using h) k hk
  have e : ordCells (q :: l) = ordCells [q] ++ ordCells l := by simp [ordCells]
  have hl : (ordCells [q]).length = 9 := by rw [ordCells_len]; rfl
  rw [e, List.getElem?_append_right (by rw [hl]; omega), hl, show (i + 1) * 9 + k - 9 = i * 9 + k by omega]
  exact ih
theorem ordCells_one {l : List OGiven} : ∀ u ∈ ordCells l, u.oneCell' = true := by
 intro u hu
 obtain ⟨c, hc, huc⟩ := List.mem_flatten.1 hu
 obtain ⟨p, hp, rfl⟩ := List.mem_map.1 hc
 simp only [List.mem_cons, List.not_mem_nil, or_false] at huc
 rcases huc with rfl | rfl | rfl | rfl | rfl | rfl | rfl | rfl | rfl <;> rfl
theorem tSorts66 : SlT Tryz.prog 66 133 9 104 (.agg #[.string ⟨#[]⟩, .int .i64 0, .int .i64 0, .int .i64 0, .int .i64 0, .string ⟨#[]⟩, .bool false, .slice none 0 0, .bool false]) := ⟨Tryz.underlying66, info_of (by kernel_rfl), rfl, by decide⟩

/-- orders so far -/
structure L4 (cols : List Col) (p : Nat) (ws wr : World) (tb : ByteArray) (c1 c2 c3 c4 : Value) (lim : Int) (ag : Bool) (gs : List OGiven) (OA : Option Addr) (u : Nat) : Prop where
 old : Bx p ws wr
 ps : p < ws.heap.size
 qb : Blk wr p 68 #[.string tb, c1, c2, c3, c4, .slice OA gs.length u, .int .i64 lim, .bool ag]
 oO : wr.ownsRow ws.heap.size 133 9 (.slice OA gs.length u) gs.length (ordCells gs)
 kids : ∀ g ∈ gs, Typed cols true g.1.1 ∧ ExIn wr (fun b => ws.heap.size ≤ b ∧ some b ≠ (Value.slice OA gs.length u).ownBlock) g.1.1 g.1.2.1 g.1.2.2.1 g.1.2.2.2
variable {cols : List Col} {gs : List OGiven} {OA : Option Addr} {u : Nat}
theorem L4.below (I : L4 cols p ws wr tb c1 c2 c3 c4 lim ag gs OA u) {wx : World} (h : Below wr.heap.size wr wx) : L4 cols p ws wx tb c1 c2 c3 c4 lim ag gs OA u :=
 ⟨I.old.trans (.of h), I.ps, I.qb.below h, own_below I.oO h, fun g hg => ⟨(I.kids g hg).1, (I.kids g hg).2.keep (fun b _ hl => h.block b hl) (fun _ hb _ => hb) h.size⟩⟩
theorem L4.setAg (I : L4 cols p ws wr tb c1 c2 c3 c4 lim ag gs OA u) (q : Bool) : L4 cols p ws (wr.setCell ⟨p, 7, none⟩ (.bool q)) tb c1 c2 c3 c4 lim q gs OA u := by
 have hp := I.ps
 have far : ∀ b, b ≠ p → (wr.setCell ⟨p, 7, none⟩ (.bool q)).heap[b]? = wr.heap[b]? := fun b hb => Below.heap_setCell _ _ _ _ hb
 exact ⟨I.old.trans (.set _ _ _ _), hp, I.qb.set_ 7 _, own_keepB I.oO (fun k hk => far k (by have := (I.oO.lt k hk).1; omega)),
  fun g hg => ⟨(I.kids g hg).1, (I.kids g hg).2.keep (fun b hb _ => far b (by omega)) (fun _ hb _ => hb) (by simp [World.setCell])⟩⟩
theorem L4.push (I : L4 cols p ws wr tb c1 c2 c3 c4 lim ag gs OA u) (hm : gs.length + 1 ≤ 1048577) {e : Ex} {Ae : Option Addr} {ne ce : Nat} (dc : Bool) (hty : Typed cols true e) (he : ExIn wr (fun b => ws.heap.size ≤ b ∧ some b ≠ (Value.slice OA gs.length u).ownBlock) e Ae ne ce) {wd : World} (hd : Below wr.heap.size wr wd) (z : Blk wd wr.heap.size 133 #[.string e.op, .int .i64 e.kind, .int .i64 e.col, .int .i64 e.val.kind, .int .i64 e.val.int, .string e.val.text, .bool e.val.bool, .slice Ae ne ce, .bool dc]) :
  ∃ An cn w4, (Builtin.append_ #[66, 66] 66 #[.slice OA gs.length u, .slice (some ⟨wr.heap.size, 0, none⟩) 1 1]).run Tryz.prog wd = .ok (.slice An (gs.length + 1) cn) w4 ∧
   w4.cell? ⟨p, 5, none⟩ = some (.slice OA gs.length u) ∧ w4.frozen? ⟨p, 5, none⟩ = false ∧ p < w4.heap.size ∧ (∀ b, b < wd.heap.size → b ≠ p → some b ≠ (Value.slice OA gs.length u).ownBlock → (w4.setCell ⟨p, 5, none⟩ (.slice An (gs.length + 1) cn)).heap[b]? = wd.heap[b]?) ∧ L4 cols p ws (w4.setCell ⟨p, 5, none⟩ (.slice An (gs.length + 1) cn)) tb c1 c2 c3 c4 lim ag (gs ++ [((e, Ae, ne, ce), dc)]) An cn := by
 have hp := I.ps
 have hs0 := I.old.size
 have Id := I.below hd
 obtain ⟨An, cn, w4, hrun, hown, hg, hnew⟩ := app_some tSorts66 66 Id.oO (by have := hd.size; omega) ⟨wr.heap.size, 0, none⟩ 1 1 (by omega) (ordCells [((e, Ae, ne, ce), dc)]) (ordCells_len _) (fun j u hj => by
  rw [add_lit0, z.cell j]
  simpa [ordCells] using hj) ordCells_one (by unfold maxLen; omega) (by omega)
 have own_lt : ∀ k, (Value.slice OA gs.length u).ownBlock = some k → ws.heap.size ≤ k ∧ k < wr.heap.size := I.oO.lt
 have hs4 := hg.size
 have hsd := hd.size
 have keep : ∀ b, b < wd.heap.size → some b ≠ (Value.slice OA gs.length u).ownBlock → w4.heap[b]? = wd.heap[b]? := fun b hb hne => hg.block b hb hne
 have pne : some p ≠ (Value.slice OA gs.length u).ownBlock := fun e => by have := (own_lt p e.symm).1; omega
 have q4 : Blk w4 p 68 #[.string tb, c1, c2, c3, c4, .slice OA gs.length u, .int .i64 lim, .bool ag] := (keep p (by omega) pne).trans Id.qb
 have far : ∀ b, b ≠ p → (w4.setCell ⟨p, 5, none⟩ (.slice An (gs.length + 1) cn)).heap[b]? = w4.heap[b]? := fun b hb => Below.heap_setCell _ _ _ _ hb
 have newne : ∀ b, b < wd.heap.size → some b ≠ (Value.slice OA gs.length u).ownBlock → some b ≠ (Value.slice An (gs.length + 1) cn).ownBlock := fun b hb hne e => by
  rcases hnew with hn | hn
  ·exact hne (e.trans hn)
  ·rw [hn] at e; injection e with e; omega
 have hl : (gs ++ [((e, Ae, ne, ce), dc)]).length = gs.length + 1 := by simp
 refine ⟨An, cn, w4, hrun, q4.cell 5, q4.frozen 5, q4.lt, fun b hb hp hne => (far b hp).trans (keep b hb hne), (Id.old.grown (fun k hk => (own_lt k hk).1) hg).trans (.set _ _ _ _), hp, by rw [hl]; exact q4.set_ 5 _, ?_, ?_⟩
 ·rw [hl, ordCells_append]
  exact own_keepB hown (fun k hk => far k (by have := (hown.lt k hk).1; omega))
 ·rw [hl]
  have fin : ∀ {x A n c}, ExIn wd (fun b => ws.heap.size ≤ b ∧ some b ≠ (Value.slice OA gs.length u).ownBlock) x A n c → ExIn (w4.setCell ⟨p, 5, none⟩ (.slice An (gs.length + 1) cn)) (fun b => ws.heap.size ≤ b ∧ some b ≠ (Value.slice An (gs.length + 1) cn).ownBlock) x A n c := fun hx =>
   hx.keep (fun b hb hlt => (far b (by omega)).trans (keep b hlt hb.2)) (fun b hb hlt => ⟨hb.1, newne b hlt hb.2⟩) (by simp [World.setCell]; omega)
  intro g hgm
  rcases List.mem_append.1 hgm with h | h
  ·exact ⟨(I.kids g h).1, fin (Id.kids g h).2⟩
  ·obtain rfl : g = ((e, Ae, ne, ce), dc) := by simpa using h
   exact ⟨hty, fin (he.keep (fun b _ hl => hd.block b hl) (fun _ hb _ => hb) hd.size)⟩
end

/-- orders, as they are read, in blocks of a kind -/
structure OrdsIn (W : World) (S : Nat → Prop) (A : Option Addr) (n : Nat) (l : List (Ex × Bool)) : Prop where
 len : l.length = n
 at_ : ∀ (j : Nat) (e : Ex × Bool), l[j]? = some e → ∃ b off Ae ne ce, A = some ⟨b, off, none⟩ ∧ b < W.heap.size ∧ S b ∧ ExC W b (off + j * 9) e.1 Ae ne ce ∧ ExIn W S e.1 Ae ne ce ∧ W.cell? ⟨b, off + j * 9 + 8, none⟩ = some (.bool e.2)
theorem OrdsIn.keep {W W' : World} {S S' : Nat → Prop} (hW : ∀ b, S b → b < W.heap.size → W'.heap[b]? = W.heap[b]?) (hS : ∀ b, S b → b < W.heap.size → S' b) (hs : W.heap.size ≤ W'.heap.size) {A : Option Addr} {n : Nat} {l : List (Ex × Bool)} (h : OrdsIn W S A n l) : OrdsIn W' S' A n l :=
 ⟨h.len, fun j e hj => by
  obtain ⟨b, off, Ae, ne, ce, e1, hb, hsb, hc, hi, hd⟩ := h.at_ j e hj
  exact ⟨b, off, Ae, ne, ce, e1, Nat.lt_of_lt_of_le hb hs, hS b hsb hb, hc.kept (hW b hsb hb), hi.keep hW hS hs, (World.cell?_of_block (a := ⟨b, off + j * 9 + 8, none⟩) (hW b hsb hb)).trans hd⟩⟩
theorem OrdsIn.is {W : World} {S : Nat → Prop} {A : Option Addr} {n : Nat} {l : List (Ex × Bool)} (h : OrdsIn W S A n l) : OrdsAt W A n l :=
 ⟨h.len, fun j e hj => by
  obtain ⟨b, off, Ae, ne, ce, e1, hb, -, hc, hi, hd⟩ := h.at_ j e hj
  exact ⟨b, off, Ae, ne, ce, e1, hb, hc, hi.is, hd⟩⟩
/-- a row of cells, in blocks of a kind: each cell -/
structure CellsIn (W : World) (S : Nat → Prop) (A : Option Addr) (n : Nat) (l : List Value) : Prop where
 len : l.length = n
 at_ : ∀ (j : Nat) (e : Value), l[j]? = some e → ∃ b off, A = some ⟨b, off, none⟩ ∧ b < W.heap.size ∧ S b ∧ W.cell? ⟨b, off + j, none⟩ = some e
theorem CellsIn.keep {W W' : World} {S S' : Nat → Prop} (hW : ∀ b, S b → b < W.heap.size → W'.heap[b]? = W.heap[b]?) (hS : ∀ b, S b → b < W.heap.size → S' b) (hs : W.heap.size ≤ W'.heap.size) {A : Option Addr} {n : Nat} {l : List Value} (h : CellsIn W S A n l) : CellsIn W' S' A n l :=
 ⟨h.len, fun j e hj => by
  obtain ⟨b, off, e1, hb, hsb, hc⟩ := h.at_ j e hj
  exact ⟨b, off, e1, Nat.lt_of_lt_of_le hb hs, hS b hsb hb, (World.cell?_of_block (a := ⟨b, off + j, none⟩) (hW b hsb hb)).trans hc⟩⟩
theorem own_cells {W : World} {B n : Nat} {e : TypeId} {A : Option Addr} {c : Nat} {xs : List Value} (h : W.ownsRow B e 1 (.slice A n c) n xs) : CellsIn W (fun b => B ≤ b) A n xs :=
 ⟨by have := h.1; omega, fun j u hj => by
  obtain ⟨g, e1, hg, hB, hc, -⟩ := own_at h hj
  exact ⟨g, 0, e1, hg, hB, by rw [Nat.zero_add]; exact hc⟩⟩
/-- a row of one's own reads as expressions -/
theorem own_exs {W : World} {B : Nat} {S : Nat → Prop} {t : TypeId} {A : Option Addr} {c : Nat} {gs : List Given} (h : W.ownsRow B t 8 (.slice A gs.length c) gs.length (exCells gs)) (hS : ∀ b, (Value.slice A gs.length c).ownBlock = some b → S b) (hk : ∀ g ∈ gs, ExIn W S g.1 g.2.1 g.2.2.1 g.2.2.2) : ExsIn W S A gs.length (gs.map (·.1)) :=
 ⟨by simp, fun j e hj => by
  rw [List.getElem?_map] at hj
  obtain ⟨g, hg, rfl⟩ := Option.map_eq_some_iff.1 hj
  have hx : ∀ k, k < 8 → (exCells gs)[j * 8 + k]? = (exCells [g])[k]? := fun k hk => exCells_at hg k hk
  have h0 := hx 0 (by omega)
  obtain ⟨b, e1, hb, -, -, -⟩ := own_at h h0
  have hc : ∀ k (hk : k < 8) u, (exCells [g])[k]? = some u → W.cell? ⟨b, 0 + j * 8 + k, none⟩ = some u := fun k hk u hu => by
   obtain ⟨b', e', -, -, c, -⟩ := own_at h ((hx k hk).trans hu)
   rw [e1] at e'
   injection e' with e'; injection e' with e'; subst e'
   rw [Nat.zero_add]; exact c
  exact ⟨b, 0, g.2.1, g.2.2.1, g.2.2.2, e1, hb, hS b (by rw [e1]; rfl), ⟨hc 0 (by omega) _ rfl, hc 1 (by omega) _ rfl, hc 2 (by omega) _ rfl, hc 3 (by omega) _ rfl, hc 4 (by omega) _ rfl, hc 5 (by omega) _ rfl, hc 6 (by omega) _ rfl, hc 7 (by omega) _ rfl⟩, hk g (List.mem_of_getElem? hg)⟩⟩
theorem own_ords {W : World} {B : Nat} {S : Nat → Prop} {t : TypeId} {A : Option Addr} {c : Nat} {gs : List OGiven} (h : W.ownsRow B t 9 (.slice A gs.length c) gs.length (ordCells gs)) (hS : ∀ b, (Value.slice A gs.length c).ownBlock = some b → S b) (hk : ∀ g ∈ gs, ExIn W S g.1.1 g.1.2.1 g.1.2.2.1 g.1.2.2.2) : OrdsIn W S A gs.length (gs.map fun g => (g.1.1, g.2)) :=
 ⟨by simp, fun j e hj => by
  rw [List.getElem?_map] at hj
  obtain ⟨g, hg, rfl⟩ := Option.map_eq_some_iff.1 hj
  have hx : ∀ k, k < 9 → (ordCells gs)[j * 9 + k]? = (ordCells [g])[k]? := fun k hk => ordCells_at hg k hk
  have h0 := hx 0 (by omega)
  obtain ⟨b, e1, hb, -, -, -⟩ := own_at h h0
  have hc : ∀ k (hk : k < 9) u, (ordCells [g])[k]? = some u → W.cell? ⟨b, 0 + j * 9 + k, none⟩ = some u := fun k hk u hu => by
   obtain ⟨b', e', -, -, c, -⟩ := own_at h ((hx k hk).trans hu)
   rw [e1] at e'
   injection e' with e'; injection e' with e'; subst e'
   rw [Nat.zero_add]; exact c
  exact ⟨b, 0, g.1.2.1, g.1.2.2.1, g.1.2.2.2, e1, hb, hS b (by rw [e1]; rfl), ⟨hc 0 (by omega) _ rfl, hc 1 (by omega) _ rfl, hc 2 (by omega) _ rfl, hc 3 (by omega) _ rfl, hc 4 (by omega) _ rfl, hc 5 (by omega) _ rfl, hc 6 (by omega) _ rfl, hc 7 (by omega) _ rfl⟩, hk g (List.mem_of_getElem? hg), hc 8 (by omega) _ rfl⟩⟩

end Go.Proofs.YtbcmmecilheicaaGreatDoor
