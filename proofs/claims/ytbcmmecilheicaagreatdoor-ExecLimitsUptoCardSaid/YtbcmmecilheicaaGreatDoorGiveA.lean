/- What give keeps from round to round. give: the walk. -/
import Derived.Test.YtbcmmecilheicaaGreatDoorEvCE
import Derived.Deep.RegionLaw

/- What give keeps from round to round. -/
namespace Go.Proofs.YtbcmmecilheicaaGreatDoor
open Go Go.RowKit

/-- an expression in memory, all of whose blocks are of a kind -/
inductive ExIn (W : World) (S : Nat → Prop) : Ex → Option Addr → Nat → Nat → Prop
 | mk (op : ByteArray) (kind col : Int) (v : Val) (args : List Ex) (A : Option Addr) (n c : Nat) (len : args.length = n) (small : n * 96 ≤ TB) (tx : v.text.size ≤ TB) (b off : Nat) (hA : 0 < n → A = some ⟨b, off, none⟩ ∧ b < W.heap.size ∧ S b)
   (As : Nat → Option Addr) (ns cs : Nat → Nat) (cells : ∀ (j : Nat) (e : Ex), args[j]? = some e → ExC W b (off + j * 8) e (As j) (ns j) (cs j)) (sub : ∀ (j : Nat) (e : Ex), args[j]? = some e → ExIn W S e (As j) (ns j) (cs j)) : ExIn W S (.mk op kind col v args) A n c
theorem ExIn.is {W : World} {S : Nat → Prop} {x : Ex} {A : Option Addr} {n c : Nat} (h : ExIn W S x A n c) : ExIs W x A n c := by
 induction h with
 | mk op kind col v args A n c len small tx b off hA As ns cs cells sub ih => exact .mk op kind col v args A n c len small tx b off (fun h => ⟨(hA h).1, (hA h).2.1⟩) As ns cs cells ih
theorem ExC.kept {W W' : World} {b o : Nat} {x : Ex} {A : Option Addr} {n c : Nat} (h : ExC W b o x A n c) (hW : W'.heap[b]? = W.heap[b]?) : ExC W' b o x A n c := by
 have k : ∀ i, W'.cell? ⟨b, i, none⟩ = W.cell? ⟨b, i, none⟩ := fun i => World.cell?_of_block (a := ⟨b, i, none⟩) hW
 exact ⟨(k _).trans h.c0, (k _).trans h.c1, (k _).trans h.c2, (k _).trans h.c3, (k _).trans h.c4, (k _).trans h.c5, (k _).trans h.c6, (k _).trans h.c7⟩
theorem ExIn.keep {W W' : World} {S S' : Nat → Prop} (hW : ∀ b, S b → b < W.heap.size → W'.heap[b]? = W.heap[b]?) (hS : ∀ b, S b → b < W.heap.size → S' b) (hs : W.heap.size ≤ W'.heap.size) {x : Ex} {A : Option Addr} {n c : Nat} (h : ExIn W S x A n c) : ExIn W' S' x A n c := by
 induction h with
 | mk op kind col v args A n c len small tx b off hA As ns cs cells sub ih =>
  have hp : ∀ (j : Nat) (e : Ex), args[j]? = some e → b < W.heap.size ∧ S b := fun j e hj => (hA (by have := (List.getElem?_eq_some_iff.1 hj).1; omega)).2
  exact .mk op kind col v args A n c len small tx b off (fun h0 => ⟨(hA h0).1, Nat.lt_of_lt_of_le (hA h0).2.1 hs, hS b (hA h0).2.2 (hA h0).2.1⟩) As ns cs (fun j e hj => (cells j e hj).kept (hW b (hp j e hj).2 (hp j e hj).1)) ih

abbrev Given := Ex × Option Addr × Nat × Nat
def exCells (l : List Given) : List Value := (l.map fun g => [Value.string g.1.op, .int .i64 g.1.kind, .int .i64 g.1.col, .int .i64 g.1.val.kind, .int .i64 g.1.val.int, .string g.1.val.text, .bool g.1.val.bool, .slice g.2.1 g.2.2.1 g.2.2.2]).flatten
theorem exCells_len (l : List Given) : (exCells l).length = l.length * 8 := by
 induction l with
 | nil => rfl
 | cons p l ih => simp only [exCells, List.map_cons, List.flatten_cons, List.length_append, List.length_cons, List.length_nil] at ih ⊢; omega
theorem exCells_append (a b : List Given) : exCells (a ++ b) = exCells a ++ exCells b := by simp [exCells]
theorem exCells_at : ∀ {l : List Given} {i : Nat} {g : Given}, l[i]? = some g → ∀ k < 8, (exCells l)[i * 8 + k]? = (exCells [g])[k]?
 | [], _, _, h, _, _ => by simp at h
 | q :: l, 0, p, h, k, hk => by
  obtain rfl : q = p := by simpa using h
  have e : exCells (q :: l) = exCells [q] ++ exCells l := by simp [exCells]
  rw [e, Nat.zero_mul, Nat.zero_add, List.getElem?_append_left (by rw [exCells_len]; exact hk)]
 | q :: l, i + 1, p, h, k, hk => by
  have ih := exCells_at (l := l) (i := i) (g := p) (by simpa using h) k hk
  have e : exCells (q :: l) = exCells [q] ++ exCells l := by simp [exCells]
  have hl : (exCells [q]).length = 8 := by rw [exCells_len]; rfl
  rw [e, List.getElem?_append_right (by rw [hl]; omega), hl, show (i + 1) * 8 + k - 8 = i * 8 + k by omega]
  exact ih
theorem exCells_one {l : List Given} : ∀ u ∈ exCells l, u.oneCell' = true := by
 intro u hu
 obtain ⟨c, hc, huc⟩ := List.mem_flatten.1 hu
 obtain ⟨p, hp, rfl⟩ := List.mem_map.1 hc
 simp only [List.mem_cons, List.not_mem_nil, or_false] at huc
 rcases huc with rfl | rfl | rfl | rfl | rfl | rfl | rfl | rfl <;> rfl
theorem info37 : ∃ i, Tryz.prog.info? 51 = some i ∧ i.zero = some (.agg #[.string ⟨#[]⟩, .int .i64 0, .int .i64 0, .int .i64 0, .int .i64 0, .string ⟨#[]⟩, .bool false, .slice none 0 0]) ∧ i.size = 8 ∧ i.bytes = 96 := by
 have h : (Tryz.prog.info? 51).map (fun i => (i.zero, i.size, i.bytes)) = some (some (.agg #[.string ⟨#[]⟩, .int .i64 0, .int .i64 0, .int .i64 0, .int .i64 0, .string ⟨#[]⟩, .bool false, .slice none 0 0]), 8, 96) := by kernel_rfl
 obtain ⟨i0, hi, hz0, hz1, hz2⟩ := info_parts h
 exact ⟨i0, hi, hz0, hz1, hz2⟩
/-- one expression appended; the new row's block is the old one's, or was not there -/
theorem app_ex {W : World} {B : Nat} {Ao : Option Addr} {co : Nat} {gs : List Given} {n : Nat} (h : W.ownsRow B 51 8 (.slice Ao n co) n (exCells gs)) (hn : (n + 1) * 96 ≤ TB) (hB : B ≤ W.heap.size) (x : Given) (g : Nat) (z : Blk W g 51 (exCells [x]).toArray) :
  ∃ An cn W', (Builtin.append_ #[49, 49] 49 #[.slice Ao n co, .slice (some ⟨g, 0, none⟩) 1 1]).run Tryz.prog W = .ok (.slice An (n + 1) cn) W' ∧ W'.ownsRow B 51 8 (.slice An (n + 1) cn) (n + 1) (exCells (gs ++ [x])) ∧ W.grownBy W' (Value.slice Ao n co).ownBlock ∧
   ((Value.slice An (n + 1) cn).ownBlock = (Value.slice Ao n co).ownBlock ∨ (Value.slice An (n + 1) cn).ownBlock = some W.heap.size) := by
 obtain ⟨i, hi, hz, hsz, hby⟩ := info37
 have hnews : ∀ j u, (exCells [x])[j]? = some u → W.cell? ((⟨g, 0, none⟩ : Addr).add j) = some u := fun j u hj => by
  rw [add_lit0, z.cell j]
  simpa using hj
 obtain ⟨v', W', hr, hown, hg, -⟩ := run_append_own (P := Tryz.prog) W B 49 49 51 i _ 8 96 Tryz.underlying49 hi hz hsz hby rfl (by decide) (.slice Ao n co) n (exCells gs) h ⟨g, 0, none⟩ 1 1 (exCells [x]) (exCells_len [x]) hnews exCells_one (by unfold maxLen; unfold TB at hn; omega) (by unfold TB at hn; omega) hB
 rw [← exCells_append] at hown
 obtain ⟨An, cn, rfl⟩ := own_slice hown
 refine ⟨An, cn, W', hr, hown, hg, ?_⟩
 have hb1 : (n + 1) * i.bytes ≤ 140737488355328 := by rw [hby]; exact hn
 obtain ⟨h1, h2⟩ := h
 rcases h2 with ⟨h2, rfl⟩ | ⟨g0, cap, cur, h2, h3, h4, h5, h6, h7, h8⟩
 ·rw [h2] at hr
  have hr2 := run_append_nil (P := Tryz.prog) W 49 49 51 i _ Tryz.underlying49 hi hz ⟨g, 0, none⟩ 1 1 (exCells [x]) (by rw [exCells_len, hsz]; rfl) hnews (by omega) (by omega) (by rw [hby]; omega)
  rw [hr] at hr2
  injection hr2 with e1 e2
  injection e1 with e1
  exact .inr (by rw [e1]; rfl)
 ·rw [h2] at hr ⊢
  by_cases hroom : n + 1 ≤ cap
  ·have hr2 := run_append_room (P := Tryz.prog) W 49 49 51 i Tryz.underlying49 hi g0 n cap cur h4 ⟨g, 0, none⟩ 1 1 (exCells [x]) (by rw [exCells_len, hsz]; rfl) hnews exCells_one hroom (by rw [hsz, exCells_len, h7]; simp; omega)
   rw [hr] at hr2
   injection hr2 with e1 e2
   injection e1 with e1
   exact .inl (by rw [e1]; rfl)
  ·have hold : ∀ j u, (exCells gs)[j]? = some u → W.cell? ((⟨g0, 0, none⟩ : Addr).add j) = some u := fun j u hj => by
    rw [add_lit0, cell_of_row W g0 j cur 51 (0, 0) h4]
    rw [← h8] at hj
    have hlt : j < n * 8 := by
     have := (List.getElem?_eq_some_iff.1 hj).1
     simp at this; omega
    rw [List.getElem?_take_of_lt hlt] at hj
    simpa using hj
   have hr2 := run_append_grow (P := Tryz.prog) W 49 49 51 i _ Tryz.underlying49 hi hz ⟨g0, 0, none⟩ n cap (exCells gs) (by rw [h1, hsz]) hold ⟨g, 0, none⟩ 1 1 (exCells [x]) (by rw [exCells_len, hsz]; rfl) hnews (by omega) (by unfold TB at hn; omega) (growslice_fits (by omega) hb1)
   rw [hr] at hr2
   injection hr2 with e1 e2
   injection e1 with e1
   exact .inr (by rw [e1]; rfl)

/-- what give keeps -/
structure GI (W : World) (op : ByteArray) (kind col : Int) (v : Val) (args : List Ex) (XA : Option Addr) (xn xc : Nat) (wr : World) (i : Nat) (Ao : Option Addr) (co : Nat) : Prop where
 old : Below W.heap.size W wr
 size : W.heap.size + 3 ≤ wr.heap.size
 xb : Blk wr W.heap.size 38 #[.string op, .int .i64 kind, .int .i64 col, .int .i64 v.kind, .int .i64 v.int, .string v.text, .bool v.bool, .slice XA xn xc]
 res : Blk wr (W.heap.size + 1) 51 #[.string ⟨#[]⟩, .int .i64 0, .int .i64 0, .int .i64 0, .int .i64 0, .string ⟨#[]⟩, .bool false, .slice none 0 0]
 y : Blk wr (W.heap.size + 2) 51 #[.string op, .int .i64 kind, .int .i64 col, .int .i64 v.kind, .int .i64 v.int, .string v.text, .bool v.bool, .slice Ao i co]
 kids : ∃ gs : List Given, wr.ownsRow (W.heap.size + 3) 51 8 (.slice Ao i co) i (exCells gs) ∧ gs.map (·.1) = args.take i ∧ ∀ g ∈ gs, ExIn wr (fun b => W.heap.size + 3 ≤ b ∧ some b ≠ (Value.slice Ao i co).ownBlock) g.1 g.2.1 g.2.2.1 g.2.2.2

theorem set_own {W : World} {B n size : Nat} {e : TypeId} {v : Value} {xs : List Value} (h : W.ownsRow B e size v n xs) {p : Addr} (hp : some p.block ≠ v.ownBlock) (u : Value) : (W.setCell p u).ownsRow B e size v n xs := by
 obtain ⟨h1, h2⟩ := h
 refine ⟨h1, ?_⟩
 rcases h2 with h2 | ⟨g, cap, cur, e1, e2, e3, e4⟩
 ·exact .inl h2
 ·refine .inr ⟨g, cap, cur, e1, e2, ?_, e4⟩
  rw [Below.heap_setCell W p u g (fun e => hp (by rw [e1]; exact congrArg some e.symm))]
  exact e3
/-- one round -/
theorem give_step {W wr : World} {op : ByteArray} {kind col : Int} {v : Val} {args : List Ex} {XA : Option Addr} {xn xc : Nat} {i : Nat} {Ao : Option Addr} {co : Nat} (I : GI W op kind col v args XA xn xc wr i Ao co) (hs : (i + 1) * 96 ≤ TB) {e : Ex} (he : args[i]? = some e) {w2 : World} (h2 : Below wr.heap.size wr w2) {A2 : Option Addr} {m c2 : Nat} (hin : ExIn w2 (fun b => wr.heap.size ≤ b) e A2 m c2) :
  ∃ An cn w4, (Builtin.append_ #[49, 49] 49 #[.slice Ao i co, .slice (some ⟨w2.heap.size, 0, none⟩) 1 1]).run Tryz.prog (w2.alloc (.cells #[.string e.op, .int .i64 e.kind, .int .i64 e.col, .int .i64 e.val.kind, .int .i64 e.val.int, .string e.val.text, .bool e.val.bool, .slice A2 m c2] 51)) = .ok (.slice An (i + 1) cn) w4 ∧
   w4.cell? ⟨W.heap.size + 2, 7, none⟩ = some (.slice Ao i co) ∧ w4.frozen? ⟨W.heap.size + 2, 7, none⟩ = false ∧ GI W op kind col v args XA xn xc (w4.setCell ⟨W.heap.size + 2, 7, none⟩ (.slice An (i + 1) cn)) (i + 1) An cn := by
 obtain ⟨gs, k1, k2, k3⟩ := I.kids
 have hsz := I.size
 have h2s := h2.size
 have hb3 : Below w2.heap.size w2 (w2.alloc (.cells #[.string e.op, .int .i64 e.kind, .int .i64 e.col, .int .i64 e.val.kind, .int .i64 e.val.int, .string e.val.text, .bool e.val.bool, .slice A2 m c2] 51)) := below_alloc _ _
 have ow := own_below (own_below k1 h2) hb3
 obtain ⟨An, cn, w4, hr, hown, hg, hnew⟩ := app_ex ow hs (by simp; omega) (e, A2, m, c2) w2.heap.size (Blk.new w2 51 _)
 have own_lt : ∀ k, (Value.slice Ao i co).ownBlock = some k → W.heap.size + 3 ≤ k ∧ k < wr.heap.size := k1.lt
 have size4 : w2.heap.size + 1 ≤ w4.heap.size := by have := hg.size; simpa using this
 -- a block below the row's base, or not the row's
 have keep : ∀ b, b < w2.heap.size → some b ≠ (Value.slice Ao i co).ownBlock → w4.heap[b]? = w2.heap[b]? := fun b hb hne => by
  rw [hg.block b (by simp; omega) hne]
  exact Below.heap_alloc w2 _ b hb
 have old2 : ∀ b, b < W.heap.size + 3 → some b ≠ (Value.slice Ao i co).ownBlock := fun b hb hc => by have := (own_lt b hc.symm).1; omega
 have y4 : Blk w4 (W.heap.size + 2) 51 #[.string op, .int .i64 kind, .int .i64 col, .int .i64 v.kind, .int .i64 v.int, .string v.text, .bool v.bool, .slice Ao i co] :=
  (keep _ (by omega) (old2 _ (by omega))).trans ((h2.block _ (by omega)).trans I.y)
 refine ⟨An, cn, w4, hr, y4.cell 7, y4.frozen 7, ?_, ?_, ?_, ?_, ?_, ?_⟩
 ·refine ⟨?_, ?_, ?_, ?_, fun k hk => ?_⟩
  ·exact hg.os.trans (h2.os.trans I.old.os)
  ·exact hg.tape.trans (h2.tape.trans I.old.tape)
  ·exact hg.output.trans (h2.output.trans I.old.output)
  ·simp [World.setCell]; omega
  ·rw [Below.heap_setCell _ _ _ _ (by show k ≠ W.heap.size + 2; omega), keep k (by omega) (old2 k (by omega)), h2.block k (by omega), I.old.block k hk]
 ·simp [World.setCell]; omega
 ·have r4 : Blk w4 W.heap.size 38 _ := (keep _ (by omega) (old2 _ (by omega))).trans ((h2.block _ (by omega)).trans I.xb)
  exact (Below.heap_setCell _ _ _ _ (by show W.heap.size ≠ W.heap.size + 2; omega)).trans r4
 ·have r4 : Blk w4 (W.heap.size + 1) 51 _ := (keep _ (by omega) (old2 _ (by omega))).trans ((h2.block _ (by omega)).trans I.res)
  exact (Below.heap_setCell _ _ _ _ (by show W.heap.size + 1 ≠ W.heap.size + 2; omega)).trans r4
 ·exact y4.set_ 7 (.slice An (i + 1) cn)
 ·have hnb : some (W.heap.size + 2) ≠ (Value.slice An (i + 1) cn).ownBlock := fun hc => by have := (hown.lt _ hc.symm).1; omega
  refine ⟨gs ++ [(e, A2, m, c2)], set_own hown hnb _, ?_, ?_⟩
  ·rw [List.map_append, k2, List.take_add_one, he]; rfl
  ·intro g hgm
   have fin : ∀ {S : Nat → Prop}, (∀ b, S b → b < w2.heap.size → W.heap.size + 3 ≤ b ∧ some b ≠ (Value.slice Ao i co).ownBlock) → ∀ {x A n c}, ExIn w2 S x A n c → ExIn (w4.setCell ⟨W.heap.size + 2, 7, none⟩ (.slice An (i + 1) cn)) (fun b => W.heap.size + 3 ≤ b ∧ some b ≠ (Value.slice An (i + 1) cn).ownBlock) x A n c := by
    intro S hS x A n c hx
    refine hx.keep (fun b hb hlt => ?_) (fun b hb hlt => ⟨(hS b hb hlt).1, fun hc => ?_⟩) (by simp [World.setCell]; omega)
    ·rw [Below.heap_setCell _ _ _ _ (by show b ≠ W.heap.size + 2; have := (hS b hb hlt).1; omega), keep b hlt (hS b hb hlt).2]
    ·rcases hnew with hn | hn
     ·exact (hS b hb hlt).2 (hc.trans hn)
     ·rw [hn] at hc
      injection hc with hc
      simp at hc; omega
   rcases List.mem_append.1 hgm with hgm | hgm
   ·refine fin (S := fun b => W.heap.size + 3 ≤ b ∧ some b ≠ (Value.slice Ao i co).ownBlock) (fun b hb _ => hb) ((k3 g hgm).keep (fun b _ hlt => h2.block b hlt) (fun b hb _ => hb) h2.size)
   ·obtain rfl : g = (e, A2, m, c2) := by simpa using hgm
    exact fin (S := fun b => wr.heap.size ≤ b) (fun b hb _ => ⟨by omega, fun hc => by have := (own_lt b hc.symm).2; omega⟩) hin
/-- at the end -/
theorem give_end {W wr : World} {op : ByteArray} {kind col : Int} {v : Val} {args : List Ex} {XA : Option Addr} {xn xc : Nat} {Ao : Option Addr} {co : Nat} {n : Nat} (I : GI W op kind col v args XA xn xc wr n Ao co) (len : args.length = n) (hs : n * 96 ≤ TB) (tx : v.text.size ≤ TB) : ExIn wr (fun b => W.heap.size + 3 ≤ b) (.mk op kind col v args) Ao n co := by
 obtain ⟨gs, k1, k2, k3⟩ := I.kids
 rw [← len, List.take_length] at k2
 have hgl : gs.length = n := by rw [← len, ← k2]; simp
 obtain ⟨h1, h2⟩ := k1
 have at_ : ∀ (j : Nat) (e : Ex), args[j]? = some e → ∃ g, gs[j]? = some g ∧ g.1 = e := fun j e hj => by
  rw [← k2, List.getElem?_map] at hj
  obtain ⟨g, hg, e1⟩ := Option.map_eq_some_iff.1 hj
  exact ⟨g, hg, e1⟩
 rcases h2 with ⟨h2, h3⟩ | ⟨g0, cap, cur, h2, h3, h4, h5, h6, h7, h8⟩
 ·exact .mk op kind col v args Ao n co len hs tx 0 0 (fun h => by omega) (fun _ => none) (fun _ => 0) (fun _ => 0) (fun j e hj => by have := (List.getElem?_eq_some_iff.1 hj).1; omega) (fun j e hj => by have := (List.getElem?_eq_some_iff.1 hj).1; omega)
 ·injection h2 with e1 e2 e3
  subst e1 e3
  refine .mk op kind col v args _ n co len hs tx g0 0 (fun _ => ⟨rfl, (Array.getElem?_eq_some_iff.1 h4).1, h3⟩) (fun j => ((gs[j]?).map (·.2.1)).getD none) (fun j => ((gs[j]?).map (·.2.2.1)).getD 0) (fun j => ((gs[j]?).map (·.2.2.2)).getD 0) (fun j e hj => ?_) (fun j e hj => ?_)
  ·obtain ⟨g, hg, rfl⟩ := at_ j e hj
   have hc : ∀ k, k < 8 → wr.cell? ⟨g0, 0 + j * 8 + k, none⟩ = (exCells [g])[k]? := fun k hk => by
    have hx := exCells_at hg k hk
    rw [Nat.zero_add, cell_of_row wr g0 _ cur 51 (0, 0) h4, ← hx, ← h8]
    have hlt : j * 8 + k < n * 8 := by have := (List.getElem?_eq_some_iff.1 hg).1; omega
    rw [List.getElem?_take_of_lt hlt]
    simp
   simp only [hg, Option.map_some, Option.getD_some]
   exact ⟨hc 0 (by omega), hc 1 (by omega), hc 2 (by omega), hc 3 (by omega), hc 4 (by omega), hc 5 (by omega), hc 6 (by omega), hc 7 (by omega)⟩
  ·obtain ⟨g, hg, rfl⟩ := at_ j e hj
   simp only [hg, Option.map_some, Option.getD_some]
   exact (k3 g (List.mem_of_getElem? hg)).keep (fun _ _ _ => rfl) (fun b hb _ => hb.1) (Nat.le_refl _)

end Go.Proofs.YtbcmmecilheicaaGreatDoor

/- give: the walk. -/
namespace Go.Proofs.YtbcmmecilheicaaGreatDoor
open Go Go.RowKit

/-- an expression of one's own comes back -/
def GivePost (x : Ex) (n : Nat) (w : World) (e : Ending) (w' : World) : Prop := ∃ (A' : Option Addr) (c' : Nat), e = .returned (exAgg x A' n c') ∧ Hid (ExIn w' (fun b => w.heap.size ≤ b) x A' n c') ∧ Hid (Below w.heap.size w w')
theorem results_e {fn : Func} {s : Nat} (h : fn.results = #[.cell s 51]) {tmps : Array Value} {W : World} {b : Nat} {c0 c1 c2 c3 c4 c5 c6 c7 : Value} (hs : tmps[s]? = some (.pointer (some ⟨b, 0, none⟩))) (z : Blk W b 51 #[c0, c1, c2, c3, c4, c5, c6, c7]) :
  (results fn tmps).run Tryz.prog W = .ok (.agg #[c0, c1, c2, c3, c4, c5, c6, c7]) W := by
 have q0 := z.cell 0
 have q1 := z.cell 1
 have q2 := z.cell 2
 have q3 := z.cell 3
 have q4 := z.cell 4
 have q5 := z.cell 5
 have q6 := z.cell 6
 have q7 := z.cell 7
 simp [results, h, hs, go_sem, q0, q1, q2, q3, q4, q5, q6, q7]
theorem ex_set {W : World} {b : Nat} {t : TypeId} {c0 c1 c2 c3 c4 c5 c6 c7 : Value} (z : Blk W b t #[c0, c1, c2, c3, c4, c5, c6, c7]) (d0 d1 d2 d3 d4 d5 d6 d7 : Value) :
  Blk ((((((((W.setCell ⟨b, 0, none⟩ d0).setCell ⟨b, 1, none⟩ d1).setCell ⟨b, 2, none⟩ d2).setCell ⟨b, 3, none⟩ d3).setCell ⟨b, 4, none⟩ d4).setCell ⟨b, 5, none⟩ d5).setCell ⟨b, 6, none⟩ d6).setCell ⟨b, 7, none⟩ d7) b t #[d0, d1, d2, d3, d4, d5, d6, d7] := by
 have z0 : Blk _ b t #[d0, c1, c2, c3, c4, c5, c6, c7] := z.set_ 0 d0
 have z1 : Blk _ b t #[d0, d1, c2, c3, c4, c5, c6, c7] := z0.set_ 1 d1
 have z2 : Blk _ b t #[d0, d1, d2, c3, c4, c5, c6, c7] := z1.set_ 2 d2
 have z3 : Blk _ b t #[d0, d1, d2, d3, c4, c5, c6, c7] := z2.set_ 3 d3
 have z4 : Blk _ b t #[d0, d1, d2, d3, d4, c5, c6, c7] := z3.set_ 4 d4
 have z5 : Blk _ b t #[d0, d1, d2, d3, d4, d5, c6, c7] := z4.set_ 5 d5
 have z6 : Blk _ b t #[d0, d1, d2, d3, d4, d5, d6, c7] := z5.set_ 6 d6
 exact z6.set_ 7 d7

theorem ex_far {W : World} {b b' : Nat} (h : b' ≠ b) (d0 d1 d2 d3 d4 d5 d6 d7 : Value) :
  ((((((((W.setCell ⟨b, 0, none⟩ d0).setCell ⟨b, 1, none⟩ d1).setCell ⟨b, 2, none⟩ d2).setCell ⟨b, 3, none⟩ d3).setCell ⟨b, 4, none⟩ d4).setCell ⟨b, 5, none⟩ d5).setCell ⟨b, 6, none⟩ d6).setCell ⟨b, 7, none⟩ d7).heap[b']? = W.heap[b']? := by
 rw [Below.heap_setCell _ _ _ _ h, Below.heap_setCell _ _ _ _ h, Below.heap_setCell _ _ _ _ h, Below.heap_setCell _ _ _ _ h, Below.heap_setCell _ _ _ _ h, Below.heap_setCell _ _ _ _ h, Below.heap_setCell _ _ _ _ h, Below.heap_setCell _ _ _ _ h]
theorem step_append_runI {P : Program} {ops : Array Oper} {o : Oper} {a : Act} {w : World} {K : Act → World → Prop} {Q : Exit → Act → World → Prop} {E : Prop}
  (hg : o.guard = none) (d x : Operand) (dT sT : TypeId) (hop : o.op = Op.call { callee := Callee.builtin Builtin.append, args := #[d, x], argTypes := #[dT, sT] })
  (v u : Value) (hd : a.eval d = v) (hx : a.eval x = u) {v' : Value} {w' : World} (hr : (Builtin.append_ #[dT, sT] o.type #[v, u]).run P w = .ok v' w') (hK : K (a.put o.dst v') w') :
  if Region.wanted o (yielded ops a.tmps) = true then Oper.wp P o a w K Q else E := by
 have hw : Region.wanted o (yielded ops a.tmps) = true := by simp [Region.wanted, hg]
 rw [if_pos hw]
 unfold Oper.wp
 simp [execOp, hop, resolve, invoke, builtin, hd, hx, hr, Result.andThen]
 exact hK

end Go.Proofs.YtbcmmecilheicaaGreatDoor
