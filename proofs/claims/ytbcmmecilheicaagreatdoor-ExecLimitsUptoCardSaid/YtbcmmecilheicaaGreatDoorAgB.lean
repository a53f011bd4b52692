/- exec's part.aggregate, of every operation that goes over many rows. What exec's part.filled keeps; what an expression is filled to. -/
import Derived.Test.YtbcmmecilheicaaGreatDoorAgA
import Derived.Test.YtbcmmecilheicaaGreatDoorFilA
import Derived.Test.YtbcmmecilheicaaGreatDoorTyA

/- exec's part.aggregate, of every operation that goes over many rows. -/
namespace Go.Proofs.YtbcmmecilheicaaGreatDoor
open Go Go.RowKit

abbrev LRow := List (Int × List Val)
/-- what comes of an operation that goes over many rows -/
noncomputable def aggV (lb : List ByteArray) (rs : LRow) (op : ByteArray) : List Ex → Res
 | [] => (Val.ofInt rs.length, none)
 | y :: _ => if op = ⟨#[114, 111, 119, 115]⟩ then (Val.ofInt rs.length, none) else if op = ⟨#[99, 111, 117, 110, 116]⟩ then cntP lb y rs else if op = ⟨#[109, 105, 110]⟩ then minP lb y rs else if op = ⟨#[109, 97, 120]⟩ then maxP lb y rs else sumP lb y rs
theorem isIn_mem {z : ByteArray} {l : List ByteArray} (h : isIn z l = true) : z ∈ l := by
 obtain ⟨y, hy, e⟩ := List.any_eq_true.1 h
 have : z = y := toList_inj (by simpa using e)
 exact this ▸ hy
theorem agg160g (w : World) (RA : Option Addr) (rn rc : Nat) (rs : LRow) (hr : RowsAt w RA rn rs) (hn : rn ≤ 1000000) (htx : RowsTx rs) (i1 : Option Addr) (n1 c1 : Nat) (i2 : Option Addr) (n2 c2 : Nat) (x : Ex) (A : Option Addr) (n c : Nat) (hx : ExIs w x A n c) (hop : isIn x.op aggs = true) (har : x.op = ⟨#[114, 111, 119, 115]⟩ ∨ x.args ≠ [])
  (lb : List ByteArray) (LA : Option Addr) (ln lc : Nat) (hlb : StrsAt w LA ln lb) (hlt : ∀ z ∈ lb, z.size ≤ TB) :
  Calls Tryz.prog 160 #[.agg #[.slice RA rn rc, .slice i1 n1 c1, .slice i2 n2 c2], exAgg x A n c, .slice LA ln lc] w fun e w' => e = .returned (resV (aggV lb rs x.op x.args)) ∧ Hid (Below w.heap.size w w') := by
 cases hx with
 | mk op kind col v args A n c len small tx b off hA As ns cs cells sub =>
  have hop : isIn op aggs = true := hop
  have har : op = ⟨#[114, 111, 119, 115]⟩ ∨ args ≠ [] := har
  show Calls Tryz.prog 160 #[.agg #[.slice RA rn rc, .slice i1 n1 c1, .slice i2 n2 c2], .agg #[.string op, .int .i64 kind, .int .i64 col, .int .i64 v.kind, .int .i64 v.int, .string v.text, .bool v.bool, .slice A n c], .slice LA ln lc] w fun e w' => e = .returned (resV (aggV lb rs op args)) ∧ Hid (Below w.heap.size w w')
  by_cases hro : op = ⟨#[114, 111, 119, 115]⟩
  ·subst hro
   have hv : aggV lb rs ⟨#[114, 111, 119, 115]⟩ args = (Val.ofInt rn, none) := by
    cases args <;> simp [aggV, hr.len]
   rw [hv]
   exact rows82 w RA rn rc i1 n1 c1 i2 n2 c2 kind col v A n c LA ln lc
  ·have hne : args ≠ [] := har.resolve_left hro
   match args, hne, len, cells, sub with
   | y :: ys, _, len, cells, sub =>
    have hn0 : 0 < n := by rw [← len]; exact Nat.succ_pos _
    obtain ⟨rfl, hb⟩ := hA hn0
    have hc0 := cells 0 y rfl
    rw [Nat.zero_mul, Nat.add_zero] at hc0
    have hm := isIn_mem hop
    simp only [aggs, List.mem_cons, List.not_mem_nil, or_false] at hm
    have hni : (0 : Int) < n := by omega
    rcases hm with rfl | rfl | rfl | rfl | rfl
    ·exact absurd rfl hro
    ·exact cnt82 w RA rn rc rs hr hn htx i1 n1 c1 i2 n2 c2 kind col v b off n c hb hni y _ _ _ hc0 (sub 0 y rfl) lb LA ln lc hlb hlt
    ·exact sum82 w RA rn rc rs hr hn htx i1 n1 c1 i2 n2 c2 kind col v b off n c hb hni y _ _ _ hc0 (sub 0 y rfl) lb LA ln lc hlb hlt
    ·exact min82 w RA rn rc rs hr hn htx i1 n1 c1 i2 n2 c2 kind col v b off n c hb hni y _ _ _ hc0 (sub 0 y rfl) lb LA ln lc hlb hlt
    ·exact max82 w RA rn rc rs hr hn htx i1 n1 c1 i2 n2 c2 kind col v b off n c hb hni y _ _ _ hc0 (sub 0 y rfl) lb LA ln lc hlb hlt

end Go.Proofs.YtbcmmecilheicaaGreatDoor

/- What exec's part.filled keeps; what an expression is filled to. -/
namespace Go.Proofs.YtbcmmecilheicaaGreatDoor
open Go Go.RowKit

mutual
/-- an expression whose operations over many rows are reckoned -/
noncomputable def fillP (lb : List ByteArray) (rs : LRow) : Ex → Ex × Option Int
 | .mk op kind col v args => if (isIn op aggs || aggBL args) = false then (.mk op kind col v args, none)
  else if isIn op aggs = true then (.mk ⟨#[108, 105, 116]⟩ kind 0 (aggV lb rs op args).1 [], (aggV lb rs op args).2)
  else match fillL lb rs args with
   | (_, some er) => (zeroEx, some er)
   | (l, none) => (.mk op kind col v l, none)
noncomputable def fillL (lb : List ByteArray) (rs : LRow) : List Ex → List Ex × Option Int
 | [] => ([], none)
 | x :: xs => match fillP lb rs x with
  | (_, some er) => ([], some er)
  | (y, none) => match fillL lb rs xs with
   | (_, some er) => ([], some er)
   | (l, none) => (y :: l, none)
end
theorem fillP_mk (lb : List ByteArray) (rs : LRow) (op : ByteArray) (kind col : Int) (v : Val) (args : List Ex) : fillP lb rs (.mk op kind col v args) = if (isIn op aggs || aggBL args) = false then (.mk op kind col v args, none)
  else if isIn op aggs = true then (.mk ⟨#[108, 105, 116]⟩ kind 0 (aggV lb rs op args).1 [], (aggV lb rs op args).2)
  else match fillL lb rs args with
   | (_, some er) => (zeroEx, some er)
   | (l, none) => (.mk op kind col v l, none) := by rw [fillP]
theorem fillL_nil (lb : List ByteArray) (rs : LRow) : fillL lb rs [] = ([], none) := by rw [fillL]
theorem fillL_cons (lb : List ByteArray) (rs : LRow) (x : Ex) (xs : List Ex) : fillL lb rs (x :: xs) = match fillP lb rs x with
  | (_, some er) => ([], some er)
  | (y, none) => match fillL lb rs xs with
   | (_, some er) => ([], some er)
   | (l, none) => (y :: l, none) := by rw [fillL]
/-- what stands so far, ahead of what is to come -/
def comb (ys : List Ex) : List Ex × Option Int → List Ex × Option Int
 | (_, some er) => ([], some er)
 | (l, none) => (ys ++ l, none)
theorem fillL_step {lb : List ByteArray} {rs : LRow} {args ys : List Ex} {i : Nat} {x y : Ex} (h : fillL lb rs args = comb ys (fillL lb rs (args.drop i))) (hx : args[i]? = some x) (hy : fillP lb rs x = (y, none)) : fillL lb rs args = comb (ys ++ [y]) (fillL lb rs (args.drop (i + 1))) := by
 obtain ⟨h1, rfl⟩ := List.getElem?_eq_some_iff.1 hx
 rw [h, List.drop_eq_getElem_cons h1, fillL_cons, hy]
 rcases fillL lb rs (args.drop (i + 1)) with ⟨l, er⟩
 cases er with
 | some er => rfl
 | none => simp [comb]
theorem fillL_stop {lb : List ByteArray} {rs : LRow} {args ys : List Ex} {i : Nat} {x y : Ex} {er : Int} (h : fillL lb rs args = comb ys (fillL lb rs (args.drop i))) (hx : args[i]? = some x) (hy : fillP lb rs x = (y, some er)) : fillL lb rs args = ([], some er) := by
 obtain ⟨h1, rfl⟩ := List.getElem?_eq_some_iff.1 hx
 rw [h, List.drop_eq_getElem_cons h1, fillL_cons, hy]
 rfl
/-- operations that go over many rows have what they want -/
inductive ArOk : Ex → Prop
 | mk (op : ByteArray) (kind col : Int) (v : Val) (args : List Ex) (har : isIn op aggs = true → op = ⟨#[114, 111, 119, 115]⟩ ∨ args ≠ []) (sub : ∀ (j : Nat) (e : Ex), args[j]? = some e → ArOk e) : ArOk (.mk op kind col v args)
theorem typed_ar {cols : List Col} {g : Bool} {y : Ex} (h : Typed cols g y) : ArOk y := by
 induction h with
 | mk g op kind col v args ok sub ih =>
  refine .mk _ _ _ _ _ (fun hin => ?_) ih
  have hm := isIn_mem hin
  simp only [aggs, List.mem_cons, List.not_mem_nil, or_false] at hm
  rcases ok with ⟨rfl, -⟩ | ⟨rfl, -⟩ | ⟨rfl, -⟩ | ⟨a, rfl, -⟩ | ⟨a, b, rfl, -⟩ | ⟨-, ⟨rfl, -⟩ | ⟨a, rfl, -⟩⟩
  ·simp at hm
  ·simp at hm
  ·simp at hm
  ·exact .inr (by simp)
  ·exact .inr (by simp)
  ·exact .inl rfl
  ·exact .inr (by simp)
theorem ExIs.inn {W : World} {x : Ex} {A : Option Addr} {n c : Nat} (h : ExIs W x A n c) : ExIn W (fun b => b < W.heap.size) x A n c := by
 induction h with
 | mk op kind col v args A n c len small tx b off hA As ns cs cells sub ih =>
  exact .mk op kind col v args A n c len small tx b off (fun h => ⟨(hA h).1, (hA h).2, (hA h).2⟩) As ns cs cells ih

/-- what filled keeps -/
structure FI (w : World) (lo : Nat) (a0 a1 a2 : Value) (op : ByteArray) (kd cl : Int) (v : Val) (A : Option Addr) (n c : Nat) (wr : World) (gs : List Given) (Ao : Option Addr) (co : Nat) : Prop where
 old : Below w.heap.size w wr
 size : w.heap.size + 3 ≤ wr.heap.size
 pb : Blk wr w.heap.size 147 #[a0, a1, a2]
 xb : Blk wr (w.heap.size + 1) 51 #[.string op, .int .i64 kd, .int .i64 cl, .int .i64 v.kind, .int .i64 v.int, .string v.text, .bool v.bool, .slice A n c]
 res : Blk wr (w.heap.size + 2) 51 #[.string ⟨#[]⟩, .int .i64 0, .int .i64 0, .int .i64 0, .int .i64 0, .string ⟨#[]⟩, .bool false, .slice none 0 0]
 own : wr.ownsRow (w.heap.size + 3) 51 8 (.slice Ao gs.length co) gs.length (exCells gs)
 kids : ∀ g ∈ gs, ExIn wr (fun b => (b < lo ∨ w.heap.size + 3 ≤ b) ∧ some b ≠ (Value.slice Ao gs.length co).ownBlock) g.1 g.2.1 g.2.2.1 g.2.2.2
section
variable {w : World} {lo : Nat} {a0 a1 a2 : Value} {op : ByteArray} {kd cl : Int} {v : Val} {A : Option Addr} {n c : Nat} {wr : World} {gs : List Given} {Ao : Option Addr} {co : Nat}
theorem FI.below (I : FI w lo a0 a1 a2 op kd cl v A n c wr gs Ao co) {wx : World} (h : Below wr.heap.size wr wx) : FI w lo a0 a1 a2 op kd cl v A n c wx gs Ao co :=
 ⟨bt h I.old, Nat.le_trans I.size h.size, I.pb.below h, I.xb.below h, I.res.below h, own_below I.own h, fun g hg => (I.kids g hg).keep (fun b _ hl => h.block b hl) (fun _ h _ => h) h.size⟩
/-- one round -/
theorem FI.push (I : FI w lo a0 a1 a2 op kd cl v A n c wr gs Ao co) (hlo : lo ≤ w.heap.size) (hs : (gs.length + 1) * 96 ≤ TB) {w2 : World} (h2 : Below wr.heap.size wr w2) {e : Ex} {A2 : Option Addr} {m c2 : Nat} (hin : ExIn w2 (fun b => b < lo ∨ wr.heap.size ≤ b) e A2 m c2) :
  ∃ An cn' w4, (Builtin.append_ #[49, 49] 49 #[.slice Ao gs.length co, .slice (some ⟨w2.heap.size, 0, none⟩) 1 1]).run Tryz.prog (w2.alloc (.cells #[.string e.op, .int .i64 e.kind, .int .i64 e.col, .int .i64 e.val.kind, .int .i64 e.val.int, .string e.val.text, .bool e.val.bool, .slice A2 m c2] 51)) = .ok (.slice An (gs.length + 1) cn') w4 ∧
   FI w lo a0 a1 a2 op kd cl v A n c w4 (gs ++ [(e, A2, m, c2)]) An cn' := by
 have hsz := I.size
 have h2s := h2.size
 have hb3 : Below w2.heap.size w2 (w2.alloc (.cells #[.string e.op, .int .i64 e.kind, .int .i64 e.col, .int .i64 e.val.kind, .int .i64 e.val.int, .string e.val.text, .bool e.val.bool, .slice A2 m c2] 51)) := below_alloc _ _
 have ow := own_below (own_below I.own h2) hb3
 have zn : Blk (w2.alloc (.cells #[.string e.op, .int .i64 e.kind, .int .i64 e.col, .int .i64 e.val.kind, .int .i64 e.val.int, .string e.val.text, .bool e.val.bool, .slice A2 m c2] 51)) w2.heap.size 51 #[.string e.op, .int .i64 e.kind, .int .i64 e.col, .int .i64 e.val.kind, .int .i64 e.val.int, .string e.val.text, .bool e.val.bool, .slice A2 m c2] := Blk.new w2 51 _
 obtain ⟨An, cn', w4, hr, hown, hg, hnew⟩ := app_some tExprs 49 ow (by simp; omega) ⟨w2.heap.size, 0, none⟩ 1 1 (by omega) (exCells [(e, A2, m, c2)]) (exCells_len _) (fun j x hj => by
  rw [add_lit0, zn.cell j]
  simpa [exCells] using hj) exCells_one (by unfold maxLen; unfold TB at hs; omega) hs
 rw [← exCells_append] at hown
 have own_lt : ∀ k, (Value.slice Ao gs.length co).ownBlock = some k → w.heap.size + 3 ≤ k ∧ k < wr.heap.size := I.own.lt
 have size4 : w2.heap.size + 1 ≤ w4.heap.size := by have := hg.size; simpa using this
 have keep : ∀ b, b < w2.heap.size → some b ≠ (Value.slice Ao gs.length co).ownBlock → w4.heap[b]? = w2.heap[b]? := fun b hb hne => by
  rw [hg.block b (by simp; omega) hne]
  exact Below.heap_alloc w2 _ b hb
 have old2 : ∀ b, b < w.heap.size + 3 → some b ≠ (Value.slice Ao gs.length co).ownBlock := fun b hb hc => by have := (own_lt b hc.symm).1; omega
 have all4 : ∀ b, b < w.heap.size + 3 → w4.heap[b]? = wr.heap[b]? := fun b hb => (keep b (by omega) (old2 b hb)).trans (h2.block b (by omega))
 have hl : (gs ++ [(e, A2, m, c2)]).length = gs.length + 1 := by simp
 refine ⟨An, cn', w4, hr, ?_, by omega, (all4 _ (by omega)).trans I.pb, (all4 _ (by omega)).trans I.xb, (all4 _ (by omega)).trans I.res, ?_, ?_⟩
 ·refine ⟨hg.os.trans (h2.os.trans I.old.os), hg.tape.trans (h2.tape.trans I.old.tape), hg.output.trans (h2.output.trans I.old.output), by omega, fun b hb => ?_⟩
  rw [all4 b (by omega)]
  exact I.old.block b hb
 ·rw [hl]
  exact hown
 ·rw [hl]
  intro g hgm
  have fin : ∀ {S : Nat → Prop}, (∀ b, S b → b < w2.heap.size → (b < lo ∨ w.heap.size + 3 ≤ b) ∧ some b ≠ (Value.slice Ao gs.length co).ownBlock) → ∀ {x A n c}, ExIn w2 S x A n c → ExIn w4 (fun b => (b < lo ∨ w.heap.size + 3 ≤ b) ∧ some b ≠ (Value.slice An (gs.length + 1) cn').ownBlock) x A n c := by
   intro S hS x A n c hx
   refine hx.keep (fun b hb hlt => keep b hlt (hS b hb hlt).2) (fun b hb hlt => ⟨(hS b hb hlt).1, fun hc => ?_⟩) (by omega)
   rcases hnew with hn | hn
   ·exact (hS b hb hlt).2 (hc.trans hn)
   ·rw [hn] at hc
    injection hc with hc
    simp at hc; omega
  rcases List.mem_append.1 hgm with hgm | hgm
  ·exact fin (S := fun b => (b < lo ∨ w.heap.size + 3 ≤ b) ∧ some b ≠ (Value.slice Ao gs.length co).ownBlock) (fun b hb _ => hb) ((I.kids g hgm).keep (fun b _ hlt => h2.block b hlt) (fun b hb _ => hb) h2.size)
  ·obtain rfl : g = (e, A2, m, c2) := by simpa using hgm
   exact fin (S := fun b => b < lo ∨ wr.heap.size ≤ b) (fun b hb _ => ⟨by rcases hb with h | h; exact .inl h; exact .inr (by omega), fun hc => by
    have := own_lt b hc.symm
    rcases hb with h | h <;> omega⟩) hin
/-- at the end -/
theorem FI.end_ (I : FI w lo a0 a1 a2 op kd cl v A n c wr gs Ao co) (hs : gs.length * 96 ≤ TB) (tx : v.text.size ≤ TB) : ExIn wr (fun b => b < lo ∨ w.heap.size + 3 ≤ b) (.mk op kd cl v (gs.map (·.1))) Ao gs.length co := by
 have at_ : ∀ (j : Nat) (e : Ex), (gs.map (·.1))[j]? = some e → ∃ g, gs[j]? = some g ∧ g.1 = e := fun j e hj => by
  rw [List.getElem?_map] at hj
  obtain ⟨g, hg, e1⟩ := Option.map_eq_some_iff.1 hj
  exact ⟨g, hg, e1⟩
 obtain ⟨h1, h2⟩ := I.own
 rcases h2 with ⟨h2, h3⟩ | ⟨g0, cap, cur, h2, h3, h4, h5, h6, h7, h8⟩
 ·have h0 : gs = [] := List.length_eq_zero_iff.1 (by omega)
  subst h0
  exact .mk op kd cl v _ _ _ co rfl hs tx 0 0 (fun h => absurd h (Nat.lt_irrefl 0)) (fun _ => none) (fun _ => 0) (fun _ => 0) (fun j e hj => by simp at hj) (fun j e hj => by simp at hj)
 ·injection h2 with e1 e2 e3
  subst e1 e3
  refine .mk op kd cl v _ _ _ co (by simp) hs tx g0 0 (fun _ => ⟨rfl, (Array.getElem?_eq_some_iff.1 h4).1, .inr h3⟩) (fun j => ((gs[j]?).map (·.2.1)).getD none) (fun j => ((gs[j]?).map (·.2.2.1)).getD 0) (fun j => ((gs[j]?).map (·.2.2.2)).getD 0) (fun j e hj => ?_) (fun j e hj => ?_)
  ·obtain ⟨g, hg, rfl⟩ := at_ j e hj
   have hc : ∀ k, k < 8 → wr.cell? ⟨g0, 0 + j * 8 + k, none⟩ = (exCells [g])[k]? := fun k hk => by
    have hx := exCells_at hg k hk
    rw [Nat.zero_add, cell_of_row wr g0 _ cur 51 (0, 0) h4, ← hx, ← h8]
    have hlt : j * 8 + k < gs.length * 8 := by have := (List.getElem?_eq_some_iff.1 hg).1; omega
    rw [List.getElem?_take_of_lt hlt]
    simp
   simp only [hg, Option.map_some, Option.getD_some]
   exact ⟨hc 0 (by omega), hc 1 (by omega), hc 2 (by omega), hc 3 (by omega), hc 4 (by omega), hc 5 (by omega), hc 6 (by omega), hc 7 (by omega)⟩
  ·obtain ⟨g, hg, rfl⟩ := at_ j e hj
   simp only [hg, Option.map_some, Option.getD_some]
   exact (I.kids g (List.mem_of_getElem? hg)).keep (fun _ _ _ => rfl) (fun b hb _ => hb.1) (Nat.le_refl _)
end

end Go.Proofs.YtbcmmecilheicaaGreatDoor
