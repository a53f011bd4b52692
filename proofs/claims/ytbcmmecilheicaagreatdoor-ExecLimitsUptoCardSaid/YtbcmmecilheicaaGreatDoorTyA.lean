/- What the document's check lets through (kinds of an expression's parts); what such an expression is reckoned to. In plain Lean. What the document's check of an expression keeps in memory; the kinds that it asks for. The document's check of an expression: what its rounds leave. -/
import Derived.Test.YtbcmmecilheicaaGreatDoorOfA
import Derived.Test.YtbcmmecilheicaaGreatDoorEvHI
import Derived.Test.YtbcmmecilheicaaGreatDoorApp
import Derived.Test.YtbcmmecilheicaaGreatDoorGiveA
import Derived.Deep.RegionLaw

/- What the document's check lets through (kinds of an expression's parts); what such an expression is reckoned to. In plain Lean. -/
namespace Go.Proofs.YtbcmmecilheicaaGreatDoor
open Go Go.RowKit

/-- the operation that goes over many rows -/
def aggOp (op : ByteArray) : Bool := inP op aggsR
def cmpsR : List ByteArray := [⟨#[61]⟩, ⟨#[60, 62]⟩, ⟨#[60]⟩, ⟨#[60, 61]⟩, ⟨#[62]⟩, ⟨#[62, 61]⟩]
def sumsR : List ByteArray := [⟨#[43]⟩, ⟨#[45]⟩, ⟨#[42]⟩, ⟨#[47]⟩, ⟨#[37]⟩]
/-- which kinds may stand where; g: an operation that goes over many rows may stand here -/
def OkOp (cols : List Col) (g : Bool) (op : ByteArray) (kind col : Int) (v : Val) (args : List Ex) : Prop :=
 (op = ⟨#[108, 105, 116]⟩ ∧ args = [] ∧ validV v ∧ kind = v.kind) ∨
 (op = ⟨#[108, 97, 98, 101, 108]⟩ ∧ args = [] ∧ kind = 2) ∨
 (op = ⟨#[99, 111, 108]⟩ ∧ args = [] ∧ ∃ (i : Nat) (c : Col), col = (i : Int) ∧ cols[i]? = some c ∧ kind = c.kind) ∨
 (∃ a, args = [a] ∧ ((op = ⟨#[110, 101, 103]⟩ ∧ kind = 1 ∧ fitP a.kind 1 = true) ∨ (op = ⟨#[110, 111, 116]⟩ ∧ kind = 3 ∧ fitP a.kind 3 = true) ∨ (op = ⟨#[105, 115, 110, 117, 108, 108]⟩ ∧ kind = 3) ∨ (op = ⟨#[110, 111, 116, 110, 117, 108, 108]⟩ ∧ kind = 3))) ∨
 (∃ a b, args = [a, b] ∧ fitP b.kind a.kind = true ∧ (((op = ⟨#[97, 110, 100]⟩ ∨ op = ⟨#[111, 114]⟩) ∧ kind = 3 ∧ fitP a.kind 3 = true ∧ fitP b.kind 3 = true) ∨ (op ∈ cmpsR ∧ kind = 3) ∨ (op = ⟨#[124, 124]⟩ ∧ kind = 2 ∧ fitP a.kind 2 = true ∧ fitP b.kind 2 = true) ∨ (op ∈ sumsR ∧ kind = 1 ∧ fitP a.kind 1 = true ∧ fitP b.kind 1 = true))) ∨
 (g = true ∧ ((op = ⟨#[114, 111, 119, 115]⟩ ∧ args = [] ∧ kind = 1) ∨ ∃ a, args = [a] ∧ ((op = ⟨#[99, 111, 117, 110, 116]⟩ ∧ kind = 1) ∨ (op = ⟨#[115, 117, 109]⟩ ∧ kind = 1 ∧ fitP a.kind 1 = true) ∨ ((op = ⟨#[109, 105, 110]⟩ ∨ op = ⟨#[109, 97, 120]⟩) ∧ kind = a.kind))))
/-- an expression that was let through -/
inductive Typed (cols : List Col) : Bool → Ex → Prop
 | mk (g : Bool) (op : ByteArray) (kind col : Int) (v : Val) (args : List Ex) (ok : OkOp cols g op kind col v args) (sub : ∀ (j : Nat) (e : Ex), args[j]? = some e → Typed cols (g && !aggOp op) e) : Typed cols g (.mk op kind col v args)

theorem len_two' {α : Type} {l : List α} (h : l.length = 2) : ∃ u v, l = [u, v] := by
 match l, h with
 | [u, v], _ => exact ⟨u, v, rfl⟩

end Go.Proofs.YtbcmmecilheicaaGreatDoor

/- What the document's check of an expression keeps in memory; the kinds that it asks for. -/
namespace Go.Proofs.YtbcmmecilheicaaGreatDoor
open Go Go.RowKit

theorem in_mem {s : ByteArray} {l : List ByteArray} : inP s l = true ↔ s ∈ l := by
 unfold inP
 rw [List.any_eq_true]
 constructor
 ·rintro ⟨z, hz, e⟩
  have : z = s := toList_inj (by simpa using e)
  exact this ▸ hz
 ·intro h
  exact ⟨s, h, by simp⟩
def sums7R : List ByteArray := [⟨#[110, 101, 103]⟩, ⟨#[43]⟩, ⟨#[45]⟩, ⟨#[42]⟩, ⟨#[47]⟩, ⟨#[37]⟩, ⟨#[115, 117, 109]⟩]
def logicsR : List ByteArray := [⟨#[110, 111, 116]⟩, ⟨#[97, 110, 100]⟩, ⟨#[111, 114]⟩]
/-- the kind that an expression has, and the one that its Args are asked for -/
def KA (cols : List Col) (op : ByteArray) (v : Val) (args : List Ex) (kind col asked : Int) (u : Val) : Prop :=
 (op = ⟨#[108, 105, 116]⟩ ∧ u = v ∧ kind = v.kind ∧ asked = 0) ∨
 (op = ⟨#[108, 97, 98, 101, 108]⟩ ∧ kind = 2 ∧ asked = 0) ∨
 (op = ⟨#[99, 111, 108]⟩ ∧ asked = 0 ∧ ∃ (i : Nat) (c : Col), col = (i : Int) ∧ cols[i]? = some c ∧ kind = c.kind) ∨
 (op ∈ sums7R ∧ kind = 1 ∧ asked = 1) ∨
 ((op = ⟨#[99, 111, 117, 110, 116]⟩ ∨ op = ⟨#[114, 111, 119, 115]⟩) ∧ kind = 1 ∧ asked = 0) ∨
 (op = ⟨#[124, 124]⟩ ∧ kind = 2 ∧ asked = 2) ∨
 ((op = ⟨#[109, 105, 110]⟩ ∨ op = ⟨#[109, 97, 120]⟩) ∧ asked = 0 ∧ ∃ a l, args = a :: l ∧ kind = a.kind) ∨
 (op ∈ logicsR ∧ kind = 3 ∧ asked = 3) ∨
 ((op ≠ ⟨#[108, 105, 116]⟩ ∧ op ≠ ⟨#[108, 97, 98, 101, 108]⟩ ∧ op ≠ ⟨#[99, 111, 108]⟩ ∧ op ∉ sums7R ∧ op ≠ ⟨#[99, 111, 117, 110, 116]⟩ ∧ op ≠ ⟨#[114, 111, 119, 115]⟩ ∧ op ≠ ⟨#[124, 124]⟩ ∧ op ≠ ⟨#[109, 105, 110]⟩ ∧ op ≠ ⟨#[109, 97, 120]⟩ ∧ op ∉ logicsR) ∧ kind = 3 ∧ asked = 0)
theorem among_mem {op : ByteArray} {l : List ByteArray} (h : Among op l) : op ∈ l := by
 obtain ⟨z, hz, e⟩ := h
 rw [← toList_inj e]
 exact hz
theorem agg_true {op : ByteArray} {g : Bool} (h : aggOp op = true → g = true) (hm : op ∈ aggsR) : g = true := h (in_mem.2 hm)
set_option maxHeartbeats 8000000 in
theorem ok_of {cols : List Col} {g : Bool} {op : ByteArray} {v : Val} {args : List Ex} {kind col asked : Int} {u : Val} (ar : (args.length = 0 ∧ Among op opsN) ∨ (args.length = 1 ∧ Among op opsO) ∨ (args.length = 2 ∧ Among op opsT)) (hg : aggOp op = true → g = true)
  (hv : validV v) (hk : KA cols op v args kind col asked u) (hf : ∀ (j : Nat) (a : Ex), args[j]? = some a → fitP a.kind asked = true ∧ ∀ b, args[0]? = some b → fitP a.kind b.kind = true) : OkOp cols g op kind col u args := by
 rcases ar with ⟨hl, hm⟩ | ⟨hl, hm⟩ | ⟨hl, hm⟩
 ·obtain rfl : args = [] := List.length_eq_zero_iff.1 hl
  have hm := among_mem hm
  simp only [opsN, List.mem_cons, List.not_mem_nil, or_false] at hm
  rcases hm with rfl | rfl | rfl | rfl
  ·simp [KA, sums7R, logicsR] at hk
   obtain ⟨rfl, rfl, -⟩ := hk
   exact .inl ⟨rfl, rfl, hv, rfl⟩
  ·simp [KA, sums7R, logicsR] at hk
   obtain ⟨-, i, rfl, c, hc, rfl⟩ := hk
   exact .inr (.inr (.inl ⟨rfl, rfl, i, c, rfl, hc, rfl⟩))
  ·simp [KA, sums7R, logicsR] at hk
   exact .inr (.inl ⟨rfl, rfl, hk.1⟩)
  ·simp [KA, sums7R, logicsR] at hk
   exact .inr (.inr (.inr (.inr (.inr ⟨agg_true hg (by simp [aggsR]), .inl ⟨rfl, rfl, hk.1⟩⟩))))
 ·obtain ⟨a, rfl⟩ : ∃ a, args = [a] := List.length_eq_one_iff.1 hl
  have ha := (hf 0 a rfl).1
  have hm := among_mem hm
  simp only [opsO, List.mem_cons, List.not_mem_nil, or_false] at hm
  rcases hm with rfl | rfl | rfl | rfl | rfl | rfl | rfl | rfl
  ·simp [KA, sums7R, logicsR] at hk
   obtain ⟨rfl, rfl⟩ := hk
   exact .inr (.inr (.inr (.inl ⟨a, rfl, .inl ⟨rfl, rfl, ha⟩⟩)))
  ·simp [KA, sums7R, logicsR] at hk
   obtain ⟨rfl, rfl⟩ := hk
   exact .inr (.inr (.inr (.inl ⟨a, rfl, .inr (.inl ⟨rfl, rfl, ha⟩)⟩)))
  ·simp [KA, sums7R, logicsR] at hk
   exact .inr (.inr (.inr (.inl ⟨a, rfl, .inr (.inr (.inl ⟨rfl, hk.1⟩))⟩)))
  ·simp [KA, sums7R, logicsR] at hk
   exact .inr (.inr (.inr (.inl ⟨a, rfl, .inr (.inr (.inr ⟨rfl, hk.1⟩))⟩)))
  ·simp [KA, sums7R, logicsR] at hk
   exact .inr (.inr (.inr (.inr (.inr ⟨agg_true hg (by simp [aggsR]), .inr ⟨a, rfl, .inl ⟨rfl, hk.1⟩⟩⟩))))
  ·simp [KA, sums7R, logicsR] at hk
   obtain ⟨rfl, rfl⟩ := hk
   exact .inr (.inr (.inr (.inr (.inr ⟨agg_true hg (by simp [aggsR]), .inr ⟨a, rfl, .inr (.inl ⟨rfl, rfl, ha⟩)⟩⟩))))
  ·simp [KA, sums7R, logicsR] at hk
   exact .inr (.inr (.inr (.inr (.inr ⟨agg_true hg (by simp [aggsR]), .inr ⟨a, rfl, .inr (.inr ⟨.inl rfl, hk.2⟩)⟩⟩))))
  ·simp [KA, sums7R, logicsR] at hk
   exact .inr (.inr (.inr (.inr (.inr ⟨agg_true hg (by simp [aggsR]), .inr ⟨a, rfl, .inr (.inr ⟨.inr rfl, hk.2⟩)⟩⟩))))
 ·obtain ⟨a, b, rfl⟩ : ∃ a b, args = [a, b] := len_two' hl
  have ha := (hf 0 a rfl).1
  have hb := (hf 1 b rfl).1
  have hab := (hf 1 b rfl).2 a rfl
  have hm := among_mem hm
  simp only [opsT, List.mem_cons, List.not_mem_nil, or_false] at hm
  rcases hm with rfl | rfl | rfl | rfl | rfl | rfl | rfl | rfl | rfl | rfl | rfl | rfl | rfl | rfl
  all_goals simp [KA, sums7R, logicsR] at hk
  all_goals obtain ⟨rfl, rfl⟩ := hk
  all_goals refine .inr (.inr (.inr (.inr (.inl ⟨a, b, rfl, hab, ?_⟩))))
  ·exact .inl ⟨.inl rfl, rfl, ha, hb⟩
  ·exact .inl ⟨.inr rfl, rfl, ha, hb⟩
  ·exact .inr (.inl ⟨by simp [cmpsR], rfl⟩)
  ·exact .inr (.inl ⟨by simp [cmpsR], rfl⟩)
  ·exact .inr (.inl ⟨by simp [cmpsR], rfl⟩)
  ·exact .inr (.inl ⟨by simp [cmpsR], rfl⟩)
  ·exact .inr (.inl ⟨by simp [cmpsR], rfl⟩)
  ·exact .inr (.inl ⟨by simp [cmpsR], rfl⟩)
  ·exact .inr (.inr (.inr ⟨by simp [sumsR], rfl, ha, hb⟩))
  ·exact .inr (.inr (.inr ⟨by simp [sumsR], rfl, ha, hb⟩))
  ·exact .inr (.inr (.inl ⟨rfl, rfl, ha, hb⟩))
  ·exact .inr (.inr (.inr ⟨by simp [sumsR], rfl, ha, hb⟩))
  ·exact .inr (.inr (.inr ⟨by simp [sumsR], rfl, ha, hb⟩))
  ·exact .inr (.inr (.inr ⟨by simp [sumsR], rfl, ha, hb⟩))

theorem tRefs : SlT Tryz.prog 36 38 8 96 (.agg #[.string ⟨#[]⟩, .int .i64 0, .int .i64 0, .int .i64 0, .int .i64 0, .string ⟨#[]⟩, .bool false, .slice none 0 0]) := ⟨Tryz.underlying36, info_of (by kernel_rfl), rfl, by decide⟩

/-- what the check keeps: its arguments, its result, the expression that it makes -/
structure OI (w : World) (tn : ByteArray) (CA : Option Addr) (cn cc : Nat) (op : ByteArray) (v : Val) (name : ByteArray) (A : Option Addr) (n c : Nat) (wr : World) (gs : List Given) (k cl : Int) (u : Val) (Ao : Option Addr) (co : Nat) : Prop where
 old : Below w.heap.size w wr
 size : w.heap.size + 4 ≤ wr.heap.size
 tb : Blk wr w.heap.size 24 #[.string tn, .slice CA cn cc]
 xb : Blk wr (w.heap.size + 1) 29 #[.string op, .int .i64 v.kind, .int .i64 v.int, .string v.text, .bool v.bool, .string name, .slice A n c]
 res : Blk wr (w.heap.size + 2) 38 #[.string ⟨#[]⟩, .int .i64 0, .int .i64 0, .int .i64 0, .int .i64 0, .string ⟨#[]⟩, .bool false, .slice none 0 0]
 y : Blk wr (w.heap.size + 3) 38 #[.string op, .int .i64 k, .int .i64 cl, .int .i64 u.kind, .int .i64 u.int, .string u.text, .bool u.bool, .slice Ao gs.length co]
 own : wr.ownsRow (w.heap.size + 4) 38 8 (.slice Ao gs.length co) gs.length (exCells gs)
 kids : ∀ g ∈ gs, ExIn wr (fun b => w.heap.size + 4 ≤ b ∧ some b ≠ (Value.slice Ao gs.length co).ownBlock) g.1 g.2.1 g.2.2.1 g.2.2.2
section
variable {w : World} {tn : ByteArray} {CA : Option Addr} {cn cc : Nat} {op : ByteArray} {v : Val} {name : ByteArray} {A : Option Addr} {n c : Nat} {wr : World} {gs : List Given} {k cl : Int} {u : Val} {Ao : Option Addr} {co : Nat}
theorem OI.below (I : OI w tn CA cn cc op v name A n c wr gs k cl u Ao co) {wx : World} (h : Below wr.heap.size wr wx) : OI w tn CA cn cc op v name A n c wx gs k cl u Ao co :=
 ⟨bt h I.old, Nat.le_trans I.size h.size, I.tb.below h, I.xb.below h, I.res.below h, I.y.below h, own_below I.own h, fun g hg => (I.kids g hg).keep (fun b _ hl => h.block b hl) (fun _ h _ => h) h.size⟩
theorem OI.upd (I : OI w tn CA cn cc op v name A n c wr gs k cl u Ao co) {wx : World} (h1 : wx.os = wr.os) (h2 : wx.tape = wr.tape) (h3 : wx.output = wr.output) (hs : wx.heap.size = wr.heap.size) (hk : ∀ b, b ≠ w.heap.size + 3 → wx.heap[b]? = wr.heap[b]?) {k' cl' : Int} {u' : Val}
  (hy : Blk wx (w.heap.size + 3) 38 #[.string op, .int .i64 k', .int .i64 cl', .int .i64 u'.kind, .int .i64 u'.int, .string u'.text, .bool u'.bool, .slice Ao gs.length co]) : OI w tn CA cn cc op v name A n c wx gs k' cl' u' Ao co := by
 have hz := I.size
 refine ⟨⟨h1.trans I.old.os, h2.trans I.old.tape, h3.trans I.old.output, by rw [hs]; exact I.old.size, fun b hb => (hk b (by omega)).trans (I.old.block b hb)⟩, by rw [hs]; exact hz, (hk _ (by omega)).trans I.tb, (hk _ (by omega)).trans I.xb, (hk _ (by omega)).trans I.res, hy, own_blk I.own (fun g hg => hk g (by have := (own_lt I.own g hg).1; omega)), fun g hg => ?_⟩
 exact (I.kids g hg).keep (fun b hb _ => hk b (by omega)) (fun _ h _ => h) (by omega)
theorem OI.setK (I : OI w tn CA cn cc op v name A n c wr gs k cl u Ao co) (k' : Int) : OI w tn CA cn cc op v name A n c (wr.setCell ⟨w.heap.size + 3, 1, none⟩ (.int .i64 k')) gs k' cl u Ao co := by
 have z : Blk (wr.setCell ⟨w.heap.size + 3, 1, none⟩ (.int .i64 k')) (w.heap.size + 3) 38 #[.string op, .int .i64 k', .int .i64 cl, .int .i64 u.kind, .int .i64 u.int, .string u.text, .bool u.bool, .slice Ao gs.length co] := I.y.set_ 1 (.int .i64 k')
 exact I.upd (wx := wr.setCell ⟨w.heap.size + 3, 1, none⟩ (.int .i64 k')) rfl rfl rfl (by simp [World.setCell]) (fun b hb => Below.heap_setCell _ _ _ _ hb) z
theorem OI.setC (I : OI w tn CA cn cc op v name A n c wr gs k cl u Ao co) (c' : Int) : OI w tn CA cn cc op v name A n c (wr.setCell ⟨w.heap.size + 3, 2, none⟩ (.int .i64 c')) gs k c' u Ao co := by
 have z : Blk (wr.setCell ⟨w.heap.size + 3, 2, none⟩ (.int .i64 c')) (w.heap.size + 3) 38 #[.string op, .int .i64 k, .int .i64 c', .int .i64 u.kind, .int .i64 u.int, .string u.text, .bool u.bool, .slice Ao gs.length co] := I.y.set_ 2 (.int .i64 c')
 exact I.upd (wx := wr.setCell ⟨w.heap.size + 3, 2, none⟩ (.int .i64 c')) rfl rfl rfl (by simp [World.setCell]) (fun b hb => Below.heap_setCell _ _ _ _ hb) z
theorem OI.setV (I : OI w tn CA cn cc op v name A n c wr gs k cl u Ao co) (k' i' : Int) (t' : ByteArray) (b' : Bool) : OI w tn CA cn cc op v name A n c ((((wr.setCell ⟨w.heap.size + 3, 3, none⟩ (.int .i64 k')).setCell ⟨w.heap.size + 3, 4, none⟩ (.int .i64 i')).setCell ⟨w.heap.size + 3, 5, none⟩ (.string t')).setCell ⟨w.heap.size + 3, 6, none⟩ (.bool b')) gs k cl ⟨k', i', t', b'⟩ Ao co := by
 have z0 : Blk _ (w.heap.size + 3) 38 #[.string op, .int .i64 k, .int .i64 cl, .int .i64 k', .int .i64 u.int, .string u.text, .bool u.bool, .slice Ao gs.length co] := I.y.set_ 3 (.int .i64 k')
 have z1 : Blk _ (w.heap.size + 3) 38 #[.string op, .int .i64 k, .int .i64 cl, .int .i64 k', .int .i64 i', .string u.text, .bool u.bool, .slice Ao gs.length co] := z0.set_ 4 (.int .i64 i')
 have z2 : Blk _ (w.heap.size + 3) 38 #[.string op, .int .i64 k, .int .i64 cl, .int .i64 k', .int .i64 i', .string t', .bool u.bool, .slice Ao gs.length co] := z1.set_ 5 (.string t')
 have z3 : Blk _ (w.heap.size + 3) 38 #[.string op, .int .i64 k, .int .i64 cl, .int .i64 k', .int .i64 i', .string t', .bool b', .slice Ao gs.length co] := z2.set_ 6 (.bool b')
 exact I.upd (wx := (((wr.setCell ⟨w.heap.size + 3, 3, none⟩ (.int .i64 k')).setCell ⟨w.heap.size + 3, 4, none⟩ (.int .i64 i')).setCell ⟨w.heap.size + 3, 5, none⟩ (.string t')).setCell ⟨w.heap.size + 3, 6, none⟩ (.bool b')) (k' := k) (cl' := cl) (u' := ⟨k', i', t', b'⟩) rfl rfl rfl (by simp [World.setCell]) (fun b hb => by rw [Below.heap_setCell _ _ _ _ hb, Below.heap_setCell _ _ _ _ hb, Below.heap_setCell _ _ _ _ hb, Below.heap_setCell _ _ _ _ hb]) z3
/-- one round -/
theorem OI.push (I : OI w tn CA cn cc op v name A n c wr gs k cl u Ao co) (hs : (gs.length + 1) * 96 ≤ TB) {w2 : World} (h2 : Below wr.heap.size wr w2) {e : Ex} {A2 : Option Addr} {m c2 : Nat} (hin : ExIn w2 (fun b => wr.heap.size ≤ b) e A2 m c2) :
  ∃ An cn' w4, (Builtin.append_ #[36, 36] 36 #[.slice Ao gs.length co, .slice (some ⟨w2.heap.size, 0, none⟩) 1 1]).run Tryz.prog (w2.alloc (.cells #[.string e.op, .int .i64 e.kind, .int .i64 e.col, .int .i64 e.val.kind, .int .i64 e.val.int, .string e.val.text, .bool e.val.bool, .slice A2 m c2] 38)) = .ok (.slice An (gs.length + 1) cn') w4 ∧
   w4.cell? ⟨w.heap.size + 3, 7, none⟩ = some (.slice Ao gs.length co) ∧ w4.frozen? ⟨w.heap.size + 3, 7, none⟩ = false ∧ w.heap.size + 3 < w4.heap.size ∧ OI w tn CA cn cc op v name A n c (w4.setCell ⟨w.heap.size + 3, 7, none⟩ (.slice An (gs.length + 1) cn')) (gs ++ [(e, A2, m, c2)]) k cl u An cn' := by
 have hsz := I.size
 have h2s := h2.size
 have hb3 : Below w2.heap.size w2 (w2.alloc (.cells #[.string e.op, .int .i64 e.kind, .int .i64 e.col, .int .i64 e.val.kind, .int .i64 e.val.int, .string e.val.text, .bool e.val.bool, .slice A2 m c2] 38)) := below_alloc _ _
 have ow := own_below (own_below I.own h2) hb3
 have zn : Blk (w2.alloc (.cells #[.string e.op, .int .i64 e.kind, .int .i64 e.col, .int .i64 e.val.kind, .int .i64 e.val.int, .string e.val.text, .bool e.val.bool, .slice A2 m c2] 38)) w2.heap.size 38 #[.string e.op, .int .i64 e.kind, .int .i64 e.col, .int .i64 e.val.kind, .int .i64 e.val.int, .string e.val.text, .bool e.val.bool, .slice A2 m c2] := Blk.new w2 38 _
 obtain ⟨An, cn', w4, hr, hown, hg, hnew⟩ := app_some tRefs 36 ow (by simp; omega) ⟨w2.heap.size, 0, none⟩ 1 1 (by omega) (exCells [(e, A2, m, c2)]) (exCells_len _) (fun j x hj => by
  rw [add_lit0, zn.cell j]
  simpa [exCells] using hj) exCells_one (by unfold maxLen; unfold TB at hs; omega) hs
 rw [← exCells_append] at hown
 have own_lt : ∀ k, (Value.slice Ao gs.length co).ownBlock = some k → w.heap.size + 4 ≤ k ∧ k < wr.heap.size := I.own.lt
 have size4 : w2.heap.size + 1 ≤ w4.heap.size := by have := hg.size; simpa using this
 have keep : ∀ b, b < w2.heap.size → some b ≠ (Value.slice Ao gs.length co).ownBlock → w4.heap[b]? = w2.heap[b]? := fun b hb hne => by
  rw [hg.block b (by simp; omega) hne]
  exact Below.heap_alloc w2 _ b hb
 have old2 : ∀ b, b < w.heap.size + 4 → some b ≠ (Value.slice Ao gs.length co).ownBlock := fun b hb hc => by have := (own_lt b hc.symm).1; omega
 have all4 : ∀ b, b < w.heap.size + 4 → w4.heap[b]? = wr.heap[b]? := fun b hb => (keep b (by omega) (old2 b hb)).trans (h2.block b (by omega))
 have y4 : Blk w4 (w.heap.size + 3) 38 #[.string op, .int .i64 k, .int .i64 cl, .int .i64 u.kind, .int .i64 u.int, .string u.text, .bool u.bool, .slice Ao gs.length co] := (all4 _ (by omega)).trans I.y
 have hl : (gs ++ [(e, A2, m, c2)]).length = gs.length + 1 := by simp
 refine ⟨An, cn', w4, hr, y4.cell 7, y4.frozen 7, by omega, ?_, ?_, ?_, ?_, ?_, ?_, ?_, ?_⟩
 ·refine ⟨hg.os.trans (h2.os.trans I.old.os), hg.tape.trans (h2.tape.trans I.old.tape), hg.output.trans (h2.output.trans I.old.output), by simp [World.setCell]; omega, fun b hb => ?_⟩
  rw [Below.heap_setCell _ _ _ _ (by show b ≠ w.heap.size + 3; omega), all4 b (by omega)]
  exact I.old.block b hb
 ·simp [World.setCell]; omega
 ·exact (Below.heap_setCell _ _ _ _ (by show w.heap.size ≠ w.heap.size + 3; omega)).trans ((all4 _ (by omega)).trans I.tb)
 ·exact (Below.heap_setCell _ _ _ _ (by show w.heap.size + 1 ≠ w.heap.size + 3; omega)).trans ((all4 _ (by omega)).trans I.xb)
 ·exact (Below.heap_setCell _ _ _ _ (by show w.heap.size + 2 ≠ w.heap.size + 3; omega)).trans ((all4 _ (by omega)).trans I.res)
 ·rw [hl]
  exact y4.set_ 7 (.slice An (gs.length + 1) cn')
 ·rw [hl]
  have hnb : some (w.heap.size + 3) ≠ (Value.slice An (gs.length + 1) cn').ownBlock := fun hc => by have := (hown.lt _ hc.symm).1; omega
  exact set_own hown hnb _
 ·rw [hl]
  intro g hgm
  have fin : ∀ {S : Nat → Prop}, (∀ b, S b → b < w2.heap.size → w.heap.size + 4 ≤ b ∧ some b ≠ (Value.slice Ao gs.length co).ownBlock) → ∀ {x A n c}, ExIn w2 S x A n c → ExIn (w4.setCell ⟨w.heap.size + 3, 7, none⟩ (.slice An (gs.length + 1) cn')) (fun b => w.heap.size + 4 ≤ b ∧ some b ≠ (Value.slice An (gs.length + 1) cn').ownBlock) x A n c := by
   intro S hS x A n c hx
   refine hx.keep (fun b hb hlt => ?_) (fun b hb hlt => ⟨(hS b hb hlt).1, fun hc => ?_⟩) (by simp [World.setCell]; omega)
   ·rw [Below.heap_setCell _ _ _ _ (by show b ≠ w.heap.size + 3; have := (hS b hb hlt).1; omega), keep b hlt (hS b hb hlt).2]
   ·rcases hnew with hn | hn
    ·exact (hS b hb hlt).2 (hc.trans hn)
    ·rw [hn] at hc
     injection hc with hc
     simp at hc; omega
  rcases List.mem_append.1 hgm with hgm | hgm
  ·refine fin (S := fun b => w.heap.size + 4 ≤ b ∧ some b ≠ (Value.slice Ao gs.length co).ownBlock) (fun b hb _ => hb) ((I.kids g hgm).keep (fun b _ hlt => h2.block b hlt) (fun b hb _ => hb) h2.size)
  ·obtain rfl : g = (e, A2, m, c2) := by simpa using hgm
   exact fin (S := fun b => wr.heap.size ≤ b) (fun b hb _ => ⟨by omega, fun hc => by have := (own_lt b hc.symm).2; omega⟩) hin
/-- at the end -/
theorem OI.end_ (I : OI w tn CA cn cc op v name A n c wr gs k cl u Ao co) (hs : gs.length * 96 ≤ TB) (tx : u.text.size ≤ TB) : ExIn wr (fun b => w.heap.size + 4 ≤ b) (.mk op k cl u (gs.map (·.1))) Ao gs.length co := by
 have at_ : ∀ (j : Nat) (e : Ex), (gs.map (·.1))[j]? = some e → ∃ g, gs[j]? = some g ∧ g.1 = e := fun j e hj => by
  rw [List.getElem?_map] at hj
  obtain ⟨g, hg, e1⟩ := Option.map_eq_some_iff.1 hj
  exact ⟨g, hg, e1⟩
 obtain ⟨h1, h2⟩ := I.own
 rcases h2 with ⟨h2, h3⟩ | ⟨g0, cap, cur, h2, h3, h4, h5, h6, h7, h8⟩
 ·have h0 : gs = [] := List.length_eq_zero_iff.1 (by omega)
  subst h0
  exact .mk op k cl u _ _ _ co rfl hs tx 0 0 (fun h => absurd h (Nat.lt_irrefl 0)) (fun _ => none) (fun _ => 0) (fun _ => 0) (fun j e hj => by simp at hj) (fun j e hj => by simp at hj)
 ·injection h2 with e1 e2 e3
  subst e1 e3
  refine .mk op k cl u _ _ _ co (by simp) hs tx g0 0 (fun _ => ⟨rfl, (Array.getElem?_eq_some_iff.1 h4).1, h3⟩) (fun j => ((gs[j]?).map (·.2.1)).getD none) (fun j => ((gs[j]?).map (·.2.2.1)).getD 0) (fun j => ((gs[j]?).map (·.2.2.2)).getD 0) (fun j e hj => ?_) (fun j e hj => ?_)
  ·obtain ⟨g, hg, rfl⟩ := at_ j e hj
   have hc : ∀ k, k < 8 → wr.cell? ⟨g0, 0 + j * 8 + k, none⟩ = (exCells [g])[k]? := fun k hk => by
    have hx := exCells_at hg k hk
    rw [Nat.zero_add, cell_of_row wr g0 _ cur 38 (0, 0) h4, ← hx, ← h8]
    have hlt : j * 8 + k < gs.length * 8 := by have := (List.getElem?_eq_some_iff.1 hg).1; omega
    rw [List.getElem?_take_of_lt hlt]
    simp
   simp only [hg, Option.map_some, Option.getD_some]
   exact ⟨hc 0 (by omega), hc 1 (by omega), hc 2 (by omega), hc 3 (by omega), hc 4 (by omega), hc 5 (by omega), hc 6 (by omega), hc 7 (by omega)⟩
  ·obtain ⟨g, hg, rfl⟩ := at_ j e hj
   simp only [hg, Option.map_some, Option.getD_some]
   exact (I.kids g (List.mem_of_getElem? hg)).keep (fun _ _ _ => rfl) (fun b hb _ => hb.1) (Nat.le_refl _)
/-- an Arg's kind, where it lies -/
theorem OI.arg (I : OI w tn CA cn cc op v name A n c wr gs k cl u Ao co) {j : Nat} {g : Given} (hg : gs[j]? = some g) : ∃ b, Ao = some ⟨b, 0, none⟩ ∧ b < wr.heap.size ∧ wr.cell? ⟨b, j * 8 + 1, none⟩ = some (.int .i64 g.1.kind) := by
 obtain ⟨h1, h2⟩ := I.own
 have hj := (List.getElem?_eq_some_iff.1 hg).1
 rcases h2 with ⟨h2, h3⟩ | ⟨g0, cap, cur, h2, h3, h4, h5, h6, h7, h8⟩
 ·omega
 ·injection h2 with e1 e2 e3
  refine ⟨g0, e1, (Array.getElem?_eq_some_iff.1 h4).1, ?_⟩
  have hx := exCells_at hg 1 (by omega)
  rw [cell_of_row wr g0 _ cur 38 (0, 0) h4]
  have hlt : j * 8 + 1 < gs.length * 8 := by omega
  have h9 := congrArg (fun l => l[j * 8 + 1]?) h8
  simp only [List.getElem?_take_of_lt hlt, hx] at h9
  simpa [exCells] using h9
end

end Go.Proofs.YtbcmmecilheicaaGreatDoor

/- The document's check of an expression: what its rounds leave. -/
namespace Go.Proofs.YtbcmmecilheicaaGreatDoor
open Go Go.RowKit

/-- an expression, let through, of one's own; or an error -/
def OfPost (cols : List Col) (g : Bool) (w : World) (e : Ending) (w' : World) : Prop := ∃ (y : Ex) (A : Option Addr) (n c : Nat) (er : Int), e = .returned (.tuple #[exAgg y A n c, .int .i64 er]) ∧ Hid (er = 0 → Typed cols g y ∧ ExIn w' (fun b => w.heap.size ≤ b) y A n c) ∧ Hid (Below w.heap.size w w')
def zeroEx : Ex := .mk ⟨#[]⟩ 0 0 Val.null []
theorem results_ei {fn : Func} {s k : Nat} (h : fn.results = #[.cell s 38, .tmp k]) {tmps : Array Value} {W : World} {b : Nat} {c0 c1 c2 c3 c4 c5 c6 c7 er : Value} (hs : tmps[s]? = some (.pointer (some ⟨b, 0, none⟩))) (hk : tmps[k]? = some er) (z : Blk W b 38 #[c0, c1, c2, c3, c4, c5, c6, c7]) :
  (results fn tmps).run Tryz.prog W = .ok (.tuple #[.agg #[c0, c1, c2, c3, c4, c5, c6, c7], er]) W := by
 have q0 := z.cell 0
 have q1 := z.cell 1
 have q2 := z.cell 2
 have q3 := z.cell 3
 have q4 := z.cell 4
 have q5 := z.cell 5
 have q6 := z.cell 6
 have q7 := z.cell 7
 simp [results, h, hs, hk, go_sem, q0, q1, q2, q3, q4, q5, q6, q7]
/-- what a round's call leaves: the expression in a block of its own -/
def Made (wr : World) (p : Nat) (y : Ex) (A : Option Addr) (n c : Nat) (wx : World) : Prop :=
 Below wr.heap.size wr wx ∧ wr.heap.size ≤ p ∧ p < wx.heap.size ∧ Blk wx p 38 #[.string y.op, .int .i64 y.kind, .int .i64 y.col, .int .i64 y.val.kind, .int .i64 y.val.int, .string y.val.text, .bool y.val.bool, .slice A n c]

theorem zero_new {wr w5 : World} (h : Below (wr.drew.alloc (.cells #[.string ⟨#[]⟩, .int .i64 0, .int .i64 0, .int .i64 0, .int .i64 0, .string ⟨#[]⟩, .bool false, .slice none 0 0] 38)).heap.size (wr.drew.alloc (.cells #[.string ⟨#[]⟩, .int .i64 0, .int .i64 0, .int .i64 0, .int .i64 0, .string ⟨#[]⟩, .bool false, .slice none 0 0] 38)) w5) : Blk w5 wr.heap.size 38 #[.string ⟨#[]⟩, .int .i64 0, .int .i64 0, .int .i64 0, .int .i64 0, .string ⟨#[]⟩, .bool false, .slice none 0 0] :=
 (Blk.new wr.drew 38 _).below h
theorem zero_newd {wr w5 : World} (h : Below (wr.alloc (.cells #[.string ⟨#[]⟩, .int .i64 0, .int .i64 0, .int .i64 0, .int .i64 0, .string ⟨#[]⟩, .bool false, .slice none 0 0] 38)).drew.heap.size (wr.alloc (.cells #[.string ⟨#[]⟩, .int .i64 0, .int .i64 0, .int .i64 0, .int .i64 0, .string ⟨#[]⟩, .bool false, .slice none 0 0] 38)).drew w5) : Blk w5 wr.heap.size 38 #[.string ⟨#[]⟩, .int .i64 0, .int .i64 0, .int .i64 0, .int .i64 0, .string ⟨#[]⟩, .bool false, .slice none 0 0] :=
 ((Blk.new wr 38 _).below (below_drew _)).below h
theorem made_a {wr w5 : World} {y : Ex} {A : Option Addr} {n c : Nat} {T P : Prop} (hb : Below wr.drew.heap.size wr.drew w5) (hy : P → T ∧ ExIn w5 (fun b => wr.drew.heap.size ≤ b) y A n c) :
  Made wr w5.heap.size y A n c (w5.alloc (.cells #[.string y.op, .int .i64 y.kind, .int .i64 y.col, .int .i64 y.val.kind, .int .i64 y.val.int, .string y.val.text, .bool y.val.bool, .slice A n c] 38)) ∧ (P → T ∧ ExIn (w5.alloc (.cells #[.string y.op, .int .i64 y.kind, .int .i64 y.col, .int .i64 y.val.kind, .int .i64 y.val.int, .string y.val.text, .bool y.val.bool, .slice A n c] 38)) (fun b => wr.heap.size ≤ b) y A n c) := by
 have h0 : Below wr.heap.size wr w5 := bt hb (below_drew wr)
 refine ⟨⟨bt (below_alloc _ _) h0, h0.size, by simp, Blk.new w5 38 _⟩, fun hp => ⟨(hy hp).1, (hy hp).2.keep (fun b _ hl => Below.heap_alloc w5 _ b hl) (fun b hb _ => hb) (by simp)⟩⟩
theorem made_bV {wr w5 W' : World} {y : Ex} {A : Option Addr} {n c : Nat} {T P : Prop} {k : Nat} (hk : k = wr.heap.size + 1) (hs : k ≤ w5.heap.size) (hB : Below wr.heap.size wr W') (hy : P → T ∧ ExIn w5 (fun b => k ≤ b) y A n c)
  (e4 : W'.heap.size = w5.heap.size) (hfar : ∀ b, b ≠ wr.heap.size → W'.heap[b]? = w5.heap[b]?) (hZ : Blk W' wr.heap.size 38 #[.string y.op, .int .i64 y.kind, .int .i64 y.col, .int .i64 y.val.kind, .int .i64 y.val.int, .string y.val.text, .bool y.val.bool, .slice A n c]) :
  Made wr wr.heap.size y A n c W' ∧ (P → T ∧ ExIn W' (fun b => wr.heap.size ≤ b) y A n c) := by
 refine ⟨⟨hB, Nat.le_refl _, by omega, hZ⟩, fun hp => ⟨(hy hp).1, ?_⟩⟩
 exact (hy hp).2.keep (fun b hb hl => hfar b (by omega)) (fun b hb _ => by omega) (by omega)
theorem far8 {w0 w5 : World} {g : Nat} (h : Below g w0 w5) (_hg : g < w5.heap.size) (d0 d1 d2 d3 d4 d5 d6 d7 : Value) : Below g w0 ((((((((w5.setCell ⟨g, 0, none⟩ d0).setCell ⟨g, 1, none⟩ d1).setCell ⟨g, 2, none⟩ d2).setCell ⟨g, 3, none⟩ d3).setCell ⟨g, 4, none⟩ d4).setCell ⟨g, 5, none⟩ d5).setCell ⟨g, 6, none⟩ d6).setCell ⟨g, 7, none⟩ d7) := by
 go_grown
theorem size8 {w5 : World} {g : Nat} (d0 d1 d2 d3 d4 d5 d6 d7 : Value) : (((((((((w5.setCell ⟨g, 0, none⟩ d0).setCell ⟨g, 1, none⟩ d1).setCell ⟨g, 2, none⟩ d2).setCell ⟨g, 3, none⟩ d3).setCell ⟨g, 4, none⟩ d4).setCell ⟨g, 5, none⟩ d5).setCell ⟨g, 6, none⟩ d6).setCell ⟨g, 7, none⟩ d7)).heap.size = w5.heap.size := by
 simp only [World.size_setCell]
theorem made_b {wr w5 : World} {y : Ex} {A : Option Addr} {n c : Nat} {T P : Prop} (hb : Below (wr.alloc (.cells #[.string ⟨#[]⟩, .int .i64 0, .int .i64 0, .int .i64 0, .int .i64 0, .string ⟨#[]⟩, .bool false, .slice none 0 0] 38)).drew.heap.size (wr.alloc (.cells #[.string ⟨#[]⟩, .int .i64 0, .int .i64 0, .int .i64 0, .int .i64 0, .string ⟨#[]⟩, .bool false, .slice none 0 0] 38)).drew w5) (hy : P → T ∧ ExIn w5 (fun b => (wr.alloc (.cells #[.string ⟨#[]⟩, .int .i64 0, .int .i64 0, .int .i64 0, .int .i64 0, .string ⟨#[]⟩, .bool false, .slice none 0 0] 38)).drew.heap.size ≤ b) y A n c) :
  Made wr wr.heap.size y A n c ((((((((w5.setCell ⟨wr.heap.size, 0, none⟩ (.string y.op)).setCell ⟨wr.heap.size, 1, none⟩ (.int .i64 y.kind)).setCell ⟨wr.heap.size, 2, none⟩ (.int .i64 y.col)).setCell ⟨wr.heap.size, 3, none⟩ (.int .i64 y.val.kind)).setCell ⟨wr.heap.size, 4, none⟩ (.int .i64 y.val.int)).setCell ⟨wr.heap.size, 5, none⟩ (.string y.val.text)).setCell ⟨wr.heap.size, 6, none⟩ (.bool y.val.bool)).setCell ⟨wr.heap.size, 7, none⟩ (.slice A n c)) ∧ (P → T ∧ ExIn ((((((((w5.setCell ⟨wr.heap.size, 0, none⟩ (.string y.op)).setCell ⟨wr.heap.size, 1, none⟩ (.int .i64 y.kind)).setCell ⟨wr.heap.size, 2, none⟩ (.int .i64 y.col)).setCell ⟨wr.heap.size, 3, none⟩ (.int .i64 y.val.kind)).setCell ⟨wr.heap.size, 4, none⟩ (.int .i64 y.val.int)).setCell ⟨wr.heap.size, 5, none⟩ (.string y.val.text)).setCell ⟨wr.heap.size, 6, none⟩ (.bool y.val.bool)).setCell ⟨wr.heap.size, 7, none⟩ (.slice A n c)) (fun b => wr.heap.size ≤ b) y A n c) := by
 have hV := bt (below_drew (wr.alloc (.cells #[.string ⟨#[]⟩, .int .i64 0, .int .i64 0, .int .i64 0, .int .i64 0, .string ⟨#[]⟩, .bool false, .slice none 0 0] 38))) (below_alloc wr _)
 have hS : (wr.alloc (.cells #[.string ⟨#[]⟩, .int .i64 0, .int .i64 0, .int .i64 0, .int .i64 0, .string ⟨#[]⟩, .bool false, .slice none 0 0] 38)).drew.heap.size = wr.heap.size + 1 := by simp
 have h0 : Below wr.heap.size wr w5 := bt hb hV
 have hz0 := zero_newd hb
 have hz := ex_set hz0 (.string y.op) (.int .i64 y.kind) (.int .i64 y.col) (.int .i64 y.val.kind) (.int .i64 y.val.int) (.string y.val.text) (.bool y.val.bool) (.slice A n c)
 have hB := far8 h0 hz0.lt (.string y.op) (.int .i64 y.kind) (.int .i64 y.col) (.int .i64 y.val.kind) (.int .i64 y.val.int) (.string y.val.text) (.bool y.val.bool) (.slice A n c)
 have hf := fun (b : Nat) (h : b ≠ wr.heap.size) => ex_far (W := w5) h (.string y.op) (.int .i64 y.kind) (.int .i64 y.col) (.int .i64 y.val.kind) (.int .i64 y.val.int) (.string y.val.text) (.bool y.val.bool) (.slice A n c)
 have hs := size8 (w5 := w5) (g := wr.heap.size) (.string y.op) (.int .i64 y.kind) (.int .i64 y.col) (.int .i64 y.val.kind) (.int .i64 y.val.int) (.string y.val.text) (.bool y.val.bool) (.slice A n c)
 exact made_bV hS hb.size hB hy hs hf hz
theorem ne_lit {op : ByteArray} {l : List UInt8} (h : ¬ op.toList = l) : op ≠ ⟨l.toArray⟩ := fun e => h (by rw [e, ByteArray.toList_eq])
theorem not_in {op : ByteArray} {l : List ByteArray} (h : inP op l = false) : op ∉ l := fun hm => by rw [in_mem.2 hm] at h; cases h
/-- where one Arg is wanted, there is one -/
theorem agg_one {op : ByteArray} {args : List PEx} {gs : List Given} (ar : (args.length = 0 ∧ Among op opsN) ∨ (args.length = 1 ∧ Among op opsO) ∨ (args.length = 2 ∧ Among op opsT)) (hl : args.length = gs.length) (h0 : op ∉ opsN) (_h2 : op ∉ opsT) : ∃ g0 l0, gs = g0 :: l0 := by
 have hp : 0 < gs.length := by
  rcases ar with ⟨-, h⟩ | ⟨h, -⟩ | ⟨h, -⟩
  ·exact absurd (among_mem h) h0
  ·omega
  ·omega
 match gs, hp with
 | g0 :: l0, _ => exact ⟨g0, l0, rfl⟩

end Go.Proofs.YtbcmmecilheicaaGreatDoor
