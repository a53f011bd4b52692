/- The document's check of an expression: what its rounds leave. -/
import Derived.Test.YtbcmmecilheicaaGreatDoorTy2
import Derived.Deep.RegionLaw
namespace Go.Proofs.YtbcmmecilheicaaGreatDoor
open Go Go.RowKit

/-- an expression, let through, of one's own; or an error -/
def OfPost (cols : List Col) (g : Bool) (w : World) (e : Ending) (w' : World) : Prop := ∃ (y : Ex) (A : Option Addr) (n c : Nat) (er : Int), e = .returned (.tuple #[exAgg y A n c, .int .i64 er]) ∧ Hid (er = 0 → Typed cols g y ∧ ExIn w' (fun b => w.heap.size ≤ b) y A n c) ∧ Hid (Below w.heap.size w w')
def zeroEx : Ex := .mk ⟨#[]⟩ 0 0 Val.null []
theorem results_ei {fn : Func} {s k : Nat} (h : fn.results = #[.cell s 38, .tmp k]) {tmps : Array Value} {W : World} {b : Nat} {c0 c1 c2 c3 c4 c5 c6 c7 er : Value} (hs : tmps[s]? = some (.pointer (some ⟨b, 0, none⟩))) (hk : tmps[k]? = some er) (z : Blk W b 38 #[c0, c1, c2, c3, c4, c5, c6, c7]) :
    (results fn tmps).run Tryz.prog W = .ok (.tuple #[.agg #[c0, c1, c2, c3, c4, c5, c6, c7], er]) W := by
  have q0 := z.cell 0
  have q1 := z.cell 1
  have q2 := z.cell 2
  have q3 := z.cell 3
  have q4 := z.cell 4
  have q5 := z.cell 5
  have q6 := z.cell 6
  have q7 := z.cell 7
  simp [results, h, hs, hk, go_sem, q0, q1, q2, q3, q4, q5, q6, q7]
/-- what a round's call leaves: the expression in a block of its own -/
def Made (wr : World) (p : Nat) (y : Ex) (A : Option Addr) (n c : Nat) (wx : World) : Prop :=
  Below wr.heap.size wr wx ∧ wr.heap.size ≤ p ∧ p < wx.heap.size ∧ Blk wx p 38 #[.string y.op, .int .i64 y.kind, .int .i64 y.col, .int .i64 y.val.kind, .int .i64 y.val.int, .string y.val.text, .bool y.val.bool, .slice A n c]

theorem zero_new {wr w5 : World} (h : Below (wr.drew.alloc (.cells #[.string ⟨#[]⟩, .int .i64 0, .int .i64 0, .int .i64 0, .int .i64 0, .string ⟨#[]⟩, .bool false, .slice none 0 0] 38)).heap.size (wr.drew.alloc (.cells #[.string ⟨#[]⟩, .int .i64 0, .int .i64 0, .int .i64 0, .int .i64 0, .string ⟨#[]⟩, .bool false, .slice none 0 0] 38)) w5) : Blk w5 wr.heap.size 38 #[.string ⟨#[]⟩, .int .i64 0, .int .i64 0, .int .i64 0, .int .i64 0, .string ⟨#[]⟩, .bool false, .slice none 0 0] :=
  (Blk.new wr.drew 38 _).below h
theorem zero_newd {wr w5 : World} (h : Below (wr.alloc (.cells #[.string ⟨#[]⟩, .int .i64 0, .int .i64 0, .int .i64 0, .int .i64 0, .string ⟨#[]⟩, .bool false, .slice none 0 0] 38)).drew.heap.size (wr.alloc (.cells #[.string ⟨#[]⟩, .int .i64 0, .int .i64 0, .int .i64 0, .int .i64 0, .string ⟨#[]⟩, .bool false, .slice none 0 0] 38)).drew w5) : Blk w5 wr.heap.size 38 #[.string ⟨#[]⟩, .int .i64 0, .int .i64 0, .int .i64 0, .int .i64 0, .string ⟨#[]⟩, .bool false, .slice none 0 0] :=
  ((Blk.new wr 38 _).below (below_drew _)).below h
theorem made_a {wr w5 : World} {y : Ex} {A : Option Addr} {n c : Nat} {T P : Prop} (hb : Below wr.drew.heap.size wr.drew w5) (hy : P → T ∧ ExIn w5 (fun b => wr.drew.heap.size ≤ b) y A n c) :
    Made wr w5.heap.size y A n c (w5.alloc (.cells #[.string y.op, .int .i64 y.kind, .int .i64 y.col, .int .i64 y.val.kind, .int .i64 y.val.int, .string y.val.text, .bool y.val.bool, .slice A n c] 38)) ∧ (P → T ∧ ExIn (w5.alloc (.cells #[.string y.op, .int .i64 y.kind, .int .i64 y.col, .int .i64 y.val.kind, .int .i64 y.val.int, .string y.val.text, .bool y.val.bool, .slice A n c] 38)) (fun b => wr.heap.size ≤ b) y A n c) := by
  have h0 : Below wr.heap.size wr w5 := bt hb (below_drew wr)
  refine ⟨⟨bt (below_alloc _ _) h0, h0.size, by simp, Blk.new w5 38 _⟩, fun hp => ⟨(hy hp).1, (hy hp).2.keep (fun b _ hl => Below.heap_alloc w5 _ b hl) (fun b hb _ => hb) (by simp)⟩⟩
theorem made_bV {wr w5 W' : World} {y : Ex} {A : Option Addr} {n c : Nat} {T P : Prop} {k : Nat} (hk : k = wr.heap.size + 1) (hs : k ≤ w5.heap.size) (hB : Below wr.heap.size wr W') (hy : P → T ∧ ExIn w5 (fun b => k ≤ b) y A n c)
    (e4 : W'.heap.size = w5.heap.size) (hfar : ∀ b, b ≠ wr.heap.size → W'.heap[b]? = w5.heap[b]?) (hZ : Blk W' wr.heap.size 38 #[.string y.op, .int .i64 y.kind, .int .i64 y.col, .int .i64 y.val.kind, .int .i64 y.val.int, .string y.val.text, .bool y.val.bool, .slice A n c]) :
    Made wr wr.heap.size y A n c W' ∧ (P → T ∧ ExIn W' (fun b => wr.heap.size ≤ b) y A n c) := by
  refine ⟨⟨hB, Nat.le_refl _, by omega, hZ⟩, fun hp => ⟨(hy hp).1, ?_⟩⟩
  exact (hy hp).2.keep (fun b hb hl => hfar b (by omega)) (fun b hb _ => by omega) (by omega)
theorem far8 {w0 w5 : World} {g : Nat} (h : Below g w0 w5) (_hg : g < w5.heap.size) (d0 d1 d2 d3 d4 d5 d6 d7 : Value) : Below g w0 ((((((((w5.setCell ⟨g, 0, none⟩ d0).setCell ⟨g, 1, none⟩ d1).setCell ⟨g, 2, none⟩ d2).setCell ⟨g, 3, none⟩ d3).setCell ⟨g, 4, none⟩ d4).setCell ⟨g, 5, none⟩ d5).setCell ⟨g, 6, none⟩ d6).setCell ⟨g, 7, none⟩ d7) := by
  go_grown
theorem size8 {w5 : World} {g : Nat} (d0 d1 d2 d3 d4 d5 d6 d7 : Value) : (((((((((w5.setCell ⟨g, 0, none⟩ d0).setCell ⟨g, 1, none⟩ d1).setCell ⟨g, 2, none⟩ d2).setCell ⟨g, 3, none⟩ d3).setCell ⟨g, 4, none⟩ d4).setCell ⟨g, 5, none⟩ d5).setCell ⟨g, 6, none⟩ d6).setCell ⟨g, 7, none⟩ d7)).heap.size = w5.heap.size := by
  simp only [World.size_setCell]
theorem made_b {wr w5 : World} {y : Ex} {A : Option Addr} {n c : Nat} {T P : Prop} (hb : Below (wr.alloc (.cells #[.string ⟨#[]⟩, .int .i64 0, .int .i64 0, .int .i64 0, .int .i64 0, .string ⟨#[]⟩, .bool false, .slice none 0 0] 38)).drew.heap.size (wr.alloc (.cells #[.string ⟨#[]⟩, .int .i64 0, .int .i64 0, .int .i64 0, .int .i64 0, .string ⟨#[]⟩, .bool false, .slice none 0 0] 38)).drew w5) (hy : P → T ∧ ExIn w5 (fun b => (wr.alloc (.cells #[.string ⟨#[]⟩, .int .i64 0, .int .i64 0, .int .i64 0, .int .i64 0, .string ⟨#[]⟩, .bool false, .slice none 0 0] 38)).drew.heap.size ≤ b) y A n c) :
    Made wr wr.heap.size y A n c ((((((((w5.setCell ⟨wr.heap.size, 0, none⟩ (.string y.op)).setCell ⟨wr.heap.size, 1, none⟩ (.int .i64 y.kind)).setCell ⟨wr.heap.size, 2, none⟩ (.int .i64 y.col)).setCell ⟨wr.heap.size, 3, none⟩ (.int .i64 y.val.kind)).setCell ⟨wr.heap.size, 4, none⟩ (.int .i64 y.val.int)).setCell ⟨wr.heap.size, 5, none⟩ (.string y.val.text)).setCell ⟨wr.heap.size, 6, none⟩ (.bool y.val.bool)).setCell ⟨wr.heap.size, 7, none⟩ (.slice A n c)) ∧ (P → T ∧ ExIn ((((((((w5.setCell ⟨wr.heap.size, 0, none⟩ (.string y.op)).setCell ⟨wr.heap.size, 1, none⟩ (.int .i64 y.kind)).setCell ⟨wr.heap.size, 2, none⟩ (.int .i64 y.col)).setCell ⟨wr.heap.size, 3, none⟩ (.int .i64 y.val.kind)).setCell ⟨wr.heap.size, 4, none⟩ (.int .i64 y.val.int)).setCell ⟨wr.heap.size, 5, none⟩ (.string y.val.text)).setCell ⟨wr.heap.size, 6, none⟩ (.bool y.val.bool)).setCell ⟨wr.heap.size, 7, none⟩ (.slice A n c)) (fun b => wr.heap.size ≤ b) y A n c) := by
  have hV := bt (below_drew (wr.alloc (.cells #[.string ⟨#[]⟩, .int .i64 0, .int .i64 0, .int .i64 0, .int .i64 0, .string ⟨#[]⟩, .bool false, .slice none 0 0] 38))) (below_alloc wr _)
  have hS : (wr.alloc (.cells #[.string ⟨#[]⟩, .int .i64 0, .int .i64 0, .int .i64 0, .int .i64 0, .string ⟨#[]⟩, .bool false, .slice none 0 0] 38)).drew.heap.size = wr.heap.size + 1 := by simp
  have h0 : Below wr.heap.size wr w5 := bt hb hV
  have hz0 := zero_newd hb
  have hz := ex_set hz0 (.string y.op) (.int .i64 y.kind) (.int .i64 y.col) (.int .i64 y.val.kind) (.int .i64 y.val.int) (.string y.val.text) (.bool y.val.bool) (.slice A n c)
  have hB := far8 h0 hz0.lt (.string y.op) (.int .i64 y.kind) (.int .i64 y.col) (.int .i64 y.val.kind) (.int .i64 y.val.int) (.string y.val.text) (.bool y.val.bool) (.slice A n c)
  have hf := fun (b : Nat) (h : b ≠ wr.heap.size) => ex_far (W := w5) h (.string y.op) (.int .i64 y.kind) (.int .i64 y.col) (.int .i64 y.val.kind) (.int .i64 y.val.int) (.string y.val.text) (.bool y.val.bool) (.slice A n c)
  have hs := size8 (w5 := w5) (g := wr.heap.size) (.string y.op) (.int .i64 y.kind) (.int .i64 y.col) (.int .i64 y.val.kind) (.int .i64 y.val.int) (.string y.val.text) (.bool y.val.bool) (.slice A n c)
  exact made_bV hS hb.size hB hy hs hf hz
theorem ne_lit {op : ByteArray} {l : List UInt8} (h : ¬ op.toList = l) : op ≠ ⟨l.toArray⟩ := fun e => h (by rw [e, ByteArray.toList_eq])
theorem not_in {op : ByteArray} {l : List ByteArray} (h : inP op l = false) : op ∉ l := fun hm => by rw [in_mem.2 hm] at h; cases h
/-- where one Arg is wanted, there is one -/
theorem agg_one {op : ByteArray} {args : List PEx} {gs : List Given} (ar : (args.length = 0 ∧ Among op opsN) ∨ (args.length = 1 ∧ Among op opsO) ∨ (args.length = 2 ∧ Among op opsT)) (hl : args.length = gs.length) (h0 : op ∉ opsN) (_h2 : op ∉ opsT) : ∃ g0 l0, gs = g0 :: l0 := by
  have hp : 0 < gs.length := by
    rcases ar with ⟨-, h⟩ | ⟨h, -⟩ | ⟨h, -⟩
    · exact absurd (among_mem h) h0
    · omega
    · omega
  match gs, hp with
  | g0 :: l0, _ => exact ⟨g0, l0, rfl⟩

end Go.Proofs.YtbcmmecilheicaaGreatDoor
