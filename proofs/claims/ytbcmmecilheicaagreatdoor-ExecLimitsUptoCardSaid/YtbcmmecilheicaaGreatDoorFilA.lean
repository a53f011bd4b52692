/- exec's part.filled, runner.of: of an aggregate; of an expression without aggregates. exec's runner.of, over what filled leaves. exec.filter: the rows of which conditions are true. exec's runner.parts: all rows as one part. law 23's plain. What filled leaves of a sum: a literal. -/
import Derived.Test.YtbcmmecilheicaaGreatDoorSumA

/- exec's part.filled, runner.of: of an aggregate; of an expression without aggregates. -/
namespace Go.Proofs.YtbcmmecilheicaaGreatDoor
open Go Go.RowKit

theorem results_ee {fn : Func} {s k : Nat} (h : fn.results = #[.cell s 51, .tmp k]) {tmps : Array Value} {W : World} {b : Nat} {c0 c1 c2 c3 c4 c5 c6 c7 er : Value} (hs : tmps[s]? = some (.pointer (some ⟨b, 0, none⟩))) (hk : tmps[k]? = some er) (z : Blk W b 51 #[c0, c1, c2, c3, c4, c5, c6, c7]) :
  (results fn tmps).run Tryz.prog W = .ok (.tuple #[.agg #[c0, c1, c2, c3, c4, c5, c6, c7], er]) W := by
 have q0 := z.cell 0
 have q1 := z.cell 1
 have q2 := z.cell 2
 have q3 := z.cell 3
 have q4 := z.cell 4
 have q5 := z.cell 5
 have q6 := z.cell 6
 have q7 := z.cell 7
 simp [results, h, hs, hk, go_sem, q0, q1, q2, q3, q4, q5, q6, q7]

set_option maxRecDepth 100000 in
set_option maxHeartbeats 8000000 in
/-- of an aggregate: its value, as a literal -/
theorem filled65a (w : World) (RA : Option Addr) (rn rc : Nat) (i1 : Option Addr) (n1 c1 : Nat) (i2 : Option Addr) (n2 c2 : Nat) (op : ByteArray) (kind col : Int) (xv : Val) (A : Option Addr) (n c : Nat) (hop : isIn op aggs = true) (LA : Option Addr) (ln lc : Nat) (v : Val) (er : Option Int)
  (CA : ∀ W, Below w.heap.size w W → Calls Tryz.prog 160 #[.agg #[.slice RA rn rc, .slice i1 n1 c1, .slice i2 n2 c2], .agg #[.string op, .int .i64 kind, .int .i64 col, .int .i64 xv.kind, .int .i64 xv.int, .string xv.text, .bool xv.bool, .slice A n c], .slice LA ln lc] W fun e w' => e = .returned (resV (v, er)) ∧ Hid (Below W.heap.size W w')) :
  Calls Tryz.prog 129 #[.agg #[.slice RA rn rc, .slice i1 n1 c1, .slice i2 n2 c2], .agg #[.string op, .int .i64 kind, .int .i64 col, .int .i64 xv.kind, .int .i64 xv.int, .string xv.text, .bool xv.bool, .slice A n c], .slice LA ln lc] w
   fun e w' => e = .returned (.tuple #[.agg #[.string ⟨#[108, 105, 116]⟩, .int .i64 kind, .int .i64 0, .int .i64 v.kind, .int .i64 v.int, .string v.text, .bool v.bool, .slice none 0 0], errV er]) ∧ Hid (Below w.heap.size w w') := by
 obtain ⟨vk, vi, vt, vb⟩ := v
 obtain ⟨w1, hw1⟩ : ∃ z, z = ((w.alloc (.cells #[.slice RA rn rc, .slice i1 n1 c1, .slice i2 n2 c2] 147)).alloc (.cells #[.string op, .int .i64 kind, .int .i64 col, .int .i64 xv.kind, .int .i64 xv.int, .string xv.text, .bool xv.bool, .slice A n c] 51)).alloc (.cells #[.string ⟨#[]⟩, .int .i64 0, .int .i64 0, .int .i64 0, .int .i64 0, .string ⟨#[]⟩, .bool false, .slice none 0 0] 51) := ⟨_, rfl⟩
 have B1 := Lib.hid (show Below w.heap.size w w1 by rw [hw1]; exact bt (below_alloc _ _) (bt (below_alloc _ _) (below_alloc _ _)))
 have Z0 := Lib.hid (show Blk w1 w.heap.size 147 #[.slice RA rn rc, .slice i1 n1 c1, .slice i2 n2 c2] by rw [hw1]; exact ((Blk.new w 147 _).alloc _).alloc _)
 have Z1 := Lib.hid (show Blk w1 (w.heap.size + 1) 51 #[.string op, .int .i64 kind, .int .i64 col, .int .i64 xv.kind, .int .i64 xv.int, .string xv.text, .bool xv.bool, .slice A n c] by rw [hw1]; exact (blk_new' (w := w.alloc _) rfl (by simp)).alloc _)
 have Z2 := Lib.hid (show Blk w1 (w.heap.size + 1 + 1) 51 #[.string ⟨#[]⟩, .int .i64 0, .int .i64 0, .int .i64 0, .int .i64 0, .string ⟨#[]⟩, .bool false, .slice none 0 0] by rw [hw1]; exact blk_new' (w := (w.alloc _).alloc _) rfl (by simp))
 have HA := Lib.hid CA
 have HOP := Lib.hid hop
 clear CA hop
 have zc := Z1.out.cell
 have x0 := zc 0
 have x1 := zc 1
 have x2 := zc 2
 have x3 := zc 3
 have x4 := zc 4
 have x5 := zc 5
 have x6 := zc 6
 have x7 := zc 7
 have hs1 := Z2.out.lt
 clear zc
 go_enter Tryz.func129, Tryz.ntmps129
 go_wp2_with fail
 rw [← hw1]
 clear hw1
 refine (agg33t w1 (.mk op kind col xv []) A n c HOP.out).mono ?_
 clear x0 x1 x2 x3 x4 x5 x6 x7
 rintro e w2 ⟨rfl, h2⟩
 have zc := (Z1.out.below h2.out).cell
 have x0 := zc 0
 have hs2 := h2.out.size
 have hs3 : w.heap.size + 1 < w2.heap.size := by omega
 have hs4 : w.heap.size + 1 < w2.heap.size + 1 := by omega
 have B2 := Lib.hid (show Below w1.heap.size w1 w2 from h2.out)
 have C8 := Lib.hid (contains68g (w2.alloc (.cells #[.string ⟨#[114, 111, 119, 115]⟩, .string ⟨#[99, 111, 117, 110, 116]⟩, .string ⟨#[115, 117, 109]⟩, .string ⟨#[109, 105, 110]⟩, .string ⟨#[109, 97, 120]⟩] 9)) (some ⟨w2.heap.size, 0, none⟩) 5 5 aggs (aggs_at (Blk.new w2 9 _)) (by omega) op)
 rw [HOP.out] at C8
 clear zc h2
 go_wp2_with fail
 refine C8.out.mono ?_
 clear C8 x0
 rintro e w3 ⟨rfl, rfl⟩
 have B3 := Lib.hid (show Below w1.heap.size w1 (w2.alloc (.cells #[.string ⟨#[114, 111, 119, 115]⟩, .string ⟨#[99, 111, 117, 110, 116]⟩, .string ⟨#[115, 117, 109]⟩, .string ⟨#[109, 105, 110]⟩, .string ⟨#[109, 97, 120]⟩] 9)) from bt (below_alloc _ _) B2.out)
 obtain ⟨w3, hw3⟩ : ∃ z, z = w2.alloc (.cells #[.string ⟨#[114, 111, 119, 115]⟩, .string ⟨#[99, 111, 117, 110, 116]⟩, .string ⟨#[115, 117, 109]⟩, .string ⟨#[109, 105, 110]⟩, .string ⟨#[109, 97, 120]⟩] 9) := ⟨_, rfl⟩
 rw [← hw3] at B3 ⊢
 clear hw3
 have zc := (Z1.out.below B3.out).cell
 have x0 := zc 0
 have x1 := zc 1
 have x2 := zc 2
 have x3 := zc 3
 have x4 := zc 4
 have x5 := zc 5
 have x6 := zc 6
 have x7 := zc 7
 have zd := (Z0.out.below B3.out).cell
 have y0 := zd 0
 have y1 := zd 1
 have y2 := zd 2
 have CA := Lib.hid (HA.out w3 (bt B3.out B1.out))
 clear zc zd hs2 hs3 hs4
 go_wp2_with fail
 refine CA.out.mono ?_
 clear CA x0 x1 x2 x3 x4 x5 x6 x7 y0 y1 y2
 rintro e w4 ⟨rfl, h4⟩
 have B4 := Lib.hid (show Below w1.heap.size w1 w4 from bt h4.out B3.out)
 clear h4
 simp only [resV, Val.cells]
 obtain ⟨ev, hev⟩ : ∃ q, q = errV er := ⟨_, rfl⟩
 rw [← hev]
 go_upto_region 5 with fail
 obtain ⟨w5, hw5⟩ : ∃ x, x = w4.alloc (.cells #[.int .i64 vk, .int .i64 vi, .string vt, .bool vb] 26) := ⟨_, rfl⟩
 have B5 := Lib.hid (show Below w1.heap.size w1 w5 by rw [hw5]; exact bt (below_alloc _ _) B4.out)
 have ZV := Lib.hid (show Blk w5 w4.heap.size 26 #[.int .i64 vk, .int .i64 vi, .string vt, .bool vb] by rw [hw5]; exact Blk.new w4 26 _)
 rw [← hw5]
 clear hw5
 have ZR := Lib.hid (Z2.out.below B5.out)
 have hfz := fun o => ZR.out.frozen o
 have q0 := ZR.out.cell 0
 have q1 := ZR.out.cell 1
 have q2 := ZR.out.cell 2
 have q3 := ZR.out.cell 3
 have q4 := ZR.out.cell 4
 have q5 := ZR.out.cell 5
 have q6 := ZR.out.cell 6
 have q7 := ZR.out.cell 7
 have x1 := (Z1.out.below B5.out).cell 1
 have v0 := ZV.out.cell 0
 have v1 := ZV.out.cell 1
 have v2 := ZV.out.cell 2
 have v3 := ZV.out.cell 3
 have hs4 := ZR.out.lt
 have BW := Lib.hid (show Below w.heap.size w w5 from bt B5.out B1.out)
 go_wp2_with fail
 refine bodyPost_ret (results_ee (s := 6) (k := 7) rfl rfl rfl (ex_set ZR.out _ _ _ _ _ _ _ _)) rfl ⟨by rw [hev]; rfl, Lib.hid (by have hb := BW.out; have hs := hb.size; go_grown)⟩

end Go.Proofs.YtbcmmecilheicaaGreatDoor

/- exec's runner.of, over what filled leaves. -/
namespace Go.Proofs.YtbcmmecilheicaaGreatDoor
open Go Go.RowKit

/-- an expression comes back, or an error -/
def FillPost (lo : Nat) (y : Ex) (er : Option Int) (w : World) (e : Ending) (w' : World) : Prop := ∃ (A' : Option Addr) (n' c' : Nat), e = .returned (.tuple #[.agg #[.string y.op, .int .i64 y.kind, .int .i64 y.col, .int .i64 y.val.kind, .int .i64 y.val.int, .string y.val.text, .bool y.val.bool, .slice A' n' c'], errV er]) ∧ Hid (er = none → ExIn w' (fun b => b < lo ∨ w.heap.size ≤ b) y A' n' c') ∧ Hid (Below w.heap.size w w')
/-- an expression's value of rows, once it is filled -/
noncomputable def ofP (lb : List ByteArray) (rs : List (Int × List Val)) (y : Ex) : Option Int → Val × Option Int
 | some er => (Val.null, some er)
 | none => evalP ⟨(rs.headD (0, [])).1, (rs.headD (0, [])).2, lb⟩ y

set_option maxRecDepth 100000 in
set_option maxHeartbeats 8000000 in
theorem of45 (w : World) (tb : ByteArray) (T1 : Option Addr) (t1 u1 : Nat) (T2 : Option Addr) (t2 u2 : Nat) (T3 : Option Addr) (t3 u3 : Nat) (T4 : Option Addr) (t4 u4 : Nat) (T5 : Option Addr) (t5 u5 : Nat) (lim : Int) (ag : Bool) (T8 : Option Addr) (t8 u8 : Nat) (RA : Option Addr) (rn rc : Nat) (rs : List (Int × List Val)) (hr : RowsAt w RA rn rs) (hn : rn ≤ 1000000) (htx : RowsTx rs) (i1 : Option Addr) (n1 c1 : Nat) (i2 : Option Addr) (n2 c2 : Nat) (x : Ex) (A : Option Addr) (n c : Nat)
  (lb : List ByteArray) (LA : Option Addr) (ln lc : Nat) (hlb : StrsAt w LA ln lb) (hlt : ∀ z ∈ lb, z.size ≤ TB) (y : Ex) (er : Option Int)
  (hF : ∀ W, Below w.heap.size w W → Calls Tryz.prog 129 #[.agg #[.slice RA rn rc, .slice i1 n1 c1, .slice i2 n2 c2], .agg #[.string x.op, .int .i64 x.kind, .int .i64 x.col, .int .i64 x.val.kind, .int .i64 x.val.int, .string x.val.text, .bool x.val.bool, .slice A n c], .slice LA ln lc] W (FillPost w.heap.size y er W)) :
  Calls Tryz.prog 93 #[.agg #[.string tb, .slice T1 t1 u1, .slice T2 t2 u2, .slice T3 t3 u3, .slice T4 t4 u4, .slice T5 t5 u5, .int .i64 lim, .bool ag, .slice T8 t8 u8, .slice LA ln lc], .agg #[.slice RA rn rc, .slice i1 n1 c1, .slice i2 n2 c2], .agg #[.string x.op, .int .i64 x.kind, .int .i64 x.col, .int .i64 x.val.kind, .int .i64 x.val.int, .string x.val.text, .bool x.val.bool, .slice A n c]] w
   fun e w' => e = .returned (resV (ofP lb rs y er)) ∧ Hid (Below w.heap.size w w') := by
 obtain ⟨w1, hw1⟩ : ∃ z, z = (((w.alloc (.cells #[.string tb, .slice T1 t1 u1, .slice T2 t2 u2, .slice T3 t3 u3, .slice T4 t4 u4, .slice T5 t5 u5, .int .i64 lim, .bool ag, .slice T8 t8 u8, .slice LA ln lc] 141)).alloc (.cells #[.slice RA rn rc, .slice i1 n1 c1, .slice i2 n2 c2] 147)).alloc (.cells #[.string x.op, .int .i64 x.kind, .int .i64 x.col, .int .i64 x.val.kind, .int .i64 x.val.int, .string x.val.text, .bool x.val.bool, .slice A n c] 51)).alloc (.cells #[.int .i64 0, .int .i64 0, .string ⟨#[]⟩, .bool false] 26) := ⟨_, rfl⟩
 have B1 := Lib.hid (show Below w.heap.size w w1 by rw [hw1]; exact bt (below_alloc _ _) (bt (below_alloc _ _) (bt (below_alloc _ _) (below_alloc _ _))))
 have ZQ := Lib.hid (show Blk w1 w.heap.size 141 #[.string tb, .slice T1 t1 u1, .slice T2 t2 u2, .slice T3 t3 u3, .slice T4 t4 u4, .slice T5 t5 u5, .int .i64 lim, .bool ag, .slice T8 t8 u8, .slice LA ln lc] by rw [hw1]; exact (((Blk.new w 141 _).alloc _).alloc _).alloc _)
 have Z0 := Lib.hid (show Blk w1 (w.heap.size + 1) 147 #[.slice RA rn rc, .slice i1 n1 c1, .slice i2 n2 c2] by rw [hw1]; exact ((blk_new' (w := w.alloc _) rfl (by simp)).alloc _).alloc _)
 have Z1 := Lib.hid (show Blk w1 (w.heap.size + 1 + 1) 51 #[.string x.op, .int .i64 x.kind, .int .i64 x.col, .int .i64 x.val.kind, .int .i64 x.val.int, .string x.val.text, .bool x.val.bool, .slice A n c] by rw [hw1]; exact (blk_new' (w := (w.alloc _).alloc _) rfl (by simp)).alloc _)
 have Z2 := Lib.hid (show Blk w1 (w.heap.size + 1 + 1 + 1) 26 #[.int .i64 0, .int .i64 0, .string ⟨#[]⟩, .bool false] by rw [hw1]; exact blk_new' (w := ((w.alloc _).alloc _).alloc _) rfl (by simp))
 have HR := Lib.hid hr
 have HTX := Lib.hid htx
 have HLB := Lib.hid hlb
 have HLT := Lib.hid hlt
 have CF := Lib.hid (hF w1 B1.out)
 unfold FillPost at CF
 clear hr htx hlb hlt hF
 go_enter Tryz.func93, Tryz.ntmps93
 go_upto_region 1 with fail
 rw [← hw1]
 clear hw1
 have zq := (ZQ.out).cell 9
 have zc := Z1.out.cell
 have x0 := zc 0
 have x1 := zc 1
 have x2 := zc 2
 have x3 := zc 3
 have x4 := zc 4
 have x5 := zc 5
 have x6 := zc 6
 have x7 := zc 7
 have zd := Z0.out.cell
 have y0 := zd 0
 have y1 := zd 1
 have y2 := zd 2
 have hs1 := Z2.out.lt
 clear zc zd
 go_wp2_with fail
 refine CF.out.mono ?_
 clear CF zq x0 x1 x2 x3 x4 x5 x6 x7 y0 y1 y2
 rintro e w2 ⟨A', n', c', rfl, hx, h2⟩
 have zx := Z1.out.below h2.out
 have hfz := fun o => zx.frozen o
 have zc := zx.cell
 have x0 := zc 0
 have x1 := zc 1
 have x2 := zc 2
 have x3 := zc 3
 have x4 := zc 4
 have x5 := zc 5
 have x6 := zc 6
 have x7 := zc 7
 have hs2 := h2.out.size
 clear zc
 obtain ⟨ev, hev⟩ : ∃ q, q = errV er := ⟨_, rfl⟩
 rw [← hev]
 go_upto_region 2 with fail
 obtain ⟨w3, hw3⟩ : ∃ z, z = ((((((((w2.setCell ⟨w.heap.size + 1 + 1, 0, none⟩ (.string y.op)).setCell ⟨w.heap.size + 1 + 1, 1, none⟩ (.int .i64 y.kind)).setCell ⟨w.heap.size + 1 + 1, 2, none⟩ (.int .i64 y.col)).setCell ⟨w.heap.size + 1 + 1, 3, none⟩ (.int .i64 y.val.kind)).setCell ⟨w.heap.size + 1 + 1, 4, none⟩ (.int .i64 y.val.int)).setCell ⟨w.heap.size + 1 + 1, 5, none⟩ (.string y.val.text)).setCell ⟨w.heap.size + 1 + 1, 6, none⟩ (.bool y.val.bool)).setCell ⟨w.heap.size + 1 + 1, 7, none⟩ (.slice A' n' c')) := ⟨_, rfl⟩
 rw [← hw3]
 have hs3 : w3.heap.size = w2.heap.size := by rw [hw3]; simp [World.setCell]
 have far : ∀ b, b ≠ w.heap.size + 1 + 1 → w3.heap[b]? = w2.heap[b]? := fun b hb => by rw [hw3]; exact ex_far hb _ _ _ _ _ _ _ _
 have K1 := Lib.hid (show Blk w3 (w.heap.size + 1 + 1) 51 #[.string y.op, .int .i64 y.kind, .int .i64 y.col, .int .i64 y.val.kind, .int .i64 y.val.int, .string y.val.text, .bool y.val.bool, .slice A' n' c'] by rw [hw3]; exact ex_set zx _ _ _ _ _ _ _ _)
 have KQ := Lib.hid (show Blk w3 w.heap.size 141 _ from (far _ (by omega)).trans (ZQ.out.below h2.out))
 have K0 := Lib.hid (show Blk w3 (w.heap.size + 1) 147 _ from (far _ (by omega)).trans (Z0.out.below h2.out))
 have K2 := Lib.hid (show Blk w3 (w.heap.size + 1 + 1 + 1) 26 _ from (far _ (by omega)).trans (Z2.out.below h2.out))
 have B3 := Lib.hid (show Below w.heap.size w w3 by rw [hw3]; have hb := bt h2.out B1.out; have hs := hb.size; go_grown)
 have HY := Lib.hid (fun h => ((hx.out h).keep (S' := fun _ => True) (fun b hb hl => far b (by rcases hb with hb | hb <;> omega)) (fun _ _ _ => trivial) (by omega)).is)
 clear hs3 hw3 far zx hfz x0 x1 x2 x3 x4 x5 x6 x7 hx h2
 cases er with
 | some er =>
  subst hev
  simp only [errV]
  go_wp2_with fail
  refine (null34 _).mono ?_
  rintro e w4 ⟨rfl, h4⟩
  have B4 := Lib.hid (show Below w.heap.size w w4 from bt h4.out B3.out)
  have ZR := Lib.hid (K2.out.below h4.out)
  have hfz := fun o => ZR.out.frozen o
  have q0 := ZR.out.cell 0
  have q1 := ZR.out.cell 1
  have q2 := ZR.out.cell 2
  have q3 := ZR.out.cell 3
  clear h4
  go_wp2_with fail
  refine bodyPost_ret (results_cv (s := 6) (k := 7) rfl rfl rfl (val_set ZR.out _ _ _ _)) rfl ⟨rfl, Lib.hid (by have hb := B4.out; have hs := hb.size; go_grown)⟩
 | none =>
  subst hev
  simp only [errV]
  have HYI := Lib.hid (HY.out rfl)
  clear HY
  by_cases h0 : rn = 0
  ·subst h0
   obtain rfl : rs = [] := List.eq_nil_of_length_eq_zero HR.out.len
   have EE := Lib.hid (show ofP lb [] y none = evalP ⟨0, [], lb⟩ y from rfl)
   have z00 := K0.out.cell 0
   have hs8 := K0.out.lt
   go_upto_region 7 with fail
   obtain ⟨w5, hw5⟩ : ∃ z, z = w3.alloc (.cells #[.int .i64 0, .slice none 0 0] 32) := ⟨_, rfl⟩
   rw [← hw5]
   have ZW := Lib.hid (show Blk w5 w3.heap.size 32 #[.int .i64 0, .slice none 0 0] by rw [hw5]; exact Blk.new w3 32 _)
   have B35 := Lib.hid (show Below w3.heap.size w3 w5 by rw [hw5]; exact below_alloc _ _)
   clear hw5 z00
   have CC0 := of9 (W := w5) ⟨0, [], lb⟩ none 0 0 LA ln lc ⟨ValsAt.nil _ _, HLB.out.below (bt B35.out B3.out), fun v hv => by simp at hv, HLT.out⟩ (HYI.out.bel B35.out)
   obtain ⟨⟨⟨rk, ri, rs', rb⟩, re⟩, hre⟩ : ∃ q, q = evalP ⟨0, [], lb⟩ y := ⟨_, rfl⟩
   rw [← hre] at CC0
   have CC := Lib.hid CC0
   clear CC0
   have z29 := ZW.out.cell
   have a0 := z29 0
   have a1 := z29 1
   have zc := (K1.out.below B35.out).cell
   have x0 := zc 0
   have x1 := zc 1
   have x2 := zc 2
   have x3 := zc 3
   have x4 := zc 4
   have x5 := zc 5
   have x6 := zc 6
   have x7 := zc 7
   have zq := (KQ.out.below B35.out).cell 9
   have K25 := Lib.hid (K2.out.below B35.out)
   have hs5 := K25.out.lt
   have hs6 := B35.out.size
   have B5 := Lib.hid (show Below w.heap.size w w5 from bt B35.out B3.out)
   clear z29 zc
   go_wp2_with fail
   refine CC.out.mono ?_
   clear CC a0 a1 x0 x1 x2 x3 x4 x5 x6 x7 zq
   rintro e w6 ⟨rfl, h6⟩
   have B6 := Lib.hid (show Below w.heap.size w w6 from bt h6.out B5.out)
   have ZR := Lib.hid (K25.out.below h6.out)
   have hfz := fun o => ZR.out.frozen o
   have q0 := ZR.out.cell 0
   have q1 := ZR.out.cell 1
   have q2 := ZR.out.cell 2
   have q3 := ZR.out.cell 3
   have hs7 := h6.out.size
   clear h6
   rw [← hre] at EE
   simp only [resV, Val.cells]
   go_wp2_with fail
   refine bodyPost_ret (results_cv (s := 6) (k := 7) rfl rfl rfl (val_set ZR.out _ _ _ _)) rfl ⟨by rw [EE.out]; rfl, Lib.hid (by have hb := B6.out; have hs := hb.size; go_grown)⟩
  ·obtain ⟨r, hr⟩ : ∃ r, rs[0]? = some r := ⟨_, List.getElem?_eq_getElem (by rw [HR.out.len]; omega)⟩
   have EE := Lib.hid (show ofP lb rs y none = evalP ⟨r.1, r.2, lb⟩ y by
    cases rs with
    | nil => simp at hr
    | cons r0 l => obtain rfl : r0 = r := by simpa using hr
                   rfl)
   obtain ⟨b, off, VA, vn, vc, rfl, hb, p0, p1, hv, hvn⟩ := (HR.out.below B3.out).at_ 0 r hr
   simp only [Nat.zero_mul, Nat.add_zero] at p0 p1
   have HV := Lib.hid hv
   have HVT := Lib.hid (fun v hv => HTX.out r (List.mem_of_getElem? hr) v hv)
   have z00 := K0.out.cell 0
   have hs8 := K0.out.lt
   have hn1 : 0 < rn := by omega
   have hn2 : (0 : Int) < (rn : Int) := by omega
   have hn3 : ¬ rn ≤ 0 := by omega
   clear hr hv
   go_upto_region 7 with fail
   obtain ⟨w5, hw5⟩ : ∃ z, z = w3.alloc (.cells #[.int .i64 r.1, .slice VA vn vc] 32) := ⟨_, rfl⟩
   have ZW := Lib.hid (show Blk w5 w3.heap.size 32 #[.int .i64 r.1, .slice VA vn vc] by rw [hw5]; exact Blk.new w3 32 _)
   have B35 := Lib.hid (show Below w3.heap.size w3 w5 by rw [hw5]; exact below_alloc _ _)
   rw [← hw5]
   clear hw5 z00 p0 p1
   have CC0 := of9 (W := w5) ⟨r.1, r.2, lb⟩ VA vn vc LA ln lc ⟨HV.out.below B35.out, HLB.out.below (bt B35.out B3.out), HVT.out, HLT.out⟩ (HYI.out.bel B35.out)
   obtain ⟨⟨⟨rk, ri, rs', rb⟩, re⟩, hre⟩ : ∃ q, q = evalP ⟨r.1, r.2, lb⟩ y := ⟨_, rfl⟩
   rw [← hre] at CC0
   have CC := Lib.hid CC0
   clear CC0
   have z29 := ZW.out.cell
   have a0 := z29 0
   have a1 := z29 1
   have zc := (K1.out.below B35.out).cell
   have x0 := zc 0
   have x1 := zc 1
   have x2 := zc 2
   have x3 := zc 3
   have x4 := zc 4
   have x5 := zc 5
   have x6 := zc 6
   have x7 := zc 7
   have zq := (KQ.out.below B35.out).cell 9
   have K25 := Lib.hid (K2.out.below B35.out)
   have hs5 := K25.out.lt
   have hs6 := B35.out.size
   have B5 := Lib.hid (show Below w.heap.size w w5 from bt B35.out B3.out)
   clear z29 zc
   go_wp2_with fail
   refine CC.out.mono ?_
   clear CC a0 a1 x0 x1 x2 x3 x4 x5 x6 x7 zq
   rintro e w6 ⟨rfl, h6⟩
   have B6 := Lib.hid (show Below w.heap.size w w6 from bt h6.out B5.out)
   have ZR := Lib.hid (K25.out.below h6.out)
   have hfz := fun o => ZR.out.frozen o
   have q0 := ZR.out.cell 0
   have q1 := ZR.out.cell 1
   have q2 := ZR.out.cell 2
   have q3 := ZR.out.cell 3
   have hs7 := h6.out.size
   clear h6
   rw [← hre] at EE
   simp only [resV, Val.cells]
   go_wp2_with fail
   refine bodyPost_ret (results_cv (s := 6) (k := 7) rfl rfl rfl (val_set ZR.out _ _ _ _)) rfl ⟨by rw [EE.out]; rfl, Lib.hid (by have hb := B6.out; have hs := hb.size; go_grown)⟩

end Go.Proofs.YtbcmmecilheicaaGreatDoor

/- exec.filter: the rows of which conditions are true. -/
namespace Go.Proofs.YtbcmmecilheicaaGreatDoor
open Go Go.RowKit

noncomputable def keepP (lb : List ByteArray) (wh : List Ex) : List (Int × List Val) → List (Int × List Val) × Option Int
 | [] => ([], none)
 | r :: rs => match trueP ⟨r.1, r.2, lb⟩ wh with
  | (_, some er) => ([], some er)
  | (q, none) => match keepP lb wh rs with
   | (_, some er) => ([], some er)
   | (l, none) => (if q = true then r :: l else l, none)
def SofarK (lb : List ByteArray) (wh : List Ex) (rs : List (Int × List Val)) (i : Nat) (vs : List (Int × List Val)) : Prop :=
 keepP lb wh rs = match keepP lb wh (rs.drop i) with
  | (_, some er) => ([], some er)
  | (l, none) => (vs ++ l, none)
theorem keepP_err (lb : List ByteArray) (wh : List Ex) : ∀ (rs : List (Int × List Val)) (l : List (Int × List Val)) (er : Int), keepP lb wh rs = (l, some er) → l = []
 | [], l, er, h => by rw [keepP] at h; cases h
 | r :: rs, l, er, h => by
  rw [keepP] at h
  rcases hx : trueP ⟨r.1, r.2, lb⟩ wh with ⟨v, e1⟩
  rw [hx] at h
  cases e1 with
  | some e1 => injection h with h1 h2; exact h1.symm
  | none =>
   rcases hl : keepP lb wh rs with ⟨l2, e2⟩
   rw [hl] at h
   cases e2 with
   | some e2 => injection h with h1 h2; exact h1.symm
   | none => injection h with h1 h2; cases h2
theorem SofarK.zero (lb : List ByteArray) (wh : List Ex) (rs : List (Int × List Val)) : SofarK lb wh rs 0 [] := by
 unfold SofarK
 rw [List.drop_zero]
 rcases h : keepP lb wh rs with ⟨l, er⟩
 cases er with
 | none => rfl
 | some er => rw [keepP_err lb wh rs l er h]
theorem SofarK.err {lb : List ByteArray} {wh : List Ex} {rs : List (Int × List Val)} {i : Nat} {vs : List (Int × List Val)} (h : SofarK lb wh rs i vs) {r : Int × List Val} (hr : rs[i]? = some r) {q : Bool} {er : Int} (he : trueP ⟨r.1, r.2, lb⟩ wh = (q, some er)) : keepP lb wh rs = ([], some er) := by
 have hd : rs.drop i = r :: rs.drop (i + 1) := by
  have hlt := (List.getElem?_eq_some_iff.1 hr).1
  rw [List.drop_eq_getElem_cons hlt, (List.getElem?_eq_some_iff.1 hr).2]
 unfold SofarK at h
 rw [h, hd, keepP, he]
theorem SofarK.ok {lb : List ByteArray} {wh : List Ex} {rs : List (Int × List Val)} {i : Nat} {vs : List (Int × List Val)} (h : SofarK lb wh rs i vs) {r : Int × List Val} (hr : rs[i]? = some r) {q : Bool} (he : trueP ⟨r.1, r.2, lb⟩ wh = (q, none)) : SofarK lb wh rs (i + 1) (if q = true then vs ++ [r] else vs) := by
 have hd : rs.drop i = r :: rs.drop (i + 1) := by
  have hlt := (List.getElem?_eq_some_iff.1 hr).1
  rw [List.drop_eq_getElem_cons hlt, (List.getElem?_eq_some_iff.1 hr).2]
 unfold SofarK at h ⊢
 rw [h, hd, keepP, he]
 rcases hl : keepP lb wh (rs.drop (i + 1)) with ⟨l, er⟩
 cases q <;> cases er <;> simp
theorem SofarK.end_ {lb : List ByteArray} {wh : List Ex} {rs : List (Int × List Val)} {vs : List (Int × List Val)} (h : SofarK lb wh rs rs.length vs) : keepP lb wh rs = (vs, none) := by
 unfold SofarK at h
 rw [h, List.drop_length, keepP]
 simp

/-- the rows kept so far -/
structure KpI (w wr : World) (m : Nat) (Ao : Option Addr) (co : Nat) (gs : List (Int × Option Addr × Nat × Nat)) (vs : List (Int × List Val)) : Prop where
 old : Below w.heap.size w wr
 row : wr.ownsRow w.heap.size 32 2 (.slice Ao m co) m (rcells gs)
 len : gs.length = m
 vlen : vs.length = m
 val : ∀ (j : Nat) (e : Int × Option Addr × Nat × Nat) (r : Int × List Val), gs[j]? = some e → vs[j]? = some r → e.1 = r.1 ∧ e.2.2.1 * 40 ≤ 140737488355328 ∧ ValsAt w e.2.1 e.2.2.1 r.2
theorem KpI.zero (w : World) : KpI w w 0 none 0 [] [] := ⟨Below.refl _ _, World.ownsRow_nil _ _ _ _, rfl, rfl, fun j e r h => by simp at h⟩
theorem KpI.grow {w wr w2 : World} {m : Nat} {Ao : Option Addr} {co : Nat} {gs : List (Int × Option Addr × Nat × Nat)} {vs : List (Int × List Val)} (I : KpI w wr m Ao co gs vs) (h2 : Below wr.heap.size wr w2) : KpI w w2 m Ao co gs vs :=
 ⟨bt h2 I.old, own_below I.row h2, I.len, I.vlen, I.val⟩
theorem KpI.step {w wr : World} {m : Nat} {Ao : Option Addr} {co : Nat} {gs : List (Int × Option Addr × Nat × Nat)} {vs : List (Int × List Val)} (I : KpI w wr m Ao co gs vs) (hm : m + 1 ≤ 1000001) (r : Int × List Val) {VA : Option Addr} {n c : Nat} (hn : n * 40 ≤ 140737488355328) (hv : ValsAt w VA n r.2) (s : Nat) (z : Blk wr s 32 #[.int .i64 r.1, .slice VA n c]) :
  ∃ An cn w3, (Builtin.append_ #[60, 60] 60 #[.slice Ao m co, .slice (some ⟨s, 0, none⟩) 1 1]).run Tryz.prog wr = .ok (.slice An (m + 1) cn) w3 ∧ KpI w w3 (m + 1) An cn (gs ++ [(r.1, VA, n, c)]) (vs ++ [r]) := by
 have hs0 := I.old.size
 obtain ⟨An, cn, w3, hrun, hown, hg, hnew⟩ := app_some tRows 60 I.row hs0 ⟨s, 0, none⟩ 1 1 (by omega) (rcells [(r.1, VA, n, c)]) (rcells_len _) (fun j u hj => by
  rw [add_lit0, z.cell j]
  simpa [rcells] using hj) rcells_one (by unfold maxLen; omega) (by omega)
 have own_lt : ∀ k, (Value.slice Ao m co).ownBlock = some k → w.heap.size ≤ k ∧ k < wr.heap.size := I.row.lt
 refine ⟨An, cn, w3, hrun, ⟨⟨hg.os.trans I.old.os, hg.tape.trans I.old.tape, hg.output.trans I.old.output, Nat.le_trans hs0 hg.size, fun k hk => ?_⟩, by rw [rcells_append]; exact hown, by simp [I.len], by simp [I.vlen], fun j e q hj hq => ?_⟩⟩
 ·rw [hg.block k (by omega) (fun e => by have := (own_lt k e.symm).1; omega), I.old.block k hk]
 ·by_cases c1 : j < m
  ·rw [List.getElem?_append_left (by rw [I.len]; exact c1)] at hj
   rw [List.getElem?_append_left (by rw [I.vlen]; exact c1)] at hq
   exact I.val j e q hj hq
  ·have hj' : j = m := by
    have := (List.getElem?_eq_some_iff.1 hj).1
    rw [List.length_append, I.len] at this
    simp at this; omega
   subst hj'
   rw [List.getElem?_append_right (by rw [I.len]; exact Nat.le_refl _), I.len] at hj
   rw [List.getElem?_append_right (by rw [I.vlen]; exact Nat.le_refl _), I.vlen] at hq
   obtain rfl : (r.1, VA, n, c) = e := by simpa using hj
   obtain rfl : r = q := by simpa using hq
   exact ⟨rfl, hn, hv⟩
theorem KpI.rows {w wr : World} {m : Nat} {Ao : Option Addr} {co : Nat} {gs : List (Int × Option Addr × Nat × Nat)} {vs : List (Int × List Val)} (I : KpI w wr m Ao co gs vs) : RowsAt wr Ao m vs :=
 ⟨I.vlen, fun j r hj => by
  obtain ⟨e, he⟩ : ∃ e, gs[j]? = some e := ⟨_, List.getElem?_eq_getElem (by have := (List.getElem?_eq_some_iff.1 hj).1; rw [I.len, ← I.vlen]; exact this)⟩
  obtain ⟨e1, e2, e3⟩ := I.val j e r he hj
  obtain ⟨k0, k1⟩ := rcells_at he
  obtain ⟨g, eg, hg, -, c0, -⟩ := own_at I.row k0
  obtain ⟨g', eg', -, -, c1, -⟩ := own_at I.row k1
  rw [eg] at eg'
  injection eg' with eg'; injection eg' with eg'; subst eg'
  refine ⟨g, 0, e.2.1, e.2.2.1, e.2.2.2, eg, hg, ?_, ?_, e3.below I.old, e2⟩
  ·rw [Nat.zero_add, ← e1]; exact c0
  ·rw [Nat.zero_add]; exact c1⟩

/-- what filter leaves -/
def KeepPost (lb : List ByteArray) (wh : List Ex) (rs : List (Int × List Val)) (w : World) (e : Ending) (w' : World) : Prop := ∃ (A' : Option Addr) (k c' : Nat), e = .returned (.tuple #[.slice A' k c', errV (keepP lb wh rs).2]) ∧ k ≤ rs.length ∧ k ≤ c' ∧ Hid (RowsAt w' A' k (keepP lb wh rs).1) ∧ Hid (Below w.heap.size w w')
theorem RowsAt.nil (W : World) (A : Option Addr) : RowsAt W A 0 [] := ⟨rfl, fun j r h => by simp at h⟩

set_option maxRecDepth 100000 in
set_option maxHeartbeats 8000000 in
theorem filter28 (w : World) (A : Option Addr) (n c : Nat) (wh : List Ex) (hwh : ExsAt w A n wh) (hn : n ≤ 1466015503701) (RA : Option Addr) (rn rc : Nat) (rs : List (Int × List Val)) (hr : RowsAt w RA rn rs) (hrn : rn ≤ 1000000) (htx : RowsTx rs) (lb : List ByteArray) (LA : Option Addr) (ln lc : Nat) (hlb : StrsAt w LA ln lb) (hlt : ∀ z ∈ lb, z.size ≤ TB) :
  Calls Tryz.prog 55 #[.slice A n c, .slice RA rn rc, .slice LA ln lc] w (KeepPost lb wh rs w) := by
 have HW := Lib.hid hwh
 have HR := Lib.hid hr
 have HT := Lib.hid htx
 have HLB := Lib.hid hlb
 have HLT := Lib.hid hlt
 have HN := Lib.hid hn
 clear hwh hr htx hlb hlt hn
 go_enter Tryz.func55, Tryz.ntmps55
 go_wp2_with fail
 go_loopg [8, 15] rn (fun kx s8 s15 wr => ∃ (i m : Nat) (Ao : Option Addr) (co : Nat), s8 = .slice Ao m co ∧ s15 = .int .i64 i ∧ kx + i = rn ∧ m ≤ i ∧ Hid (∃ gs vs, KpI w wr m Ao co gs vs ∧ SofarK lb wh rs i vs))
 case atStart => exact ⟨0, 0, none, 0, rfl, rfl, rfl, Nat.le_refl _, Lib.hid ⟨[], [], KpI.zero w, SofarK.zero lb wh rs⟩⟩
 case round =>
  obtain ⟨i, m, Ao, co, rfl, rfl, hk, hm, I⟩ := hrel
  by_cases hi : i < rn
  ·obtain ⟨gs, vs, I1, I2⟩ := I.out
   obtain ⟨r, hr⟩ : ∃ r, rs[i]? = some r := ⟨_, List.getElem?_eq_getElem (by rw [HR.out.len]; exact hi)⟩
   obtain ⟨b, off, VA, vn, vc, rfl, hb0, p0, p1, hv, hvn⟩ := HR.out.at_ i r hr
   have q0 := (I1.old.cell (p := ⟨b, off + i * 2, none⟩) hb0).trans p0
   have q1 := (I1.old.cell (p := ⟨b, off + i * 2 + 1, none⟩) hb0).trans p1
   have hb := Nat.lt_of_lt_of_le hb0 I1.old.size
   have hiz : (i : Int) < (rn : Int) := by omega
   have hi0 : (0 : Int) ≤ (i : Int) := by omega
   have hi9 : (i : Int) < 1000001 := by omega
   have bx : Below wr.heap.size wr (wr.alloc (.cells #[.int .i64 r.1, .slice VA vn vc] 32)) := below_alloc _ _
   have bw : Below w.heap.size w (wr.alloc (.cells #[.int .i64 r.1, .slice VA vn vc] 32)) := bt bx I1.old
   have call0 := true44 (wr.alloc (.cells #[.int .i64 r.1, .slice VA vn vc] 32)) A n c wh (HW.out.below bw) HN.out ⟨r.1, r.2, lb⟩ VA vn vc LA ln lc ⟨hv.below bw, HLB.out.below bw, fun v hv => HT.out r (List.mem_of_getElem? hr) v hv, HLT.out⟩
   obtain ⟨⟨q, re⟩, hre⟩ : ∃ z, z = trueP ⟨r.1, r.2, lb⟩ wh := ⟨_, rfl⟩
   rw [← hre] at call0
   have CC := Lib.hid call0
   have HRE := Lib.hid hre.symm
   have RX := Lib.hid hr
   have II := Lib.hid I1
   have IS := Lib.hid I2
   have HV := Lib.hid hv
   have ZX := Lib.hid (Blk.new wr 32 #[.int .i64 r.1, .slice VA vn vc])
   clear hr bx bw call0 hre I hv I1 I2 p0 p1
   go_wp2_with fail
   refine CC.out.mono ?_
   clear CC q0 q1
   rintro e w2 ⟨rfl, h2⟩
   have H2 := Lib.hid (show Below wr.heap.size wr w2 from h2.out.from1)
   have Z2 := Lib.hid (ZX.out.below h2.out)
   clear h2
   cases re with
   | some er =>
    simp only [errV]
    have EE := Lib.hid (IS.out.err RX.out HRE.out)
    have BB := Lib.hid (bt H2.out II.out.old)
    go_wp2_with fail
    go_ret2
    exact ⟨none, 0, 0, by rw [EE.out]; rfl, Nat.zero_le _, Nat.le_refl _, Lib.hid (by rw [EE.out]; exact RowsAt.nil _ _), BB⟩
   | none =>
    simp only [errV]
    cases q with
    | false =>
     have NX := Lib.hid (show ∃ gs vs, KpI w w2 m Ao co gs vs ∧ SofarK lb wh rs (i + 1) vs from ⟨gs, vs, II.out.grow H2.out, by have h := IS.out.ok RX.out HRE.out; simpa using h⟩)
     go_wp2_with fail
     go_roundg (gk - 1)
     case measure => omega
     case rel => exact ⟨i + 1, m, Ao, co, rfl, by first | rfl | (simp; done), by omega, by omega, NX⟩
    | true =>
     have SS := Lib.hid (show SofarK lb wh rs (i + 1) (vs ++ [r]) by have h := IS.out.ok RX.out HRE.out; simpa using h)
     have a0 := Z2.out.cell 0
     have a1 := Z2.out.cell 1
     have hzl := Z2.out.lt
     obtain ⟨An, cn, w3, hrun, hI3⟩ := (II.out.grow (bt (below_alloc w2 (.cells #[.int .i64 r.1, .slice VA vn vc] 32)) H2.out)).step (by omega) r hvn HV.out w2.heap.size (Blk.new w2 32 #[.int .i64 r.1, .slice VA vn vc])
     have HRUN := Lib.hid hrun
     have NX := Lib.hid (show ∃ gs vs, KpI w w3 (m + 1) An cn gs vs ∧ SofarK lb wh rs (i + 1) vs from ⟨_, _, hI3, SS.out⟩)
     clear hrun hI3
     go_wp2_with (at_builtin; refine wpList_append_runI _ rfl _ _ 60 60 rfl (.slice Ao m co) (.slice (some ⟨w2.heap.size, 0, none⟩) 1 1) rfl rfl HRUN.out ?_)
     go_roundg (gk - 1)
     case measure => omega
     case rel => exact ⟨i + 1, m + 1, An, cn, by first | rfl | (simp; done), by first | rfl | (simp; done), by omega, by omega, NX⟩
  ·obtain rfl : rn = i := by omega
   have hiz : ¬ (rn : Int) < (rn : Int) := by omega
   obtain ⟨gs, vs, I1, I2⟩ := I.out
   have EE := Lib.hid (show keepP lb wh rs = (vs, none) by
    have hl := HR.out.len
    rw [← hl] at I2
    exact I2.end_)
   have hcap := (own_cap I1.row).2
   have VV := Lib.hid I1.rows
   have BB := Lib.hid I1.old
   have HRL := HR.out.len
   clear I I1 I2
   go_wp2_with fail
   go_ret2
   exact ⟨_, m, _, by rw [EE.out]; rfl, by omega, hcap, Lib.hid (by rw [EE.out]; exact VV.out), BB⟩

end Go.Proofs.YtbcmmecilheicaaGreatDoor

/- exec's runner.parts: all rows as one part. -/
namespace Go.Proofs.YtbcmmecilheicaaGreatDoor
open Go Go.RowKit

/-- one part comes back, of one's own -/
def PartOne (RA : Option Addr) (rn rc : Nat) (w : World) (e : Ending) (w' : World) : Prop := ∃ (A : Option Addr) (c : Nat), e = .returned (.slice A 1 c) ∧ Hid (w'.ownsRow w.heap.size 147 3 (.slice A 1 c) 1 [.slice RA rn rc, .slice none 0 0, .slice none 0 0]) ∧ Hid (Below w.heap.size w w')

set_option maxRecDepth 100000 in
set_option maxHeartbeats 8000000 in
theorem parts29a (w : World) (tb : ByteArray) (T1 : Option Addr) (t1 u1 : Nat) (T2 : Option Addr) (t2 u2 : Nat) (T3 : Option Addr) (t3 u3 : Nat) (T4 : Option Addr) (u4 : Nat) (T5 : Option Addr) (t5 u5 : Nat) (lim : Int) (RA : Option Addr) (rn rc : Nat) (LA : Option Addr) (ln lc : Nat) :
  Calls Tryz.prog 56 #[.agg #[.string tb, .slice T1 t1 u1, .slice T2 t2 u2, .slice T3 t3 u3, .slice T4 0 u4, .slice T5 t5 u5, .int .i64 lim, .bool true, .slice RA rn rc, .slice LA ln lc]] w (PartOne RA rn rc w) := by
 obtain ⟨w1, hw1⟩ : ∃ z, z = w.alloc (.cells #[.string tb, .slice T1 t1 u1, .slice T2 t2 u2, .slice T3 t3 u3, .slice T4 0 u4, .slice T5 t5 u5, .int .i64 lim, .bool true, .slice RA rn rc, .slice LA ln lc] 141) := ⟨_, rfl⟩
 have Z1 := Lib.hid (show Blk w1 w.heap.size 141 #[.string tb, .slice T1 t1 u1, .slice T2 t2 u2, .slice T3 t3 u3, .slice T4 0 u4, .slice T5 t5 u5, .int .i64 lim, .bool true, .slice RA rn rc, .slice LA ln lc] by rw [hw1]; exact Blk.new w 141 _)
 have B1 := Lib.hid (show Below w.heap.size w w1 by rw [hw1]; exact below_alloc _ _)
 have bz : Below w1.heap.size w1 (w1.alloc (.cells #[.slice RA rn rc, .slice none 0 0, .slice none 0 0] 147)) := below_alloc _ _
 obtain ⟨An, cn, w3, hrun, hown, hg, -⟩ := app_some tParts 142 (W := w1.alloc (.cells #[.slice RA rn rc, .slice none 0 0, .slice none 0 0] 147)) (B := w.heap.size) (Ao := none) (n := 0) (co := 0) (xs := []) (World.ownsRow_nil _ _ _ _) (Nat.le_trans B1.out.size bz.size) ⟨w1.heap.size, 0, none⟩ 1 1 (by omega) [.slice RA rn rc, .slice none 0 0, .slice none 0 0] rfl (fun j u hj => by
  rw [add_lit0, (Blk.new w1 147 _).cell j]
  simpa using hj) (fun u hu => by
   simp only [List.mem_cons, List.not_mem_nil, or_false] at hu
   rcases hu with rfl | rfl | rfl <;> rfl) (by unfold maxLen; omega) (by omega)
 simp only [Nat.zero_add, List.nil_append] at hrun hown
 have HRUN := Lib.hid hrun
 have HOWN := Lib.hid hown
 have BW := Lib.hid (show Below w.heap.size w w3 from bt ⟨hg.os, hg.tape, hg.output, hg.size, fun k hk => hg.block k hk (by simp [Value.ownBlock])⟩ (bt bz B1.out))
 have z4 := Z1.out.cell 4
 have z7 := Z1.out.cell 7
 have z8 := Z1.out.cell 8
 have hs1 := Z1.out.lt
 clear hrun hown hg bz
 go_enter Tryz.func56, Tryz.ntmps56
 go_upto_region 13 with fail
 rw [← hw1]
 clear hw1
 go_wp2_with (at_builtin; refine wpList_append_runI _ rfl _ _ 142 142 rfl (.slice none 0 0) (.slice (some ⟨w1.heap.size, 0, none⟩) 1 1) rfl rfl HRUN.out ?_)
 go_ret
 exact ⟨An, cn, rfl, HOWN, BW⟩

end Go.Proofs.YtbcmmecilheicaaGreatDoor

/- law 23's plain. -/
namespace Go.Proofs.YtbcmmecilheicaaGreatDoor
open Go Go.RowKit

def plainRows : List (Int × List Val) := [(0, [⟨1, 1, ⟨#[]⟩, false⟩]), (0, [⟨1, 2, ⟨#[]⟩, false⟩])]
def PlainPost (w : World) (e : Ending) (w' : World) : Prop := ∃ (A : Option Addr) (c : Nat), e = .returned (.slice A 2 c) ∧ Hid (RowsAt w' A 2 plainRows) ∧ Hid (Below w.heap.size w w')
set_option maxHeartbeats 4000000 in
theorem plain20 (w : World) : Calls Tryz.prog 46 #[] w (PlainPost w) := by
 go_enter Tryz.func46, Tryz.ntmps46
 go_wp2_with fail
 go_ret
 refine ⟨_, _, rfl, Lib.hid ⟨rfl, fun j r hj => ?_⟩, Lib.hid (by go_grown)⟩
 have z0 : Blk (((w.alloc (.cells #[.int .i64 1, .int .i64 1, .string ⟨#[]⟩, .bool false] 26)).alloc (.cells #[.int .i64 1, .int .i64 2, .string ⟨#[]⟩, .bool false] 26)).alloc (.cells #[.int .i64 0, .slice (some ⟨w.heap.size, 0, none⟩) 1 1, .int .i64 0, .slice (some ⟨w.heap.size + 1, 0, none⟩) 1 1] 32)) w.heap.size 26 #[.int .i64 1, .int .i64 1, .string ⟨#[]⟩, .bool false] := ((Blk.new w 26 _).alloc _).alloc _
 have z1 : Blk (((w.alloc (.cells #[.int .i64 1, .int .i64 1, .string ⟨#[]⟩, .bool false] 26)).alloc (.cells #[.int .i64 1, .int .i64 2, .string ⟨#[]⟩, .bool false] 26)).alloc (.cells #[.int .i64 0, .slice (some ⟨w.heap.size, 0, none⟩) 1 1, .int .i64 0, .slice (some ⟨w.heap.size + 1, 0, none⟩) 1 1] 32)) (w.heap.size + 1) 26 #[.int .i64 1, .int .i64 2, .string ⟨#[]⟩, .bool false] := (blk_new' (w := w.alloc _) rfl (by simp)).alloc _
 have z2 : Blk (((w.alloc (.cells #[.int .i64 1, .int .i64 1, .string ⟨#[]⟩, .bool false] 26)).alloc (.cells #[.int .i64 1, .int .i64 2, .string ⟨#[]⟩, .bool false] 26)).alloc (.cells #[.int .i64 0, .slice (some ⟨w.heap.size, 0, none⟩) 1 1, .int .i64 0, .slice (some ⟨w.heap.size + 1, 0, none⟩) 1 1] 32)) (w.heap.size + 1 + 1) 32 #[.int .i64 0, .slice (some ⟨w.heap.size, 0, none⟩) 1 1, .int .i64 0, .slice (some ⟨w.heap.size + 1, 0, none⟩) 1 1] := blk_new' (w := (w.alloc _).alloc _) rfl (by simp)
 match j, hj with
 | 0, hj =>
  obtain rfl : _ = r := Option.some.inj hj
  exact ⟨_, _, _, _, _, rfl, z2.lt, z2.cell 0, z2.cell 1, ValsAt.one (v := ⟨1, 1, ⟨#[]⟩, false⟩) z0, by omega⟩
 | 1, hj =>
  obtain rfl : _ = r := Option.some.inj hj
  exact ⟨_, _, _, _, _, rfl, z2.lt, z2.cell 2, z2.cell 3, ValsAt.one (v := ⟨1, 2, ⟨#[]⟩, false⟩) z1, by omega⟩
 | j + 2, hj => simp [plainRows] at hj
theorem plain_tx : RowsTx plainRows := fun r hr v hv => by
 simp only [plainRows, List.mem_cons, List.not_mem_nil, or_false] at hr
 have e : ByteArray.size ⟨#[]⟩ ≤ TB := by unfold TB; decide
 rcases hr with rfl | rfl <;> (simp only [List.mem_cons, List.not_mem_nil, or_false] at hv; subst hv; exact e)

end Go.Proofs.YtbcmmecilheicaaGreatDoor

/- What filled leaves of a sum: a literal. -/
namespace Go.Proofs.YtbcmmecilheicaaGreatDoor
open Go Go.RowKit

theorem argsP_size {W : World} {x : Ex} {A : Option Addr} {n c : Nat} (h : ExIs W x A n c) (lb : List ByteArray) (hl : ∀ z ∈ lb, z.size ≤ TB) : ∀ (rs : List (Int × List Val)), RowsTx rs → ∀ v ∈ (argsP lb x rs).1, v.text.size ≤ TB
 | [], _, v, hv => by rw [argsP] at hv; simp at hv
 | r :: rs, ht, v, hv => by
  have hs := h.size ⟨r.1, r.2, lb⟩ (ht r List.mem_cons_self) hl
  have ih := argsP_size h lb hl rs (fun q hq => ht q (List.mem_cons_of_mem _ hq))
  rw [argsP] at hv
  rcases hx : evalP ⟨r.1, r.2, lb⟩ x with ⟨u, e1⟩
  rw [hx] at hv hs
  cases e1 with
  | some e1 => simp at hv
  | none =>
   rcases hq : argsP lb x rs with ⟨l2, e2⟩
   rw [hq] at hv ih
   cases e2 with
   | some e2 => simp at hv
   | none =>
    by_cases hk : u.kind = 0
    ·simp [hk] at hv
     exact ih v hv
    ·simp [hk] at hv
     rcases hv with rfl | hv
     ·exact hs
     ·exact ih v hv
theorem sumL_size : ∀ (l : List Val) (s : Val), s.text.size ≤ TB → (sumL s l).1.text.size ≤ TB
 | [], s, h => by rw [sumL]; exact h
 | v :: l, s, h => by
  rw [sumL]
  have hs := reckon_size 43 s v
  rcases hr : reckonP 43 s v with ⟨u, e⟩
  rw [hr] at hs
  cases e with
  | some e => exact Nat.zero_le _
  | none => exact sumL_size l u hs
theorem sumP_size {W : World} {x : Ex} {A : Option Addr} {n c : Nat} (h : ExIs W x A n c) (lb : List ByteArray) (hl : ∀ z ∈ lb, z.size ≤ TB) (rs : List (Int × List Val)) (ht : RowsTx rs) : (sumP lb x rs).1.text.size ≤ TB := by
 have hs := argsP_size h lb hl rs ht
 unfold sumP
 rcases hq : argsP lb x rs with ⟨l, e⟩
 rw [hq] at hs
 cases e with
 | some e => exact Nat.zero_le _
 | none =>
  cases l with
  | nil => exact Nat.zero_le _
  | cons v l => exact sumL_size l v (hs v List.mem_cons_self)
/-- a value, as a literal -/
def litEx (kind : Int) (v : Val) : Ex := .mk ⟨#[108, 105, 116]⟩ kind 0 v []
theorem lit_in (W : World) (S : Nat → Prop) (kind : Int) (v : Val) (h : v.text.size ≤ TB) : ExIn W S (litEx kind v) none 0 0 :=
 .mk _ _ _ _ [] none 0 0 rfl (Nat.zero_le _) h 0 0 (fun h => absurd h (Nat.lt_irrefl _)) (fun _ => none) (fun _ => 0) (fun _ => 0) (fun j e h => by simp at h) (fun j e h => by simp at h)
theorem lit_eval (E : Env) (kind : Int) (v : Val) : evalP E (litEx kind v) = (v, none) := by
 unfold litEx
 rw [evalP_mk, evalL_nil, evo_lit]

theorem sum_in : isIn ⟨#[115, 117, 109]⟩ aggs = true := List.any_eq_true.2 ⟨⟨#[115, 117, 109]⟩, by unfold aggs; simp, by simp⟩
/-- what filled leaves of a sum -/
theorem fill_sum (w : World) (RA : Option Addr) (rn rc : Nat) (rs : List (Int × List Val)) (hr : RowsAt w RA rn rs) (hn : rn ≤ 1000000) (htx : RowsTx rs) (i1 : Option Addr) (n1 c1 : Nat) (i2 : Option Addr) (n2 c2 : Nat) (kind col : Int) (v : Val) (b off n c : Nat) (hb : b < w.heap.size) (hn0 : (0 : Int) < n)
  (y : Ex) (Ay : Option Addr) (ny cy : Nat) (hy : ExC w b off y Ay ny cy) (hyi : ExIs w y Ay ny cy) (lb : List ByteArray) (LA : Option Addr) (ln lc : Nat) (hlb : StrsAt w LA ln lb) (hlt : ∀ z ∈ lb, z.size ≤ TB) (lo : Nat) :
  Calls Tryz.prog 129 #[.agg #[.slice RA rn rc, .slice i1 n1 c1, .slice i2 n2 c2], .agg #[.string ⟨#[115, 117, 109]⟩, .int .i64 kind, .int .i64 col, .int .i64 v.kind, .int .i64 v.int, .string v.text, .bool v.bool, .slice (some ⟨b, off, none⟩) n c], .slice LA ln lc] w
   (FillPost lo (litEx kind (sumP lb y rs).1) (sumP lb y rs).2 w) :=
 (filled65a w RA rn rc i1 n1 c1 i2 n2 c2 ⟨#[115, 117, 109]⟩ kind col v (some ⟨b, off, none⟩) n c sum_in LA ln lc (sumP lb y rs).1 (sumP lb y rs).2 (fun W h => sum82 W RA rn rc rs (hr.below h) hn htx i1 n1 c1 i2 n2 c2 kind col v b off n c (Nat.lt_of_lt_of_le hb h.size) hn0 y Ay ny cy (hy.below hb h) (hyi.bel h) lb LA ln lc (hlb.below h) hlt)).mono fun _ _ ⟨he, h2⟩ => ⟨none, 0, 0, he, Lib.hid (fun _ => lit_in _ _ _ _ (sumP_size hyi lb hlt rs htx)), h2⟩

end Go.Proofs.YtbcmmecilheicaaGreatDoor
