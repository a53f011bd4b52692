/- exec's part.filled, runner.of: of an aggregate; of an expression without aggregates. exec's runner.of, over what filled leaves. -/
import Derived.Test.YtbcmmecilheicaaSum

/- exec's part.filled, runner.of: of an aggregate; of an expression without aggregates. -/
namespace Go.Proofs.Ytbcmmecilheicaa
open Go Go.RowKit

theorem results_ee {fn : Func} {s k : Nat} (h : fn.results = #[.cell s 37, .tmp k]) {tmps : Array Value} {W : World} {b : Nat} {c0 c1 c2 c3 c4 c5 c6 c7 er : Value} (hs : tmps[s]? = some (.pointer (some ⟨b, 0, none⟩))) (hk : tmps[k]? = some er) (z : Blk W b 37 #[c0, c1, c2, c3, c4, c5, c6, c7]) :
    (results fn tmps).run Try.prog W = .ok (.tuple #[.agg #[c0, c1, c2, c3, c4, c5, c6, c7], er]) W := by
  have q0 := z.cell 0
  have q1 := z.cell 1
  have q2 := z.cell 2
  have q3 := z.cell 3
  have q4 := z.cell 4
  have q5 := z.cell 5
  have q6 := z.cell 6
  have q7 := z.cell 7
  simp [results, h, hs, hk, go_sem, q0, q1, q2, q3, q4, q5, q6, q7]

set_option maxRecDepth 100000 in
set_option maxHeartbeats 8000000 in
/-- of an aggregate: its value, as a literal -/
theorem filled65a (w : World) (RA : Option Addr) (rn rc : Nat) (i1 : Option Addr) (n1 c1 : Nat) (i2 : Option Addr) (n2 c2 : Nat) (op : ByteArray) (kind col : Int) (xv : Val) (A : Option Addr) (n c : Nat) (hop : isIn op aggs = true) (LA : Option Addr) (ln lc : Nat) (v : Val) (er : Option Int)
    (CA : ∀ W, Below w.heap.size w W → Calls Try.prog 82 #[.agg #[.slice RA rn rc, .slice i1 n1 c1, .slice i2 n2 c2], .agg #[.string op, .int .i64 kind, .int .i64 col, .int .i64 xv.kind, .int .i64 xv.int, .string xv.text, .bool xv.bool, .slice A n c], .slice LA ln lc] W fun e w' => e = .returned (resV (v, er)) ∧ Hid (Below W.heap.size W w')) :
    Calls Try.prog 65 #[.agg #[.slice RA rn rc, .slice i1 n1 c1, .slice i2 n2 c2], .agg #[.string op, .int .i64 kind, .int .i64 col, .int .i64 xv.kind, .int .i64 xv.int, .string xv.text, .bool xv.bool, .slice A n c], .slice LA ln lc] w
      fun e w' => e = .returned (.tuple #[.agg #[.string ⟨#[108, 105, 116]⟩, .int .i64 kind, .int .i64 0, .int .i64 v.kind, .int .i64 v.int, .string v.text, .bool v.bool, .slice none 0 0], errV er]) ∧ Hid (Below w.heap.size w w') := by
  obtain ⟨vk, vi, vt, vb⟩ := v
  obtain ⟨w1, hw1⟩ : ∃ z, z = ((w.alloc (.cells #[.slice RA rn rc, .slice i1 n1 c1, .slice i2 n2 c2] 85)).alloc (.cells #[.string op, .int .i64 kind, .int .i64 col, .int .i64 xv.kind, .int .i64 xv.int, .string xv.text, .bool xv.bool, .slice A n c] 37)).alloc (.cells #[.string ⟨#[]⟩, .int .i64 0, .int .i64 0, .int .i64 0, .int .i64 0, .string ⟨#[]⟩, .bool false, .slice none 0 0] 37) := ⟨_, rfl⟩
  have B1 := Lib.hid (show Below w.heap.size w w1 by rw [hw1]; exact bt (below_alloc _ _) (bt (below_alloc _ _) (below_alloc _ _)))
  have Z0 := Lib.hid (show Blk w1 w.heap.size 85 #[.slice RA rn rc, .slice i1 n1 c1, .slice i2 n2 c2] by rw [hw1]; exact ((Blk.new w 85 _).alloc _).alloc _)
  have Z1 := Lib.hid (show Blk w1 (w.heap.size + 1) 37 #[.string op, .int .i64 kind, .int .i64 col, .int .i64 xv.kind, .int .i64 xv.int, .string xv.text, .bool xv.bool, .slice A n c] by rw [hw1]; exact (blk_new' (w := w.alloc _) rfl (by simp)).alloc _)
  have Z2 := Lib.hid (show Blk w1 (w.heap.size + 1 + 1) 37 #[.string ⟨#[]⟩, .int .i64 0, .int .i64 0, .int .i64 0, .int .i64 0, .string ⟨#[]⟩, .bool false, .slice none 0 0] by rw [hw1]; exact blk_new' (w := (w.alloc _).alloc _) rfl (by simp))
  have HA := Lib.hid CA
  have HOP := Lib.hid hop
  clear CA hop
  have zc := Z1.out.cell
  have x0 := zc 0
  have x1 := zc 1
  have x2 := zc 2
  have x3 := zc 3
  have x4 := zc 4
  have x5 := zc 5
  have x6 := zc 6
  have x7 := zc 7
  have hs1 := Z2.out.lt
  clear zc
  go_enter Try.func65, Try.ntmps65
  go_wp2_with fail
  rw [← hw1]
  clear hw1
  refine (agg33t w1 (.mk op kind col xv []) A n c HOP.out).mono ?_
  clear x0 x1 x2 x3 x4 x5 x6 x7
  rintro e w2 ⟨rfl, h2⟩
  have zc := (Z1.out.below h2.out).cell
  have x0 := zc 0
  have hs2 := h2.out.size
  have hs3 : w.heap.size + 1 < w2.heap.size := by omega
  have hs4 : w.heap.size + 1 < w2.heap.size + 1 := by omega
  have B2 := Lib.hid (show Below w1.heap.size w1 w2 from h2.out)
  have C8 := Lib.hid (contains68g (w2.alloc (.cells #[.string ⟨#[114, 111, 119, 115]⟩, .string ⟨#[99, 111, 117, 110, 116]⟩, .string ⟨#[115, 117, 109]⟩, .string ⟨#[109, 105, 110]⟩, .string ⟨#[109, 97, 120]⟩] 9)) (some ⟨w2.heap.size, 0, none⟩) 5 5 aggs (aggs_at (Blk.new w2 9 _)) (by omega) op)
  rw [HOP.out] at C8
  clear zc h2
  go_wp2_with fail
  refine C8.out.mono ?_
  clear C8 x0
  rintro e w3 ⟨rfl, rfl⟩
  have B3 := Lib.hid (show Below w1.heap.size w1 (w2.alloc (.cells #[.string ⟨#[114, 111, 119, 115]⟩, .string ⟨#[99, 111, 117, 110, 116]⟩, .string ⟨#[115, 117, 109]⟩, .string ⟨#[109, 105, 110]⟩, .string ⟨#[109, 97, 120]⟩] 9)) from bt (below_alloc _ _) B2.out)
  obtain ⟨w3, hw3⟩ : ∃ z, z = w2.alloc (.cells #[.string ⟨#[114, 111, 119, 115]⟩, .string ⟨#[99, 111, 117, 110, 116]⟩, .string ⟨#[115, 117, 109]⟩, .string ⟨#[109, 105, 110]⟩, .string ⟨#[109, 97, 120]⟩] 9) := ⟨_, rfl⟩
  rw [← hw3] at B3 ⊢
  clear hw3
  have zc := (Z1.out.below B3.out).cell
  have x0 := zc 0
  have x1 := zc 1
  have x2 := zc 2
  have x3 := zc 3
  have x4 := zc 4
  have x5 := zc 5
  have x6 := zc 6
  have x7 := zc 7
  have zd := (Z0.out.below B3.out).cell
  have y0 := zd 0
  have y1 := zd 1
  have y2 := zd 2
  have CA := Lib.hid (HA.out w3 (bt B3.out B1.out))
  clear zc zd hs2 hs3 hs4
  go_wp2_with fail
  refine CA.out.mono ?_
  clear CA x0 x1 x2 x3 x4 x5 x6 x7 y0 y1 y2
  rintro e w4 ⟨rfl, h4⟩
  have B4 := Lib.hid (show Below w1.heap.size w1 w4 from bt h4.out B3.out)
  clear h4
  simp only [resV, Val.cells]
  obtain ⟨ev, hev⟩ : ∃ q, q = errV er := ⟨_, rfl⟩
  rw [← hev]
  go_upto_region 5 with fail
  obtain ⟨w5, hw5⟩ : ∃ x, x = w4.alloc (.cells #[.int .i64 vk, .int .i64 vi, .string vt, .bool vb] 23) := ⟨_, rfl⟩
  have B5 := Lib.hid (show Below w1.heap.size w1 w5 by rw [hw5]; exact bt (below_alloc _ _) B4.out)
  have ZV := Lib.hid (show Blk w5 w4.heap.size 23 #[.int .i64 vk, .int .i64 vi, .string vt, .bool vb] by rw [hw5]; exact Blk.new w4 23 _)
  rw [← hw5]
  clear hw5
  have ZR := Lib.hid (Z2.out.below B5.out)
  have hfz := fun o => ZR.out.frozen o
  have q0 := ZR.out.cell 0
  have q1 := ZR.out.cell 1
  have q2 := ZR.out.cell 2
  have q3 := ZR.out.cell 3
  have q4 := ZR.out.cell 4
  have q5 := ZR.out.cell 5
  have q6 := ZR.out.cell 6
  have q7 := ZR.out.cell 7
  have x1 := (Z1.out.below B5.out).cell 1
  have v0 := ZV.out.cell 0
  have v1 := ZV.out.cell 1
  have v2 := ZV.out.cell 2
  have v3 := ZV.out.cell 3
  have hs4 := ZR.out.lt
  have BW := Lib.hid (show Below w.heap.size w w5 from bt B5.out B1.out)
  go_wp2_with fail
  refine bodyPost_ret (results_ee (s := 6) (k := 7) rfl rfl rfl (ex_set ZR.out _ _ _ _ _ _ _ _)) rfl ⟨by rw [hev]; rfl, Lib.hid (by have hb := BW.out; have hs := hb.size; go_grown)⟩

end Go.Proofs.Ytbcmmecilheicaa

/- exec's runner.of, over what filled leaves. -/
namespace Go.Proofs.Ytbcmmecilheicaa
open Go Go.RowKit

/-- an expression comes back, or an error -/
def FillPost (lo : Nat) (y : Ex) (er : Option Int) (w : World) (e : Ending) (w' : World) : Prop := ∃ (A' : Option Addr) (n' c' : Nat), e = .returned (.tuple #[.agg #[.string y.op, .int .i64 y.kind, .int .i64 y.col, .int .i64 y.val.kind, .int .i64 y.val.int, .string y.val.text, .bool y.val.bool, .slice A' n' c'], errV er]) ∧ Hid (er = none → ExIn w' (fun b => b < lo ∨ w.heap.size ≤ b) y A' n' c') ∧ Hid (Below w.heap.size w w')
/-- an expression's value of rows, once it is filled -/
noncomputable def ofP (lb : List ByteArray) (rs : List (Int × List Val)) (y : Ex) : Option Int → Val × Option Int
  | some er => (Val.null, some er)
  | none => evalP ⟨(rs.headD (0, [])).1, (rs.headD (0, [])).2, lb⟩ y

set_option maxRecDepth 100000 in
set_option maxHeartbeats 8000000 in
theorem of45 (w : World) (tb : ByteArray) (T1 : Option Addr) (t1 u1 : Nat) (T2 : Option Addr) (t2 u2 : Nat) (T3 : Option Addr) (t3 u3 : Nat) (T4 : Option Addr) (t4 u4 : Nat) (T5 : Option Addr) (t5 u5 : Nat) (lim : Int) (ag : Bool) (T8 : Option Addr) (t8 u8 : Nat) (RA : Option Addr) (rn rc : Nat) (rs : List (Int × List Val)) (hr : RowsAt w RA rn rs) (hn : rn ≤ 1000000) (htx : RowsTx rs) (i1 : Option Addr) (n1 c1 : Nat) (i2 : Option Addr) (n2 c2 : Nat) (x : Ex) (A : Option Addr) (n c : Nat)
    (lb : List ByteArray) (LA : Option Addr) (ln lc : Nat) (hlb : StrsAt w LA ln lb) (hlt : ∀ z ∈ lb, z.size ≤ TB) (y : Ex) (er : Option Int)
    (hF : ∀ W, Below w.heap.size w W → Calls Try.prog 65 #[.agg #[.slice RA rn rc, .slice i1 n1 c1, .slice i2 n2 c2], .agg #[.string x.op, .int .i64 x.kind, .int .i64 x.col, .int .i64 x.val.kind, .int .i64 x.val.int, .string x.val.text, .bool x.val.bool, .slice A n c], .slice LA ln lc] W (FillPost w.heap.size y er W)) :
    Calls Try.prog 45 #[.agg #[.string tb, .slice T1 t1 u1, .slice T2 t2 u2, .slice T3 t3 u3, .slice T4 t4 u4, .slice T5 t5 u5, .int .i64 lim, .bool ag, .slice T8 t8 u8, .slice LA ln lc], .agg #[.slice RA rn rc, .slice i1 n1 c1, .slice i2 n2 c2], .agg #[.string x.op, .int .i64 x.kind, .int .i64 x.col, .int .i64 x.val.kind, .int .i64 x.val.int, .string x.val.text, .bool x.val.bool, .slice A n c]] w
      fun e w' => e = .returned (resV (ofP lb rs y er)) ∧ Hid (Below w.heap.size w w') := by
  obtain ⟨w1, hw1⟩ : ∃ z, z = (((w.alloc (.cells #[.string tb, .slice T1 t1 u1, .slice T2 t2 u2, .slice T3 t3 u3, .slice T4 t4 u4, .slice T5 t5 u5, .int .i64 lim, .bool ag, .slice T8 t8 u8, .slice LA ln lc] 79)).alloc (.cells #[.slice RA rn rc, .slice i1 n1 c1, .slice i2 n2 c2] 85)).alloc (.cells #[.string x.op, .int .i64 x.kind, .int .i64 x.col, .int .i64 x.val.kind, .int .i64 x.val.int, .string x.val.text, .bool x.val.bool, .slice A n c] 37)).alloc (.cells #[.int .i64 0, .int .i64 0, .string ⟨#[]⟩, .bool false] 23) := ⟨_, rfl⟩
  have B1 := Lib.hid (show Below w.heap.size w w1 by rw [hw1]; exact bt (below_alloc _ _) (bt (below_alloc _ _) (bt (below_alloc _ _) (below_alloc _ _))))
  have ZQ := Lib.hid (show Blk w1 w.heap.size 79 #[.string tb, .slice T1 t1 u1, .slice T2 t2 u2, .slice T3 t3 u3, .slice T4 t4 u4, .slice T5 t5 u5, .int .i64 lim, .bool ag, .slice T8 t8 u8, .slice LA ln lc] by rw [hw1]; exact (((Blk.new w 79 _).alloc _).alloc _).alloc _)
  have Z0 := Lib.hid (show Blk w1 (w.heap.size + 1) 85 #[.slice RA rn rc, .slice i1 n1 c1, .slice i2 n2 c2] by rw [hw1]; exact ((blk_new' (w := w.alloc _) rfl (by simp)).alloc _).alloc _)
  have Z1 := Lib.hid (show Blk w1 (w.heap.size + 1 + 1) 37 #[.string x.op, .int .i64 x.kind, .int .i64 x.col, .int .i64 x.val.kind, .int .i64 x.val.int, .string x.val.text, .bool x.val.bool, .slice A n c] by rw [hw1]; exact (blk_new' (w := (w.alloc _).alloc _) rfl (by simp)).alloc _)
  have Z2 := Lib.hid (show Blk w1 (w.heap.size + 1 + 1 + 1) 23 #[.int .i64 0, .int .i64 0, .string ⟨#[]⟩, .bool false] by rw [hw1]; exact blk_new' (w := ((w.alloc _).alloc _).alloc _) rfl (by simp))
  have HR := Lib.hid hr
  have HTX := Lib.hid htx
  have HLB := Lib.hid hlb
  have HLT := Lib.hid hlt
  have CF := Lib.hid (hF w1 B1.out)
  unfold FillPost at CF
  clear hr htx hlb hlt hF
  go_enter Try.func45, Try.ntmps45
  go_upto_region 1 with fail
  rw [← hw1]
  clear hw1
  have zq := (ZQ.out).cell 9
  have zc := Z1.out.cell
  have x0 := zc 0
  have x1 := zc 1
  have x2 := zc 2
  have x3 := zc 3
  have x4 := zc 4
  have x5 := zc 5
  have x6 := zc 6
  have x7 := zc 7
  have zd := Z0.out.cell
  have y0 := zd 0
  have y1 := zd 1
  have y2 := zd 2
  have hs1 := Z2.out.lt
  clear zc zd
  go_wp2_with fail
  refine CF.out.mono ?_
  clear CF zq x0 x1 x2 x3 x4 x5 x6 x7 y0 y1 y2
  rintro e w2 ⟨A', n', c', rfl, hx, h2⟩
  have zx := Z1.out.below h2.out
  have hfz := fun o => zx.frozen o
  have zc := zx.cell
  have x0 := zc 0
  have x1 := zc 1
  have x2 := zc 2
  have x3 := zc 3
  have x4 := zc 4
  have x5 := zc 5
  have x6 := zc 6
  have x7 := zc 7
  have hs2 := h2.out.size
  clear zc
  obtain ⟨ev, hev⟩ : ∃ q, q = errV er := ⟨_, rfl⟩
  rw [← hev]
  go_upto_region 2 with fail
  obtain ⟨w3, hw3⟩ : ∃ z, z = ((((((((w2.setCell ⟨w.heap.size + 1 + 1, 0, none⟩ (.string y.op)).setCell ⟨w.heap.size + 1 + 1, 1, none⟩ (.int .i64 y.kind)).setCell ⟨w.heap.size + 1 + 1, 2, none⟩ (.int .i64 y.col)).setCell ⟨w.heap.size + 1 + 1, 3, none⟩ (.int .i64 y.val.kind)).setCell ⟨w.heap.size + 1 + 1, 4, none⟩ (.int .i64 y.val.int)).setCell ⟨w.heap.size + 1 + 1, 5, none⟩ (.string y.val.text)).setCell ⟨w.heap.size + 1 + 1, 6, none⟩ (.bool y.val.bool)).setCell ⟨w.heap.size + 1 + 1, 7, none⟩ (.slice A' n' c')) := ⟨_, rfl⟩
  rw [← hw3]
  have hs3 : w3.heap.size = w2.heap.size := by rw [hw3]; simp [World.setCell]
  have far : ∀ b, b ≠ w.heap.size + 1 + 1 → w3.heap[b]? = w2.heap[b]? := fun b hb => by rw [hw3]; exact ex_far hb _ _ _ _ _ _ _ _
  have K1 := Lib.hid (show Blk w3 (w.heap.size + 1 + 1) 37 #[.string y.op, .int .i64 y.kind, .int .i64 y.col, .int .i64 y.val.kind, .int .i64 y.val.int, .string y.val.text, .bool y.val.bool, .slice A' n' c'] by rw [hw3]; exact ex_set zx _ _ _ _ _ _ _ _)
  have KQ := Lib.hid (show Blk w3 w.heap.size 79 _ from (far _ (by omega)).trans (ZQ.out.below h2.out))
  have K0 := Lib.hid (show Blk w3 (w.heap.size + 1) 85 _ from (far _ (by omega)).trans (Z0.out.below h2.out))
  have K2 := Lib.hid (show Blk w3 (w.heap.size + 1 + 1 + 1) 23 _ from (far _ (by omega)).trans (Z2.out.below h2.out))
  have B3 := Lib.hid (show Below w.heap.size w w3 by rw [hw3]; have hb := bt h2.out B1.out; have hs := hb.size; go_grown)
  have HY := Lib.hid (fun h => ((hx.out h).keep (S' := fun _ => True) (fun b hb hl => far b (by rcases hb with hb | hb <;> omega)) (fun _ _ _ => trivial) (by omega)).is)
  clear hs3 hw3 far zx hfz x0 x1 x2 x3 x4 x5 x6 x7 hx h2
  cases er with
  | some er =>
    subst hev
    simp only [errV]
    go_wp2_with fail
    refine (null34 _).mono ?_
    rintro e w4 ⟨rfl, h4⟩
    have B4 := Lib.hid (show Below w.heap.size w w4 from bt h4.out B3.out)
    have ZR := Lib.hid (K2.out.below h4.out)
    have hfz := fun o => ZR.out.frozen o
    have q0 := ZR.out.cell 0
    have q1 := ZR.out.cell 1
    have q2 := ZR.out.cell 2
    have q3 := ZR.out.cell 3
    clear h4
    go_wp2_with fail
    refine bodyPost_ret (results_cv (s := 6) (k := 7) rfl rfl rfl (val_set ZR.out _ _ _ _)) rfl ⟨rfl, Lib.hid (by have hb := B4.out; have hs := hb.size; go_grown)⟩
  | none =>
    subst hev
    simp only [errV]
    have HYI := Lib.hid (HY.out rfl)
    clear HY
    by_cases h0 : rn = 0
    · subst h0
      obtain rfl : rs = [] := List.eq_nil_of_length_eq_zero HR.out.len
      have EE := Lib.hid (show ofP lb [] y none = evalP ⟨0, [], lb⟩ y from rfl)
      have z00 := K0.out.cell 0
      have hs8 := K0.out.lt
      go_upto_region 7 with fail
      obtain ⟨w5, hw5⟩ : ∃ z, z = w3.alloc (.cells #[.int .i64 0, .slice none 0 0] 29) := ⟨_, rfl⟩
      rw [← hw5]
      have ZW := Lib.hid (show Blk w5 w3.heap.size 29 #[.int .i64 0, .slice none 0 0] by rw [hw5]; exact Blk.new w3 29 _)
      have B35 := Lib.hid (show Below w3.heap.size w3 w5 by rw [hw5]; exact below_alloc _ _)
      clear hw5 z00
      have CC0 := of9 (W := w5) ⟨0, [], lb⟩ none 0 0 LA ln lc ⟨ValsAt.nil _ _, HLB.out.below (bt B35.out B3.out), fun v hv => by simp at hv, HLT.out⟩ (HYI.out.bel B35.out)
      obtain ⟨⟨⟨rk, ri, rs', rb⟩, re⟩, hre⟩ : ∃ q, q = evalP ⟨0, [], lb⟩ y := ⟨_, rfl⟩
      rw [← hre] at CC0
      have CC := Lib.hid CC0
      clear CC0
      have z29 := ZW.out.cell
      have a0 := z29 0
      have a1 := z29 1
      have zc := (K1.out.below B35.out).cell
      have x0 := zc 0
      have x1 := zc 1
      have x2 := zc 2
      have x3 := zc 3
      have x4 := zc 4
      have x5 := zc 5
      have x6 := zc 6
      have x7 := zc 7
      have zq := (KQ.out.below B35.out).cell 9
      have K25 := Lib.hid (K2.out.below B35.out)
      have hs5 := K25.out.lt
      have hs6 := B35.out.size
      have B5 := Lib.hid (show Below w.heap.size w w5 from bt B35.out B3.out)
      clear z29 zc
      go_wp2_with fail
      refine CC.out.mono ?_
      clear CC a0 a1 x0 x1 x2 x3 x4 x5 x6 x7 zq
      rintro e w6 ⟨rfl, h6⟩
      have B6 := Lib.hid (show Below w.heap.size w w6 from bt h6.out B5.out)
      have ZR := Lib.hid (K25.out.below h6.out)
      have hfz := fun o => ZR.out.frozen o
      have q0 := ZR.out.cell 0
      have q1 := ZR.out.cell 1
      have q2 := ZR.out.cell 2
      have q3 := ZR.out.cell 3
      have hs7 := h6.out.size
      clear h6
      rw [← hre] at EE
      simp only [resV, Val.cells]
      go_wp2_with fail
      refine bodyPost_ret (results_cv (s := 6) (k := 7) rfl rfl rfl (val_set ZR.out _ _ _ _)) rfl ⟨by rw [EE.out]; rfl, Lib.hid (by have hb := B6.out; have hs := hb.size; go_grown)⟩
    · obtain ⟨r, hr⟩ : ∃ r, rs[0]? = some r := ⟨_, List.getElem?_eq_getElem (by rw [HR.out.len]; omega)⟩
      have EE := Lib.hid (show ofP lb rs y none = evalP ⟨r.1, r.2, lb⟩ y by
        cases rs with
        | nil => simp at hr
        | cons r0 l => obtain rfl : r0 = r := by simpa using hr
                       rfl)
      obtain ⟨b, off, VA, vn, vc, rfl, hb, p0, p1, hv, hvn⟩ := (HR.out.below B3.out).at_ 0 r hr
      simp only [Nat.zero_mul, Nat.add_zero] at p0 p1
      have HV := Lib.hid hv
      have HVT := Lib.hid (fun v hv => HTX.out r (List.mem_of_getElem? hr) v hv)
      have z00 := K0.out.cell 0
      have hs8 := K0.out.lt
      have hn1 : 0 < rn := by omega
      have hn2 : (0 : Int) < (rn : Int) := by omega
      have hn3 : ¬ rn ≤ 0 := by omega
      clear hr hv
      go_upto_region 7 with fail
      obtain ⟨w5, hw5⟩ : ∃ z, z = w3.alloc (.cells #[.int .i64 r.1, .slice VA vn vc] 29) := ⟨_, rfl⟩
      have ZW := Lib.hid (show Blk w5 w3.heap.size 29 #[.int .i64 r.1, .slice VA vn vc] by rw [hw5]; exact Blk.new w3 29 _)
      have B35 := Lib.hid (show Below w3.heap.size w3 w5 by rw [hw5]; exact below_alloc _ _)
      rw [← hw5]
      clear hw5 z00 p0 p1
      have CC0 := of9 (W := w5) ⟨r.1, r.2, lb⟩ VA vn vc LA ln lc ⟨HV.out.below B35.out, HLB.out.below (bt B35.out B3.out), HVT.out, HLT.out⟩ (HYI.out.bel B35.out)
      obtain ⟨⟨⟨rk, ri, rs', rb⟩, re⟩, hre⟩ : ∃ q, q = evalP ⟨r.1, r.2, lb⟩ y := ⟨_, rfl⟩
      rw [← hre] at CC0
      have CC := Lib.hid CC0
      clear CC0
      have z29 := ZW.out.cell
      have a0 := z29 0
      have a1 := z29 1
      have zc := (K1.out.below B35.out).cell
      have x0 := zc 0
      have x1 := zc 1
      have x2 := zc 2
      have x3 := zc 3
      have x4 := zc 4
      have x5 := zc 5
      have x6 := zc 6
      have x7 := zc 7
      have zq := (KQ.out.below B35.out).cell 9
      have K25 := Lib.hid (K2.out.below B35.out)
      have hs5 := K25.out.lt
      have hs6 := B35.out.size
      have B5 := Lib.hid (show Below w.heap.size w w5 from bt B35.out B3.out)
      clear z29 zc
      go_wp2_with fail
      refine CC.out.mono ?_
      clear CC a0 a1 x0 x1 x2 x3 x4 x5 x6 x7 zq
      rintro e w6 ⟨rfl, h6⟩
      have B6 := Lib.hid (show Below w.heap.size w w6 from bt h6.out B5.out)
      have ZR := Lib.hid (K25.out.below h6.out)
      have hfz := fun o => ZR.out.frozen o
      have q0 := ZR.out.cell 0
      have q1 := ZR.out.cell 1
      have q2 := ZR.out.cell 2
      have q3 := ZR.out.cell 3
      have hs7 := h6.out.size
      clear h6
      rw [← hre] at EE
      simp only [resV, Val.cells]
      go_wp2_with fail
      refine bodyPost_ret (results_cv (s := 6) (k := 7) rfl rfl rfl (val_set ZR.out _ _ _ _)) rfl ⟨by rw [EE.out]; rfl, Lib.hid (by have hb := B6.out; have hs := hb.size; go_grown)⟩

end Go.Proofs.Ytbcmmecilheicaa
