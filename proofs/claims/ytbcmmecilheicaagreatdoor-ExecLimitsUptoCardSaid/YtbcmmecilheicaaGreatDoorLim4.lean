/- The walk of barbicanlaw23.ExecLimits: printed by mklim4.py. -/
import Derived.Test.YtbcmmecilheicaaGreatDoorOq3
import Derived.Test.YtbcmmecilheicaaGreatDoorLimA
import Derived.Test.YtbcmmecilheicaaGreatDoorStA
namespace Go.Proofs.YtbcmmecilheicaaGreatDoor
open Go Go.RowKit

theorem modK6 (z : Int) : ∃ k : Nat, k < 6 ∧ wrap64 ((IntKind.u64.wrap z).tmod 6) = (k : Int) := by
 have h0 : 0 ≤ IntKind.u64.wrap z := by rw [IntKind.wrap_u64]; omega
 have h1 : (IntKind.u64.wrap z).tmod 6 = IntKind.u64.wrap z % 6 := Int.tmod_eq_emod_of_nonneg h0
 refine ⟨(IntKind.u64.wrap z % 6).toNat, by omega, ?_⟩
 rw [h1]
 unfold wrap64
 omega
structure Q4R (w4 : World) (tq : ByteArray) (lq : Int) (ag : Bool) (q : Qu) (pa pb : Nat) (la lb : QL) (wx : World) : Prop where
 old : Below w4.heap.size w4 wx
 ne : pa ≠ pb
 a0 : w4.heap.size ≤ pa
 b0 : w4.heap.size ≤ pb
 qa : Blk wx pa 74 (qCells tq la lq ag)
 qb : Blk wx pb 74 (qCells tq lb lq ag)
 oa : QuOut wx (fun b => w4.heap.size ≤ b ∧ b ≠ pa ∧ b ≠ pb) q la
 ob : QuOut wx (fun b => w4.heap.size ≤ b ∧ b ≠ pa ∧ b ≠ pb) q lb
theorem two_al {W w' : World} {t u : TypeId} {cs ds : Array Value} (h : Below ((W.alloc (.cells cs t)).alloc (.cells ds u)).heap.size ((W.alloc (.cells cs t)).alloc (.cells ds u)) w') : Blk w' W.heap.size t cs ∧ Blk w' (W.heap.size + 1) u ds :=
 ⟨((Blk.new W t cs).alloc _).below h, (blk_new' (w := W.alloc _) rfl (by simp)).below h⟩
theorem two_ald {W w' : World} {t u : TypeId} {cs ds : Array Value} (h : Below ((W.alloc (.cells cs t)).alloc (.cells ds u)).drew.heap.size ((W.alloc (.cells cs t)).alloc (.cells ds u)).drew w') : Blk w' W.heap.size t cs ∧ Blk w' (W.heap.size + 1) u ds :=
 ⟨(show Blk ((W.alloc (.cells cs t)).alloc (.cells ds u)).drew W.heap.size t cs from (Blk.new W t cs).alloc _).below h, (show Blk ((W.alloc (.cells cs t)).alloc (.cells ds u)).drew (W.heap.size + 1) u ds from (blk_new' (W := (W.alloc (.cells cs t)).alloc (.cells ds u)) (w := W.alloc (.cells cs t)) rfl (by simp) : Blk ((W.alloc (.cells cs t)).alloc (.cells ds u)) (W.heap.size + 1) u ds)).below h⟩
section
variable {W : World} {b b' : Nat} {t : TypeId} {o : Obj} {cs : Array Value} {c0 c1 c2 c3 c4 c5 c6 c7 d0 d1 d2 d3 d4 d5 d6 d7 e0 e1 e2 e3 e4 e5 e6 e7 : Value}
theorem bq_lit1 : Blk ((W.alloc (.cells cs t)).alloc o) W.heap.size t cs := (Blk.new W t cs).alloc _
theorem bq_lit2 : Blk ((W.alloc o).alloc (.cells cs t)) (W.heap.size + 1) t cs := blk_new' (w := W.alloc o) rfl (by simp)
theorem bq_lit3 : Blk (((((((((W.setCell ⟨b, 0, none⟩ d0).setCell ⟨b, 1, none⟩ d1).setCell ⟨b, 2, none⟩ d2).setCell ⟨b, 3, none⟩ d3).setCell ⟨b, 4, none⟩ d4).setCell ⟨b, 5, none⟩ d5).setCell ⟨b, 6, none⟩ d6).setCell ⟨b, 7, none⟩ d7).alloc (.cells cs t)) W.heap.size t cs := blk_new' rfl (by simp only [World.size_setCell])
theorem bq_als (z : Blk W b t #[c0, c1, c2, c3, c4, c5, c6, c7]) : Blk (((((((((W.setCell ⟨b, 0, none⟩ d0).setCell ⟨b, 1, none⟩ d1).setCell ⟨b, 2, none⟩ d2).setCell ⟨b, 3, none⟩ d3).setCell ⟨b, 4, none⟩ d4).setCell ⟨b, 5, none⟩ d5).setCell ⟨b, 6, none⟩ d6).setCell ⟨b, 7, none⟩ d7).alloc o) b t #[d0, d1, d2, d3, d4, d5, d6, d7] := (ex_set z _ _ _ _ _ _ _ _).alloc _
theorem bq_snd (z : Blk W b t #[c0, c1, c2, c3, c4, c5, c6, c7]) (h : b ≠ b') : Blk ((((((((((((((((W.setCell ⟨b', 0, none⟩ d0).setCell ⟨b', 1, none⟩ d1).setCell ⟨b', 2, none⟩ d2).setCell ⟨b', 3, none⟩ d3).setCell ⟨b', 4, none⟩ d4).setCell ⟨b', 5, none⟩ d5).setCell ⟨b', 6, none⟩ d6).setCell ⟨b', 7, none⟩ d7).setCell ⟨b, 0, none⟩ e0).setCell ⟨b, 1, none⟩ e1).setCell ⟨b, 2, none⟩ e2).setCell ⟨b, 3, none⟩ e3).setCell ⟨b, 4, none⟩ e4).setCell ⟨b, 5, none⟩ e5).setCell ⟨b, 6, none⟩ e6).setCell ⟨b, 7, none⟩ e7) b t #[e0, e1, e2, e3, e4, e5, e6, e7] := ex_set ((ex_far h d0 d1 d2 d3 d4 d5 d6 d7).trans z) _ _ _ _ _ _ _ _
theorem bq_fst (z : Blk W b t #[c0, c1, c2, c3, c4, c5, c6, c7]) (h : b ≠ b') : Blk ((((((((((((((((W.setCell ⟨b, 0, none⟩ d0).setCell ⟨b, 1, none⟩ d1).setCell ⟨b, 2, none⟩ d2).setCell ⟨b, 3, none⟩ d3).setCell ⟨b, 4, none⟩ d4).setCell ⟨b, 5, none⟩ d5).setCell ⟨b, 6, none⟩ d6).setCell ⟨b, 7, none⟩ d7).setCell ⟨b', 0, none⟩ e0).setCell ⟨b', 1, none⟩ e1).setCell ⟨b', 2, none⟩ e2).setCell ⟨b', 3, none⟩ e3).setCell ⟨b', 4, none⟩ e4).setCell ⟨b', 5, none⟩ e5).setCell ⟨b', 6, none⟩ e6).setCell ⟨b', 7, none⟩ e7) b t #[d0, d1, d2, d3, d4, d5, d6, d7] := (ex_far h e0 e1 e2 e3 e4 e5 e6 e7).trans (ex_set z d0 d1 d2 d3 d4 d5 d6 d7)
end
theorem blk_so {W : World} {b : Nat} {t : TypeId} {cs : Array Value} (z : Blk W b t cs) {p : Addr} (h : b ≠ p.block) (v : Value) : Blk (W.setCell p v) b t cs := (Below.heap_setCell _ _ _ _ h).trans z
/-- a query's answer, in two slots -/
def QrsPost (q : List (List Val) × Option Int) (w : World) (s1 s2 : Value) (w' : World) : Prop := ∃ (A : Option Addr) (n c : Nat), s1 = .slice A n c ∧ s2 = errV q.2 ∧ Hid (ValssAt w' A n q.1) ∧ Hid (n ≤ c) ∧ Hid (Below w.heap.size w w')
theorem queryP_each (kept : RowL × Option Int) (ps : List RowL) (ofV : Ex → RowL → Res) (items : List Ex) (ords : List (Ex × Bool)) (lim : Int) : ∀ v ∈ (queryP kept ps ofV items ords lim).1, v.length = items.length := by
 intro v hv
 cases hk : kept.2 with
 | some er => rw [queryP_keep hk] at hv; cases hv
 | none =>
  cases he : errL (ps.map (tellsP ofV items ords)).flatten with
  | some er => rw [queryP_err hk he] at hv; cases hv
  | none =>
   rw [queryP_ok hk he] at hv
   have hv2 : v ∈ outsP ofV items ords ps := by
    simp only [] at hv
    split at hv
    ·exact List.mem_of_mem_take hv
    ·exact hv
   obtain ⟨p, -, rfl⟩ := List.mem_map.1 (show v ∈ (ranksP ofV ords ps).map (fun p => itsP ofV items (ps.getD p [])) from hv2)
   simp [itsP]
theorem QuOut.bel {W W' : World} {S : Nat → Prop} {q : Qu} {l : QL} (h : QuOut W S q l) (hW : Below W.heap.size W W') : QuOut W' S q l := h.keep (fun b _ hl => hW.block b hl) (fun _ hb _ => hb) hW.size
theorem cnt_at {W : World} {A : Option Addr} {n : Nat} {l : List (List Val)} (h : ValssAt W A n l) {i : Nat} {x : Int} (hi : l[i]? = some [Val.ofInt x]) : ∃ b off b2 off2 c, A = some ⟨b, off, none⟩ ∧ b < W.heap.size ∧ b2 < W.heap.size ∧ W.cell? ⟨b, off + i, none⟩ = some (.slice (some ⟨b2, off2, none⟩) 1 c) ∧ W.cell? ⟨b2, off2 + 1, none⟩ = some (.int .i64 x) := by
 obtain ⟨b, off, B, m, c, e, hb, hc, hv⟩ := h.at_ i _ hi
 obtain ⟨b2, off2, e2, hb2, hx⟩ := hv.at_ 0 (Val.ofInt x) rfl
 obtain rfl : 1 = m := hv.len
 rw [e2] at hc
 rw [Nat.zero_mul, Nat.add_zero] at hx
 exact ⟨b, off, b2, off2, c, e, hb, hb2, hc, hx.c1⟩
/-- the query that counts -/
structure C4R (wN : World) (tq : ByteArray) (Wa : Option Addr) (nWa uWa pe pc : Nat) (gr : List Int) (Gc : Option Addr) (ngc ugc : Nat) (wx : World) : Prop where
 old : Below wN.heap.size wN wx
 qc : Blk wx pc 74 #[.string tq, .slice none 0 0, .slice (some ⟨pe, 0, none⟩) 1 1, .slice Wa nWa uWa, .slice Gc ngc ugc, .slice none 0 0, .int .i64 (-1), .bool true]
 qe : Blk wx pe 51 #[.string ⟨#[114, 111, 119, 115]⟩, .int .i64 1, .int .i64 0, .int .i64 0, .int .i64 0, .string ⟨#[]⟩, .bool false, .slice none 0 0]
 gr : CellsIn wx (fun _ => True) Gc ngc (gr.map (Value.int .i64))
 gn : ngc ≤ 1048576
theorem C4R.out {wN : World} {tq : ByteArray} {Wa : Option Addr} {nWa uWa pe pc : Nat} {gr : List Int} {Gc : Option Addr} {ngc ugc : Nat} {wx : World} (h : C4R wN tq Wa nWa uWa pe pc gr Gc ngc ugc wx) {wh : List Ex} {S : Nat → Prop} (hw : ExsIn wN S Wa nWa wh) (hn : nWa ≤ 1048576) :
  QuOut wx (fun _ => True) ⟨[], [rowsEx], wh, gr, []⟩ ⟨none, 0, 0, some ⟨pe, 0, none⟩, 1, 1, Wa, nWa, uWa, Gc, ngc, ugc, none, 0, 0⟩ :=
 ⟨⟨rfl, fun j e hj => by
   match j, hj with
   | 0, hj =>
    obtain rfl : rowsEx = e := Option.some.inj hj
    have z := h.qe
    exact ⟨pe, 0, none, 0, 0, rfl, z.lt, trivial, ⟨z.cell 0, z.cell 1, z.cell 2, z.cell 3, z.cell 4, z.cell 5, z.cell 6, z.cell 7⟩, .mk _ _ _ _ _ none 0 0 rfl (by unfold TB; omega) (by unfold TB; simp [Val.null, ByteArray.size]) 0 0 (fun h => absurd h (Nat.lt_irrefl 0)) (fun _ => none) (fun _ => 0) (fun _ => 0) (fun j e h => by simp at h) (fun j e h => by simp at h)⟩⟩,
  hw.keep (fun b _ hl => h.old.block b hl) (fun _ _ _ => trivial) h.old.size, h.gr, ⟨rfl, fun j e hj => by simp at hj⟩, Nat.le_of_ble_eq_true rfl, hn, h.gn, Nat.zero_le _⟩

set_option maxRecDepth 100000 in
set_option maxHeartbeats 64000000 in
theorem execLimits4 (w : World) (hg : ErrT w) (x : St) (l : StL) (hx : StAt w x l) (hdp : ∀ e ∈ x.all, depthP e ≤ 4611686018427387904) (htb : x.table.size ≤ 1048576) (has : ∀ e ∈ x.items, e.2.size ≤ 1048576) (hgs : ∀ z ∈ x.group, z.size ≤ 1048576) (TA : Option Addr) (tn tc : Nat) (ts : List Tab) (hT : TabsAt w TA tn ts) (htn : tn ≤ 1048576) (RA : Option Addr) (rn rc : Nat) (rs : RowL) (hr : RowsAt w RA rn rs) (htx : RowsTx rs) (LA : Option Addr) (ln lc : Nat) (lb : List ByteArray) (hlb : StrsAt w LA ln lb) (hlt : ∀ z ∈ lb, z.size ≤ TB) (limit : Int) :
  Calls Tryz.prog 4 #[.agg (stCells x l), .agg #[.slice TA tn tc, .slice RA rn rc, .slice LA ln lc], .int .i64 limit] w fun e w' => e = .returned (.bool true) ∧ Hid (Below w.heap.size w w') := by
 have HG := Lib.hid hg
 have HX := Lib.hid hx
 have HD := Lib.hid (And.intro hdp (And.intro htb (And.intro has hgs)))
 have HT := Lib.hid hT
 have HR := Lib.hid hr
 have HTX := Lib.hid htx
 have HLB := Lib.hid hlb
 have HLT := Lib.hid hlt
 have SU := Lib.hid sure10
 obtain ⟨w1, hw1⟩ : ∃ z, z = (w.alloc (.cells (stCells x l) 58)).alloc (.cells #[.slice TA tn tc, .slice RA rn rc, .slice LA ln lc] 62) := ⟨_, rfl⟩
 have B1 := Lib.hid (show Below w.heap.size w w1 by rw [hw1]; exact bt (below_alloc _ _) (below_alloc _ _))
 have ZX := Lib.hid (show Blk w1 w.heap.size 58 (stCells x l) by rw [hw1]; exact (Blk.new w 58 _).alloc _)
 have ZO := Lib.hid (show Blk w1 (w.heap.size + 1) 62 #[.slice TA tn tc, .slice RA rn rc, .slice LA ln lc] by rw [hw1]; exact blk_new' (w := w.alloc _) rfl (by simp))
 have CW := Lib.hid (wide14 w1 TA tn tc RA rn rc LA ln lc rs (hr.below B1.out))
 have CS := Lib.hid (fun W (h : Below w1.heap.size w1 W) => small15 W x l (hx.below (bt h B1.out)))
 have CQ := Lib.hid (fun (hf : l.ni + l.nw + l.no ≤ 51) W (h : Below w1.heap.size w1 W) => ofQuery17 W TA tn tc ts (hT.below (bt h B1.out)) htn x l ⟨hx.below (bt h B1.out), hf, hdp, htb, has, hgs⟩)
 obtain ⟨n, hn6, hke⟩ := modK6 limit
 have HKE := Lib.hid hke
 clear hke hg hx hdp htb has hgs hT hr htx hlb hlt
 obtain ⟨kd, tb, its, wh, grp, ord, lim⟩ := x
 obtain ⟨ia, ni, ci, wa, nw, cw, ga, ng, cg, oa, no, co⟩ := l
 unfold WidePost at CW
 unfold SmallPost at CS
 unfold OfQPost at CQ
 have o0 := ZO.out.cell 0
 have o1 := ZO.out.cell 1
 have o2 := ZO.out.cell 2
 have hol := ZO.out.lt
 go_enter Tryz.func4, Tryz.ntmps4
 go_upto_region 1 with fail
 rw [← hw1]
 clear hw1
 go_wp2_with fail
 refine CW.out.mono ?_
 clear CW o0 o1 o2 hol
 rintro e w2 ⟨b, rfl, hwd, h2⟩
 cases b with
 | true =>
  have BZ := Lib.hid (bt h2.out B1.out)
  go_wp2_with fail
  refine (SU.out _).mono ?_
  rintro e wS ⟨rfl, hS⟩
  go_wp2_with fail
  go_ret
  exact ⟨rfl, Lib.hid (bt hS.out BZ.out)⟩
 | false =>
  have HWD := Lib.hid (hwd.out rfl)
  have htn0 : 0 < tn := HWD.out.1
  have hrn : rn ≤ 500 := HWD.out.2.1
  have B2 := Lib.hid h2.out
  clear hwd h2
  have CS2 := Lib.hid (CS.out w2 B2.out)
  clear CS
  have zc := (ZX.out.below B2.out).cell
  have z0 := zc 0
  have z1 := zc 1
  have z2 := zc 2
  have z3 := zc 3
  have z4 := zc 4
  have z5 := zc 5
  have z6 := zc 6
  have hl := (ZX.out.below B2.out).lt
  clear zc
  go_wp2_with fail
  refine CS2.out.mono ?_
  clear CS2 z0 z1 z2 z3 z4 z5 z6 hl
  rintro e w3 ⟨b, rfl, hsm, h3⟩
  have B3 := Lib.hid (bt h3.out B2.out)
  clear h3
  cases b with
  | false =>
   have BZ := Lib.hid (bt B3.out B1.out)
   go_wp2_with fail
   refine (SU.out _).mono ?_
   rintro e wS ⟨rfl, hS⟩
   go_wp2_with fail
   go_ret
   exact ⟨rfl, Lib.hid (bt hS.out BZ.out)⟩
  | true =>
   have CQ3 := Lib.hid (CQ.out (hsm.out rfl) w3 B3.out)
   clear CQ hsm
   have zc := (ZX.out.below B3.out).cell
   have z0 := zc 0
   have z1 := zc 1
   have z2 := zc 2
   have z3 := zc 3
   have z4 := zc 4
   have z5 := zc 5
   have z6 := zc 6
   have hl := (ZX.out.below B3.out).lt
   have o0 := (ZO.out.below B3.out).cell 0
   have hol := (ZO.out.below B3.out).lt
   clear zc
   go_wp2_with fail
   refine CQ3.out.mono ?_
   clear CQ3 z0 z1 z2 z3 z4 z5 z6 hl o0 hol
   rintro e wq ⟨tq, ⟨T1, t1, u1, IA, n1, u2, WA, wn, wc, GA, gn, gc, OA, n2, u5⟩, lq, ag, er, rfl, hq, hbq⟩
   simp only [qCells]
   go_upto_region 4 with fail
   obtain ⟨w4, hw4⟩ : ∃ z, z = wq.alloc (.cells #[.string tq, .slice T1 t1 u1, .slice IA n1 u2, .slice WA wn wc, .slice GA gn gc, .slice OA n2 u5, .int .i64 lq, .bool ag] 68) := ⟨_, rfl⟩
   obtain ⟨p7, hp7⟩ : ∃ p, p = wq.heap.size := ⟨_, rfl⟩
   have B4 := Lib.hid (show Below w1.heap.size w1 w4 by rw [hw4]; exact bt (below_alloc _ _) (bt hbq.out B3.out))
   have Z7 := Lib.hid (show Blk w4 p7 68 #[.string tq, .slice T1 t1 u1, .slice IA n1 u2, .slice WA wn wc, .slice GA gn gc, .slice OA n2 u5, .int .i64 lq, .bool ag] by rw [hw4, hp7]; exact Blk.new wq 68 _)
   have HQ := Lib.hid (show er = 0 → ∃ q, QuIn w4 (fun b => b < p7) q ⟨T1, t1, u1, IA, n1, u2, WA, wn, wc, GA, gn, gc, OA, n2, u5⟩ from fun h => by
    obtain ⟨q, hq⟩ := hq.out h
    exact ⟨q, hq.keep (fun b _ hl => by rw [hw4]; exact (below_alloc wq _).block b hl) (fun b _ hl => by rw [hp7]; exact hl) (by rw [hw4]; simp)⟩)
   rw [← hw4, ← hp7]
   clear hw4 hp7 hq hbq B2 B3
   by_cases her : er = 0
   rotate_left
   ·have r1' : (er != 0) = true := by simpa using her
    have BZ := Lib.hid (bt B4.out B1.out)
    clear her HQ
    go_wp2_with fail
    refine (SU.out _).mono ?_
    rintro e wS ⟨rfl, hS⟩
    go_wp2_with fail
    go_ret
    exact ⟨rfl, Lib.hid (bt hS.out BZ.out)⟩
   subst her
   obtain ⟨q, hq⟩ := HQ.out rfl
   have QI_ := Lib.hid hq
   clear hq HQ
   go_upto_region 7 with fail
   rw [HKE.out]
   clear HKE
   have C18 := Lib.hid (fun W (h : Below w4.heap.size w4 W) => show Calls Tryz.prog 18 #[.agg #[.string tq, .slice T1 t1 u1, .slice IA n1 u2, .slice WA wn wc, .slice GA gn gc, .slice OA n2 u5, .int .i64 lq, .bool ag]] W (Q18Post tq lq ag q W) from query18 W tq lq ag q ⟨T1, t1, u1, IA, n1, u2, WA, wn, wc, GA, gn, gc, OA, n2, u5⟩ (QI_.out.keep (S' := fun b => b < p7) (fun b _ hl => h.block b hl) (fun b hb _ => hb) h.size))
   have KQ := Lib.hid (fun (W : World) (h : Below w4.heap.size w4 W) => show W.cell? ⟨p7, 0, none⟩ = some (.string tq) ∧ W.cell? ⟨p7, 1, none⟩ = some (.slice T1 t1 u1) ∧ W.cell? ⟨p7, 2, none⟩ = some (.slice IA n1 u2) ∧ W.cell? ⟨p7, 3, none⟩ = some (.slice WA wn wc) ∧ W.cell? ⟨p7, 4, none⟩ = some (.slice GA gn gc) ∧ W.cell? ⟨p7, 5, none⟩ = some (.slice OA n2 u5) ∧ W.cell? ⟨p7, 6, none⟩ = some (.int .i64 lq) ∧ W.cell? ⟨p7, 7, none⟩ = some (.bool ag) from have z := Z7.out.below h; ⟨z.cell 0, z.cell 1, z.cell 2, z.cell 3, z.cell 4, z.cell 5, z.cell 6, z.cell 7⟩)
   unfold Q18Post at C18
   go_cut [10, 11] from 43 to 47 (fun s10 s11 wx => ∃ (pa pb : Nat) (la lb' : QL), s10 = .pointer (some ⟨pa, 0, none⟩) ∧ s11 = .pointer (some ⟨pb, 0, none⟩) ∧ Hid (Q4R w4 tq lq ag q pa pb la lb' wx))
   case first =>
    have hb3 := below_drew w4
    have hs3 := hb3.size
    obtain ⟨z0, z1, z2, z3, z4, z5, z6, z7⟩ := KQ.out w4.drew hb3
    have hl := Z7.out.lt
    have tok1 : True := trivial
    go_region_held3 (fun W : World => W.cell? ⟨p7, 0, none⟩ = some (.string tq) ∧ W.cell? ⟨p7, 1, none⟩ = some (.slice T1 t1 u1) ∧ W.cell? ⟨p7, 2, none⟩ = some (.slice IA n1 u2) ∧ W.cell? ⟨p7, 3, none⟩ = some (.slice WA wn wc) ∧ W.cell? ⟨p7, 4, none⟩ = some (.slice GA gn gc) ∧ W.cell? ⟨p7, 5, none⟩ = some (.slice OA n2 u5) ∧ W.cell? ⟨p7, 6, none⟩ = some (.int .i64 lq) ∧ W.cell? ⟨p7, 7, none⟩ = some (.bool ag))
     ((first | (refine KQ.out _ ?_; go_grown; done) | trivial))
     (first
      | (go_at_call 18; (have _t := tok1); clear tok1; (with_reducible refine (C18.out _ ?_).mono ?_); · go_grown
         rintro e w5 ⟨⟨Ta, ta, uTa, Ia, nIa, uIa, Wa, nWa, uWa, Ga, nGa, uGa, Oa, nOa, uOa⟩, rfl, i1, h4⟩; simp only [qCells]; obtain ⟨hc4, hf4⟩ := bcell h4.out; have hz4 := h4.out.size; (try (simp only [World.size_alloc, World.size_drew] at hz4)); have hb4 := bt h4.out (show Below w4.heap.size w4 _ by go_grown); have hs4 := hb4.size; (first | ((with_reducible have pa := two_ald h4.out); obtain ⟨pa1, pa2⟩ := pa) | (with_reducible have pa1 := one_ald h4.out) | skip); (try (have e41 : w4.heap.size < w5.heap.size := (by omega))); (try (have e42 : w4.heap.size + 1 < w5.heap.size := (by omega))))
      | (go_at_call 18; (with_reducible refine (C18.out _ ?_).mono ?_); · go_grown
         rintro e w6 ⟨⟨Tb, tb', uTb, Ib, nIb, uIb, Wb, nWb, uWb, Gb, nGb, uGb, Ob, nOb, uOb⟩, rfl, i2, h5⟩; simp only [qCells]; obtain ⟨hc5, hf5⟩ := bcell h5.out; have hz5 := h5.out.size; (try (simp only [World.size_alloc] at hz5)); have hb5 := bt h5.out (show Below w4.heap.size w4 _ by go_grown); have hs5 := hb5.size; (first | ((with_reducible have pb := two_al h5.out); obtain ⟨pb1, pb2⟩ := pb) | ((with_reducible have pb1 := one_al h5.out); (try (have pc1 := (pa1.alloc _).below h5.out))) | (try (have pc1 := pa1.below h5.out; (try (have pc2 := pa2.below h5.out))))); (try (have e51 : w4.heap.size < w6.heap.size := (by omega))); (try (have e52 : w4.heap.size + 1 < w6.heap.size := (by omega))); (try (have e53 : w5.heap.size < w6.heap.size := (by omega))); (try (have e54 : w5.heap.size + 1 < w6.heap.size := (by omega)))))
    all_goals
     go_wp2_with fail
     go_meet
     case rel =>
      refine ⟨_, _, ⟨Ta, ta, uTa, Ia, nIa, uIa, Wa, nWa, uWa, Ga, nGa, uGa, Oa, nOa, uOa⟩, ⟨Tb, tb', uTb, Ib, nIb, uIb, Wb, nWb, uWb, Gb, nGb, uGb, Ob, nOb, uOb⟩, rfl, rfl, Lib.hid ⟨?_, ?_, ?_, ?_, ?_, ?_, ?_, ?_⟩⟩
      ·go_grown
      ·omega
      ·omega
      ·omega
      ·show Blk _ _ 74 #[.string tq, .slice Ta ta uTa, .slice Ia nIa uIa, .slice Wa nWa uWa, .slice Ga nGa uGa, .slice Oa nOa uOa, .int .i64 lq, .bool ag]
       first
        | (with_reducible exact bq_lit1)
        | (with_reducible exact bq_lit2)
        | (with_reducible exact bq_lit3)
        | (with_reducible exact bq_one pa1)
        | (with_reducible exact bq_one pa2)
        | (with_reducible exact bq_one pb1)
        | (with_reducible exact bq_one pb2)
        | (with_reducible exact bq_one pc1)
        | (with_reducible exact bq_one pc2)
        | (with_reducible exact bq_als pa1)
        | (with_reducible exact bq_als pa2)
        | (with_reducible exact bq_als pb1)
        | (with_reducible exact bq_als pb2)
        | (with_reducible exact bq_als pc1)
        | (with_reducible exact bq_als pc2)
        | (with_reducible refine bq_fst pa1 ?_; omega)
        | (with_reducible refine bq_fst pa2 ?_; omega)
        | (with_reducible refine bq_fst pb1 ?_; omega)
        | (with_reducible refine bq_fst pb2 ?_; omega)
        | (with_reducible refine bq_fst pc1 ?_; omega)
        | (with_reducible refine bq_fst pc2 ?_; omega)
        | (with_reducible refine bq_snd pa1 ?_; omega)
        | (with_reducible refine bq_snd pa2 ?_; omega)
        | (with_reducible refine bq_snd pb1 ?_; omega)
        | (with_reducible refine bq_snd pb2 ?_; omega)
        | (with_reducible refine bq_snd pc1 ?_; omega)
        | (with_reducible refine bq_snd pc2 ?_; omega)
      ·show Blk _ _ 74 #[.string tq, .slice Tb tb' uTb, .slice Ib nIb uIb, .slice Wb nWb uWb, .slice Gb nGb uGb, .slice Ob nOb uOb, .int .i64 lq, .bool ag]
       first
        | (with_reducible exact bq_lit1)
        | (with_reducible exact bq_lit2)
        | (with_reducible exact bq_lit3)
        | (with_reducible exact bq_one pa1)
        | (with_reducible exact bq_one pa2)
        | (with_reducible exact bq_one pb1)
        | (with_reducible exact bq_one pb2)
        | (with_reducible exact bq_one pc1)
        | (with_reducible exact bq_one pc2)
        | (with_reducible exact bq_als pa1)
        | (with_reducible exact bq_als pa2)
        | (with_reducible exact bq_als pb1)
        | (with_reducible exact bq_als pb2)
        | (with_reducible exact bq_als pc1)
        | (with_reducible exact bq_als pc2)
        | (with_reducible refine bq_fst pa1 ?_; omega)
        | (with_reducible refine bq_fst pa2 ?_; omega)
        | (with_reducible refine bq_fst pb1 ?_; omega)
        | (with_reducible refine bq_fst pb2 ?_; omega)
        | (with_reducible refine bq_fst pc1 ?_; omega)
        | (with_reducible refine bq_fst pc2 ?_; omega)
        | (with_reducible refine bq_snd pa1 ?_; omega)
        | (with_reducible refine bq_snd pa2 ?_; omega)
        | (with_reducible refine bq_snd pb1 ?_; omega)
        | (with_reducible refine bq_snd pb2 ?_; omega)
        | (with_reducible refine bq_snd pc1 ?_; omega)
        | (with_reducible refine bq_snd pc2 ?_; omega)
      ·refine i1.out.keep (fun b hb hl => ?_) (fun b hb hl => ?_) (by (try simp only [World.size_setCell, World.size_alloc]); omega)
       ·(try simp only [World.size_alloc, World.size_drew] at hb)
        (repeat (first | (rw [ex_far (by omega)]) | (rw [Below.heap_alloc _ _ _ (by (try simp only [World.size_alloc, World.size_setCell]); omega)]) | (rw [h5.out.block _ (by (try simp only [World.size_alloc]); omega)])))
       ·(try simp only [World.size_alloc, World.size_drew] at hb)
        exact ⟨by omega, by omega, by omega⟩
      ·refine i2.out.keep (fun b hb hl => ?_) (fun b hb hl => ?_) (by (try simp only [World.size_setCell, World.size_alloc]); omega)
       ·(try simp only [World.size_alloc] at hb)
        (repeat (first | (rw [ex_far (by omega)]) | (rw [Below.heap_alloc _ _ _ (by (try simp only [World.size_alloc, World.size_setCell]); omega)]) | (rw [h5.out.block _ (by (try simp only [World.size_alloc, World.size_setCell, World.size_drew]); omega)])))
       ·(try simp only [World.size_alloc] at hb)
        exact ⟨by omega, by omega, by omega⟩
   case rest =>
   obtain ⟨pa, pb, ⟨Ta, ta, uTa, Ia, nIa, uIa, Wa, nWa, uWa, Ga, nGa, uGa, Oa, nOa, uOa⟩, ⟨Tb, tb', uTb, Ib, nIb, uIb, Wb, nWb, uWb, Gb, nGb, uGb, Ob, nOb, uOb⟩, rfl, rfl, R⟩ := hcut
   clear C18 KQ Z7
   have QA0 := Lib.hid R.out.qa
   have QB0 := Lib.hid R.out.qb
   have hab : pa ≠ pb := R.out.ne
   have hpa : w4.heap.size ≤ pa := R.out.a0
   have hpb : w4.heap.size ≤ pb := R.out.b0
   have hla := QA0.out.lt
   have hlb2 := QB0.out.lt
   have a6 := QA0.out.cell 6
   have a6f := QA0.out.frozen 6
   have b6 := (blk_so QB0.out (p := ⟨pa, 6, none⟩) (by show pb ≠ pa; omega) (.int .i64 (-1))).cell 6
   have b6f := (blk_so QB0.out (p := ⟨pa, 6, none⟩) (by show pb ≠ pa; omega) (.int .i64 (-1))).frozen 6
   go_upto_region 9 with fail
   obtain ⟨wB, hwB⟩ : ∃ z, z = (wc.setCell ⟨pa, 6, none⟩ (.int .i64 (-1))).setCell ⟨pb, 6, none⟩ (.int .i64 (n : Int)) := ⟨_, rfl⟩
   have QA := Lib.hid (show Blk wB pa 74 #[.string tq, .slice Ta ta uTa, .slice Ia nIa uIa, .slice Wa nWa uWa, .slice Ga nGa uGa, .slice Oa nOa uOa, .int .i64 (-1), .bool ag] by rw [hwB]; exact blk_so (QA0.out.set_ 6 _) (by show pa ≠ pb; omega) _)
   have QB := Lib.hid (show Blk wB pb 74 #[.string tq, .slice Tb tb' uTb, .slice Ib nIb uIb, .slice Wb nWb uWb, .slice Gb nGb uGb, .slice Ob nOb uOb, .int .i64 (n : Int), .bool ag] by rw [hwB]; exact Blk.set_ (blk_so QB0.out (by show pb ≠ pa; omega) _) 6 _)
   have kp : ∀ b, b ≠ pa → b ≠ pb → wB.heap[b]? = wc.heap[b]? := fun b h1 h2 => by rw [hwB, Below.heap_setCell _ _ _ _ (by show b ≠ pb; exact h2), Below.heap_setCell _ _ _ _ (by show b ≠ pa; exact h1)]
   have hsB : wB.heap.size = wc.heap.size := by rw [hwB]; simp [World.setCell]
   have OA := Lib.hid (R.out.oa.keep (S' := fun _ => True) (fun b hb _ => kp b hb.2.1 hb.2.2) (fun _ _ _ => trivial) (Nat.le_of_eq hsB.symm))
   have OB := Lib.hid (R.out.ob.keep (S' := fun _ => True) (fun b hb _ => kp b hb.2.1 hb.2.2) (fun _ _ _ => trivial) (Nat.le_of_eq hsB.symm))
   have BBw := Lib.hid (show Below w1.heap.size w1 wB by
    have h := bt R.out.old B4.out
    have hs := B4.out.size
    refine ⟨?_, ?_, ?_, by rw [hsB]; exact h.size, fun k hk => (kp k (by omega) (by omega)).trans (h.block k hk)⟩
    ·rw [hwB]; exact h.os
    ·rw [hwB]; exact h.tape
    ·rw [hwB]; exact h.output)
   rw [← hwB]
   clear hwB kp hsB QA0 QB0 a6 a6f b6 b6f hla hlb2 hab hpa hpb R B4
   have ZOB := Lib.hid (ZO.out.below BBw.out)
   obtain ⟨⟨lsA, ea⟩, hqa⟩ : ∃ x, x = queryP (keepP lb q.wh rs) (psOf ag q.gr (keepP lb q.wh rs).1) (ofF lb) q.its q.ords (-1) := ⟨_, rfl⟩
   have EACH := Lib.hid (show ∀ v ∈ lsA, v.length = q.its.length from fun v hv => queryP_each (keepP lb q.wh rs) (psOf ag q.gr (keepP lb q.wh rs).1) (ofF lb) q.its q.ords (-1) v (by rw [← hqa]; exact hv))
   have hqn := queryP_lim (keepP lb q.wh rs) (psOf ag q.gr (keepP lb q.wh rs).1) (ofF lb) q.its q.ords n
   rw [← hqa] at hqn
   simp only [] at hqn
   have HQA := Lib.hid hqa
   have AR := Lib.hid (And.intro QI_.out.arI QI_.out.arO)
   have HNI : q.its.length ≤ 1048576 := by have h1 := OA.out.its.len; have h2 := OA.out.n1; simp only at h1 h2; omega
   have ROWSB := Lib.hid (HR.out.below (bt BBw.out B1.out))
   have LBB := Lib.hid (HLB.out.below (bt BBw.out B1.out))
   have CO := Lib.hid (fun W (h : Below wB.heap.size wB W) => own12 W RA rn rc rs (ROWSB.out.below h) (by omega))
   have CA := Lib.hid (fun W (h : Below wB.heap.size wB W) RB rcb (hr2 : RowsAt W RB rn rs) => show Calls Tryz.prog 19 #[.agg #[.string tq, .slice Ta ta uTa, .slice Ia nIa uIa, .slice Wa nWa uWa, .slice Ga nGa uGa, .slice Oa nOa uOa, .int .i64 (-1), .bool ag], .slice RB rn rcb, .slice LA ln lc] W (QueryPost (lsA, ea) W) from by
    rw [hqa]
    exact queryL W tq ⟨Ta, ta, uTa, Ia, nIa, uIa, Wa, nWa, uWa, Ga, nGa, uGa, Oa, nOa, uOa⟩ (-1) ag q (OA.out.bel h) AR.out.1 AR.out.2 RB rn rcb rs hr2 hrn HTX.out LA ln lc lb (LBB.out.below h) HLT.out (by omega) (by omega))
   have CB := Lib.hid (fun W (h : Below wB.heap.size wB W) RB rcb (hr2 : RowsAt W RB rn rs) => show Calls Tryz.prog 19 #[.agg #[.string tq, .slice Tb tb' uTb, .slice Ib nIb uIb, .slice Wb nWb uWb, .slice Gb nGb uGb, .slice Ob nOb uOb, .int .i64 (n : Int), .bool ag], .slice RB rn rcb, .slice LA ln lc] W (QueryPost (lsA.take n, ea) W) from by
    rw [← hqn]
    exact queryL W tq ⟨Tb, tb', uTb, Ib, nIb, uIb, Wb, nWb, uWb, Gb, nGb, uGb, Ob, nOb, uOb⟩ n ag q (OB.out.bel h) AR.out.1 AR.out.2 RB rn rcb rs hr2 hrn HTX.out LA ln lc lb (LBB.out.below h) HLT.out (by omega) (by omega))
   unfold OwnPost at CO
   unfold QueryPost at CA CB
   clear hqa hqn QI_
   go_cut [12, 13] from 51 to 60 (fun s12 s13 wx => QrsPost (lsA, ea) wB s12 s13 wx)
   case first =>
    have zc := QA.out.cell
    have z0 := zc 0
    have z1 := zc 1
    have z2 := zc 2
    have z3 := zc 3
    have z4 := zc 4
    have z5 := zc 5
    have z6 := zc 6
    have z7 := zc 7
    have hs1 := QA.out.lt
    have o1 := ZOB.out.cell 1
    have o2 := ZOB.out.cell 2
    have hol := ZOB.out.lt
    clear zc
    go_region_law (first | (go_simp; go_at_call 20; refine (CO.out _ (by go_grown)).mono ?_
                            rintro e2 w3 ⟨RB, rcb, rfl, hr3, hb3⟩; have hb4 := Lib.hid (bt hb3.out (show Below wB.heap.size wB _ by go_grown)); have zd := (QA.out.below hb4.out).cell; have q0 := zd 0; have q1 := zd 1; have q2 := zd 2; have q3 := zd 3; have q4 := zd 4; have q5 := zd 5; have q6 := zd 6; have q7 := zd 7; have hs3 := (QA.out.below hb4.out).lt; have p2 := (ZOB.out.below hb4.out).cell 2; have hol3 := (ZOB.out.below hb4.out).lt; clear zd hb3)
                         | (go_simp; go_at_call 19; refine (CA.out _ (by first | exact hb4.out | exact bt (below_drew _) hb4.out) _ _ (by first | exact hr3.out | exact hr3.out.below (below_drew _))).mono ?_
                            rintro e2 w4 ⟨MA, m, mc, rfl, h1, h2, h3⟩))
    all_goals
     go_wp2_with fail
     go_meet
     case rel => exact ⟨MA, m, mc, rfl, rfl, h1, h3, Lib.hid (bt h2.out (by first | exact hb4.out | exact bt (below_drew _) hb4.out))⟩
   case rest =>
   obtain ⟨MA, ll, lcap, rfl, rfl, HMA, HCAP, HB5⟩ := hcut
   clear CA
   rename World => wb5
   go_step
   go_step
   go_cut [14, 15] from 61 to 70 (fun s14 s15 wx => QrsPost (lsA.take n, ea) wb5 s14 s15 wx)
   case first =>
    have CB5 := Lib.hid (fun W (h : Below wb5.heap.size wb5 W) => CB.out W (bt h HB5.out))
    have CO5 := Lib.hid (fun W (h : Below wb5.heap.size wb5 W) => CO.out W (bt h HB5.out))
    have QB5 := Lib.hid (QB.out.below HB5.out)
    have ZOB5 := Lib.hid (ZOB.out.below HB5.out)
    have zc := QB5.out.cell
    have z0 := zc 0
    have z1 := zc 1
    have z2 := zc 2
    have z3 := zc 3
    have z4 := zc 4
    have z5 := zc 5
    have z6 := zc 6
    have z7 := zc 7
    have hs1 := QB5.out.lt
    have o1 := ZOB5.out.cell 1
    have o2 := ZOB5.out.cell 2
    have hol := ZOB5.out.lt
    clear zc
    go_region_law (first | (go_simp; go_at_call 20; refine (CO5.out _ (by go_grown)).mono ?_
                            rintro e2 w3 ⟨RB, rcb, rfl, hr3, hb3⟩; have hb4 := Lib.hid (bt hb3.out (show Below wb5.heap.size wb5 _ by go_grown)); have zd := (QB5.out.below hb4.out).cell; have q0 := zd 0; have q1 := zd 1; have q2 := zd 2; have q3 := zd 3; have q4 := zd 4; have q5 := zd 5; have q6 := zd 6; have q7 := zd 7; have hs3 := (QB5.out.below hb4.out).lt; have p2 := (ZOB5.out.below hb4.out).cell 2; have hol3 := (ZOB5.out.below hb4.out).lt; clear zd hb3)
                         | (go_simp; go_at_call 19; refine (CB5.out _ (by first | exact hb4.out | exact bt (below_drew _) hb4.out) _ _ (by first | exact hr3.out | exact hr3.out.below (below_drew _))).mono ?_
                            rintro e2 w4 ⟨MA, m, mc, rfl, h1, h2, h3⟩))
    all_goals
     go_wp2_with fail
     go_meet
     case rel => exact ⟨MA, m, mc, rfl, rfl, h1, h3, Lib.hid (bt h2.out (by first | exact hb4.out | exact bt (below_drew _) hb4.out))⟩
   case rest =>
   obtain ⟨MB, mm, mcap, rfl, rfl, HMB, -, HB6⟩ := hcut
   clear CB QB OB
   rename World => wb6
   simp only [] at HMA HMB ⊢
   have hll := HMA.out.len
   have hmm := HMB.out.len
   rw [List.length_take, hll] at hmm
   have B6 := Lib.hid (bt HB6.out (bt HB5.out BBw.out))
   have CN := Lib.hid (fun W (h : Below wb6.heap.size wb6 W) => numV W (HG.out.below (bt h (bt B6.out B1.out))) ea)
   obtain ⟨kn, hkn⟩ : ∃ k, k = numO ea := ⟨_, rfl⟩
   rw [← hkn] at CN
   have HLL := Lib.hid hll
   have HMM := Lib.hid hmm
   have hn9 : (n : Int) < 6 := by omega
   clear hll hmm hkn
   go_step
   go_step
   go_cut [83] from 70 to 84 (fun s83 wx => s83 = .bool false ∧ Hid (Below wb6.heap.size wb6 wx))
   case first =>
    have hne : (kn != kn) = false := by simp
    rcases Nat.lt_or_ge ll n with hcm | hcm
    ·have hcz : (ll : Int) < (n : Int) := by omega
     obtain rfl : ll = mm := by have := HMM.out; omega
     go_wp2_with fail
     refine (CN.out _ (Below.refl _ _)).mono ?_
     rintro e wn1 ⟨rfl, hn1⟩
     go_wp2_with fail
     refine (CN.out _ hn1.out).mono ?_
     rintro e wn2 ⟨rfl, hn2⟩
     go_wp2_with fail
     go_meet
     case rel => exact ⟨rfl, Lib.hid (bt hn2.out hn1.out)⟩
    ·have hcz : ¬ (ll : Int) < (n : Int) := by omega
     obtain rfl : n = mm := by have := HMM.out; omega
     go_wp2_with fail
     refine (CN.out _ (Below.refl _ _)).mono ?_
     rintro e wn1 ⟨rfl, hn1⟩
     go_wp2_with fail
     refine (CN.out _ hn1.out).mono ?_
     rintro e wn2 ⟨rfl, hn2⟩
     go_wp2_with fail
     go_meet
     case rel => exact ⟨rfl, Lib.hid (bt hn2.out hn1.out)⟩
   case rest =>
   obtain ⟨rfl, HN⟩ := hcut
   rename World => wN
   clear CN hn9
   have BN := Lib.hid (bt HN.out B6.out)
   cases ea with
   | some er =>
    have BZ := Lib.hid (bt BN.out B1.out)
    simp only [errV]
    go_wp2_with fail
    refine (SU.out _).mono ?_
    rintro e wS ⟨rfl, hS⟩
    go_wp2_with fail
    go_ret
    exact ⟨rfl, Lib.hid (bt hS.out BZ.out)⟩
   | none =>
    have EQ := Lib.hid (each_out lb (keepP lb q.wh rs) (psOf ag q.gr (keepP lb q.wh rs).1) q.its q.ords (by rw [← HQA.out]))
    simp only [errV]
    have BNB := Lib.hid (bt HN.out (bt HB6.out HB5.out))
    have a0 := (QA.out.below BNB.out).cell 0
    have a3 := (QA.out.below BNB.out).cell 3
    have hal := (QA.out.below BNB.out).lt
    go_upto_region 16 with fail
    clear a0 a3 hal
    obtain ⟨wD, hwD⟩ : ∃ z, z = (wN.alloc (.cells #[.string ⟨#[114, 111, 119, 115]⟩, .int .i64 1, .int .i64 0, .int .i64 0, .int .i64 0, .string ⟨#[]⟩, .bool false, .slice none 0 0] 51)).alloc (.cells #[.string tq, .slice none 0 0, .slice (some ⟨wN.heap.size, 0, none⟩) 1 1, .slice Wa nWa uWa, .slice none 0 0, .slice none 0 0, .int .i64 (-1), .bool true] 74) := ⟨_, rfl⟩
    have C0 := Lib.hid (show C4R wN tq Wa nWa uWa wN.heap.size (wN.heap.size + 1) [] none 0 0 wD by
     rw [hwD]
     exact ⟨bt (below_alloc _ _) (below_alloc _ _), blk_new' (w := wN.alloc _) rfl (by simp), (Blk.new wN 51 _).alloc _, ⟨rfl, fun j e hj => by simp at hj⟩, Nat.zero_le _⟩)
    rw [← hwD]
    clear hwD
    obtain ⟨t, ht⟩ : ∃ t, ts[0]? = some t := ⟨_, List.getElem?_eq_getElem (by rw [HT.out.len]; exact htn0)⟩
    obtain ⟨b, off, CA', cn, cc, rfl, hb0, -, c1, -, hcn⟩ := HT.out.at_ 0 t ht
    rw [Nat.zero_mul, Nat.add_zero] at c1
    have BD := Lib.hid (bt C0.out.old (bt BN.out B1.out))
    have x1 := (BD.out.cell (p := ⟨b, off + 1, none⟩) hb0).trans c1
    have hbD := Nat.lt_of_lt_of_le hb0 BD.out.size
    have o0 := (ZO.out.below (bt C0.out.old BN.out)).cell 0
    have hol := (ZO.out.below (bt C0.out.old BN.out)).lt
    have htz : (0 : Int) < (tn : Int) := by omega
    have d4 := C0.out.qc.cell 4
    have d4f := C0.out.qc.frozen 4
    have hdl := C0.out.qc.lt
    clear ht hb0 c1
    obtain ⟨qcn, hqcn⟩ : ∃ x, x = decide ((0 : Int) < (cn : Int)) := ⟨_, rfl⟩
    go_cut [100] from 94 to 101 (fun s100 wx => s100 = .bool qcn ∧ wx = wD)
    case first =>
     rcases Nat.eq_zero_or_pos cn with h0 | h0
     ·subst h0
      obtain rfl : qcn = false := by rw [hqcn]; rfl
      clear hqcn
      go_wp2_with fail
      go_meet
      case rel => exact ⟨rfl, rfl⟩
     ·have hcz : (0 : Int) < (cn : Int) := by omega
      obtain rfl : qcn = true := by rw [hqcn]; simpa using hcz
      clear hqcn
      go_wp2_with fail
      go_meet
      case rel => exact ⟨rfl, rfl⟩
    case rest =>
    obtain ⟨rfl, rfl⟩ := hcut
    rename World => wD
    clear x1 hbD o0 hol htz hqcn
    go_step
    go_cut [101] from 101 to 103 (fun s101 wx => ∃ (gr : List Int) (Gc : Option Addr) (ngc ugc : Nat), Hid (C4R wN tq Wa nWa uWa wN.heap.size (wN.heap.size + 1) gr Gc ngc ugc wx))
    case first =>
     cases qcn with
     | false =>
      go_wp2_with fail
      go_meet
      case rel => exact ⟨[], none, 0, 0, C0⟩
     | true =>
      go_wp2_with fail
      go_meet
      case rel =>
       refine ⟨[0], some ⟨wD.heap.size, 0, none⟩, 1, 1, Lib.hid ⟨?_, ?_, ?_, ?_, by omega⟩⟩
       ·have h1 := C0.out.old
        have h2 := h1.size
        go_grown
       ·exact Blk.alloc (Blk.set_ C0.out.qc 4 _) _
       ·exact Blk.alloc (blk_so C0.out.qe (p := ⟨wN.heap.size + 1, 4, none⟩) (by show wN.heap.size ≠ wN.heap.size + 1; omega) _) _
       ·have z : Blk ((wD.setCell ⟨wN.heap.size + 1, 4, none⟩ (.slice (some ⟨wD.heap.size, 0, none⟩) 1 1)).alloc (.cells #[Value.int .i64 0] 3)) wD.heap.size 3 #[Value.int .i64 0] := blk_new' rfl (by simp only [World.size_setCell])
        refine ⟨rfl, fun j e hj => ?_⟩
        match j, hj with
        | 0, hj =>
         obtain rfl : Value.int .i64 0 = e := Option.some.inj hj
         exact ⟨wD.heap.size, 0, rfl, z.lt, trivial, z.cell 0⟩
    case rest =>
    obtain ⟨gr, Gc, ngc, ugc, RC⟩ := hcut
    clear C0 BD d4 d4f hdl
    rename World => wE
    have hkn := EQ.out.1
    have hnW : nWa ≤ 1048576 := OA.out.wn
    have BE := Lib.hid (bt RC.out.old (bt BN.out B1.out))
    have QCE := Lib.hid RC.out.qc
    have ZOBE := Lib.hid (ZO.out.below (bt RC.out.old BN.out))
    have COE := Lib.hid (fun W (h : Below wE.heap.size wE W) => CO.out W (bt h (bt RC.out.old BNB.out)))
    obtain ⟨ps, hps⟩ : ∃ p, p = psOf true gr (keepP lb q.wh rs).1 := ⟨_, rfl⟩
    have CC := Lib.hid (fun W (h : Below wE.heap.size wE W) RB rcb (hr2 : RowsAt W RB rn rs) => show Calls Tryz.prog 19 #[.agg #[.string tq, .slice none 0 0, .slice (some ⟨wN.heap.size, 0, none⟩) 1 1, .slice Wa nWa uWa, .slice Gc ngc ugc, .slice none 0 0, .int .i64 (-1), .bool true], .slice RB rn rcb, .slice LA ln lc] W (QueryPost (cnts ps, none) W) from by
     rw [← count_query lb (keepP lb q.wh rs) ps hkn, hps]
     exact queryL W tq ⟨none, 0, 0, some ⟨wN.heap.size, 0, none⟩, 1, 1, Wa, nWa, uWa, Gc, ngc, ugc, none, 0, 0⟩ (-1) true ⟨[], [rowsEx], q.wh, gr, []⟩ ((RC.out.out (OA.out.bel BNB.out).wh hnW).bel h) (fun e he => by
      obtain rfl : e = rowsEx := by simpa using he
      exact rows_ar) (fun e he => by cases he) RB rn rcb rs hr2 hrn HTX.out LA ln lc lb (HLB.out.below (bt h BE.out)) HLT.out (by omega) (by omega))
    have hkl : (keepP lb q.wh rs).1.length ≤ 500 := by have h1 := (keepP_sub lb q.wh rs).1; have h2 := HR.out.len; omega
    have PSL := Lib.hid (show ps.length ≤ 65536 ∧ (ps.map List.length).sum = (keepP lb q.wh rs).1.length ∧ (keepP lb q.wh rs).1.length ≤ 500 from by
     rw [hps]
     exact ⟨(psOf_ok true gr hkl (fun r hr' v hv => HTX.out r ((keepP_sub lb q.wh rs).2 r hr') v hv)).1, psOf_sum _ _, hkl⟩)
    have LLA := Lib.hid (show ag = false → ll = (keepP lb q.wh rs).1.length from fun h => by
     have h1 := EQ.out.2
     rw [← HQA.out] at h1
     rw [h, psOf_each] at h1
     rw [← HLL.out]; exact h1)
    unfold QueryPost at CC
    have RCO := Lib.hid RC.out.old
    clear hps hkn CO RC
    go_step
    go_step
    go_cut [17, 18] from 104 to 113 (fun s17 s18 wx => QrsPost (cnts ps, none) wE s17 s18 wx)
    case first =>
     have zc := QCE.out.cell
     have z0 := zc 0
     have z1 := zc 1
     have z2 := zc 2
     have z3 := zc 3
     have z4 := zc 4
     have z5 := zc 5
     have z6 := zc 6
     have z7 := zc 7
     have hs1 := QCE.out.lt
     have o1 := ZOBE.out.cell 1
     have o2 := ZOBE.out.cell 2
     have hol := ZOBE.out.lt
     clear zc
     go_region_law (first | (go_simp; go_at_call 20; refine (COE.out _ (by go_grown)).mono ?_
                             rintro e2 w3 ⟨RB, rcb, rfl, hr3, hb3⟩; have hb4 := Lib.hid (bt hb3.out (show Below wE.heap.size wE _ by go_grown)); have zd := (QCE.out.below hb4.out).cell; have q0 := zd 0; have q1 := zd 1; have q2 := zd 2; have q3 := zd 3; have q4 := zd 4; have q5 := zd 5; have q6 := zd 6; have q7 := zd 7; have hs3 := (QCE.out.below hb4.out).lt; have p2 := (ZOBE.out.below hb4.out).cell 2; have hol3 := (ZOBE.out.below hb4.out).lt; clear zd hb3)
                          | (go_simp; go_at_call 19; refine (CC.out _ (by first | exact hb4.out | exact bt (below_drew _) hb4.out) _ _ (by first | exact hr3.out | exact hr3.out.below (below_drew _))).mono ?_
                             rintro e2 w4 ⟨MA, m, mc, rfl, h1, h2, h3⟩))
     all_goals
      go_wp2_with fail
      go_meet
      case rel => exact ⟨MA, m, mc, rfl, rfl, h1, h3, Lib.hid (bt h2.out (by first | exact hb4.out | exact bt (below_drew _) hb4.out))⟩
    case rest =>
    obtain ⟨MC, kc, kcap, rfl, rfl, HMC, -, HB9⟩ := hcut
    clear CC QCE COE
    rename World => wF
    simp only [errV] at HMC ⊢
    have hkc : kc ≤ 65536 := by have h1 := HMC.out.len; unfold cnts at h1; rw [List.length_map] at h1; have := PSL.out.1; omega
    go_wp2_with fail
    go_loopg [19, 20] kc (fun kx s19 s20 wr => ∃ (i : Nat) (z : Int), s19 = .int .i64 z ∧ s20 = .int .i64 i ∧ kx + i = kc ∧ 0 ≤ z ∧ z ≤ 500 ∧ Hid (z = cntL ((cnts ps).take i)) ∧ wr = wF)
    case atStart => exact ⟨0, 0, rfl, rfl, rfl, Int.le_refl _, by omega, Lib.hid (by rw [List.take_zero]; rfl), rfl⟩
    case round =>
     obtain ⟨i, z, rfl, rfl, hki, hz0, hz5, HZ, rfl⟩ := hrel
     rename World => wF
     have hi9 : (i : Int) ≤ 65536 := by omega
     have hi0 : (0 : Int) ≤ (i : Int) := by omega
     by_cases hi : i < kc
     ·have hiz : (i : Int) < (kc : Int) := by omega
      obtain ⟨u, hu⟩ : ∃ u, ps[i]? = some u := ⟨_, List.getElem?_eq_getElem (by have h1 := HMC.out.len; unfold cnts at h1; rw [List.length_map] at h1; omega)⟩
      have hcu : (cnts ps)[i]? = some [Val.ofInt u.length] := by unfold cnts; rw [List.getElem?_map, hu]; rfl
      obtain ⟨b, off, b2, off2, c, rfl, hb, hb2, x0, y1⟩ := cnt_at HMC.out hcu
      have hst := cnt_step hcu
      have hct := cnt_take ps (i + 1)
      obtain ⟨k, hk⟩ : ∃ k, k = u.length := ⟨_, rfl⟩
      have hzk : z + (k : Int) = cntL ((cnts ps).take (i + 1)) := by rw [hst, ← HZ.out, hk]; rfl
      rw [← hk] at y1
      have h5 := PSL.out
      have hs0 : 0 ≤ z + (k : Int) := by omega
      have hs5 : z + (k : Int) ≤ 500 := by omega
      have hk5 : (k : Int) ≤ 500 := by omega
      have NX := Lib.hid hzk
      clear hu hcu hst hct hk hzk h5
      go_wp2_with fail
      go_roundg (gk - 1)
      case measure => omega
      case rel => exact ⟨i + 1, z + k, by first | rfl | (simp; done), by first | rfl | (simp; done), by omega, hs0, hs5, NX, rfl⟩
     ·have hiz : ¬ (i : Int) < (kc : Int) := by omega
      obtain rfl : i = kc := by omega
      have HZE := Lib.hid (show z = ((keepP lb q.wh rs).1.length : Nat) by
       have h1 := HZ.out
       rw [List.take_of_length_le (by rw [HMC.out.len]; exact Nat.le_refl _), cntL_cnts, PSL.out.2.1] at h1
       exact h1)
      have BF := Lib.hid (bt HB9.out BE.out)
      have BFB := Lib.hid (bt HB9.out (bt RCO.out BNB.out))
      have a7 := (QA.out.below BFB.out).cell 7
      have hal := (QA.out.below BFB.out).lt
      have hmc : mm ≤ lcap := by have h1 := HMM.out; have h2 := HCAP.out; omega
      have hmz : ¬ (lcap : Int) < (mm : Int) := by omega
      have hmi : (mm : Int) ≤ (lcap : Int) := by omega
      have CLS := Lib.hid (lists22 wF MB MA mm mcap lcap (lsA.take n) (HMB.out.below (bt HB9.out (bt RCO.out HN.out))) (by
       have h1 := (HMA.out.below (bt HB9.out (bt RCO.out (bt HN.out HB6.out)))).take (m := mm) (by have := HMM.out; omega)
       have e1 : lsA.take n = lsA.take mm := by
        rcases Nat.lt_or_ge ll n with h | h
        ·rw [List.take_of_length_le (by rw [HLL.out]; omega), List.take_of_length_le (by rw [HLL.out]; have := HMM.out; omega)]
        ·rw [show mm = n by have := HMM.out; omega]
       rw [e1]; exact h1) (by have := HMM.out; omega) (fun v hv => by rw [EACH.out v (List.mem_of_mem_take hv)]; omega))
      cases ag with
      | true =>
       go_wp2_with fail
       refine CLS.out.mono ?_
       rintro e wG ⟨rfl, hG⟩
       go_wp2_with fail
       refine (SU.out _).mono ?_
       rintro e wS ⟨rfl, hS⟩
       go_wp2_with fail
       go_ret
       exact ⟨rfl, Lib.hid (bt hS.out (bt hG.out BF.out))⟩
      | false =>
       have hzl : (z != (ll : Int)) = false := by
        rw [HZE.out, LLA.out rfl]; simp
       go_wp2_with fail
       refine CLS.out.mono ?_
       rintro e wG ⟨rfl, hG⟩
       go_wp2_with fail
       refine (SU.out _).mono ?_
       rintro e wS ⟨rfl, hS⟩
       go_wp2_with fail
       go_ret
       exact ⟨rfl, Lib.hid (bt hS.out (bt hG.out BF.out))⟩
end Go.Proofs.YtbcmmecilheicaaGreatDoor
