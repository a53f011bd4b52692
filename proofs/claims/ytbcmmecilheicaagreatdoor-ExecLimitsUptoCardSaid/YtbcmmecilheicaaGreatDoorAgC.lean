/- exec's part.filled of an expression without aggregates: the same; runner.of of it. exec's part.filled, of every expression. exec's runner.of, of every expression. -/
import Derived.Test.YtbcmmecilheicaaGreatDoorQryM
import Derived.Test.YtbcmmecilheicaaGreatDoorAgB

/- exec's part.filled of an expression without aggregates: the same; runner.of of it. -/
namespace Go.Proofs.YtbcmmecilheicaaGreatDoor
open Go Go.RowKit

set_option maxRecDepth 100000 in
set_option maxHeartbeats 8000000 in
/-- no aggregate: the expression itself -/
theorem filled65n (w : World) (RA : Option Addr) (rn rc : Nat) (i1 : Option Addr) (n1 c1 : Nat) (i2 : Option Addr) (n2 c2 : Nat) (x : Ex) (A : Option Addr) (n c : Nat) (LA : Option Addr) (ln lc : Nat) (lo : Nat)
  (hno : ∀ W, Below w.heap.size w W → AggNo x A n c W) (hin : ∀ W, Below w.heap.size w W → ExIn W (fun b => b < lo ∨ w.heap.size ≤ b) x A n c) :
  Calls Tryz.prog 129 #[.agg #[.slice RA rn rc, .slice i1 n1 c1, .slice i2 n2 c2], .agg #[.string x.op, .int .i64 x.kind, .int .i64 x.col, .int .i64 x.val.kind, .int .i64 x.val.int, .string x.val.text, .bool x.val.bool, .slice A n c], .slice LA ln lc] w (FillPost lo x none w) := by
 obtain ⟨w1, hw1⟩ : ∃ z, z = ((w.alloc (.cells #[.slice RA rn rc, .slice i1 n1 c1, .slice i2 n2 c2] 147)).alloc (.cells #[.string x.op, .int .i64 x.kind, .int .i64 x.col, .int .i64 x.val.kind, .int .i64 x.val.int, .string x.val.text, .bool x.val.bool, .slice A n c] 51)).alloc (.cells #[.string ⟨#[]⟩, .int .i64 0, .int .i64 0, .int .i64 0, .int .i64 0, .string ⟨#[]⟩, .bool false, .slice none 0 0] 51) := ⟨_, rfl⟩
 have B1 := Lib.hid (show Below w.heap.size w w1 by rw [hw1]; exact bt (below_alloc _ _) (bt (below_alloc _ _) (below_alloc _ _)))
 have Z1 := Lib.hid (show Blk w1 (w.heap.size + 1) 51 #[.string x.op, .int .i64 x.kind, .int .i64 x.col, .int .i64 x.val.kind, .int .i64 x.val.int, .string x.val.text, .bool x.val.bool, .slice A n c] by rw [hw1]; exact (blk_new' (w := w.alloc _) rfl (by simp)).alloc _)
 have Z2 := Lib.hid (show Blk w1 (w.heap.size + 1 + 1) 51 #[.string ⟨#[]⟩, .int .i64 0, .int .i64 0, .int .i64 0, .int .i64 0, .string ⟨#[]⟩, .bool false, .slice none 0 0] by rw [hw1]; exact blk_new' (w := (w.alloc _).alloc _) rfl (by simp))
 have HN := Lib.hid (hno w1 B1.out)
 unfold AggNo exAgg at HN
 have HI := Lib.hid hin
 clear hno hin
 have zc := Z1.out.cell
 have x0 := zc 0
 have x1 := zc 1
 have x2 := zc 2
 have x3 := zc 3
 have x4 := zc 4
 have x5 := zc 5
 have x6 := zc 6
 have x7 := zc 7
 have hs1 := Z2.out.lt
 clear zc
 go_enter Tryz.func129, Tryz.ntmps129
 go_wp2_with fail
 rw [← hw1]
 clear hw1
 refine HN.out.mono ?_
 clear HN x0 x1 x2 x3 x4 x5 x6 x7
 rintro e w2 ⟨rfl, h2⟩
 have zc := (Z1.out.below h2.out).cell
 have x0 := zc 0
 have x1 := zc 1
 have x2 := zc 2
 have x3 := zc 3
 have x4 := zc 4
 have x5 := zc 5
 have x6 := zc 6
 have x7 := zc 7
 have hs2 := h2.out.size
 have hs3 : w.heap.size + 1 < w2.heap.size := by omega
 have ZR := Lib.hid (Z2.out.below h2.out)
 have hfz := fun o => ZR.out.frozen o
 have q0 := ZR.out.cell 0
 have q1 := ZR.out.cell 1
 have q2 := ZR.out.cell 2
 have q3 := ZR.out.cell 3
 have q4 := ZR.out.cell 4
 have q5 := ZR.out.cell 5
 have q6 := ZR.out.cell 6
 have q7 := ZR.out.cell 7
 have hs4 := ZR.out.lt
 have BW := Lib.hid (show Below w.heap.size w w2 from bt h2.out B1.out)
 clear zc h2
 go_wp2_with fail
 have BF := Lib.hid (show Below w.heap.size w ((((((((w2.setCell ⟨w.heap.size + 1 + 1, 0, none⟩ (.string x.op)).setCell ⟨w.heap.size + 1 + 1, 1, none⟩ (.int .i64 x.kind)).setCell ⟨w.heap.size + 1 + 1, 2, none⟩ (.int .i64 x.col)).setCell ⟨w.heap.size + 1 + 1, 3, none⟩ (.int .i64 x.val.kind)).setCell ⟨w.heap.size + 1 + 1, 4, none⟩ (.int .i64 x.val.int)).setCell ⟨w.heap.size + 1 + 1, 5, none⟩ (.string x.val.text)).setCell ⟨w.heap.size + 1 + 1, 6, none⟩ (.bool x.val.bool)).setCell ⟨w.heap.size + 1 + 1, 7, none⟩ (.slice A n c)) by have hb := BW.out; have hs := hb.size; go_grown)
 refine bodyPost_ret (results_ee (s := 6) (k := 7) rfl rfl rfl (ex_set ZR.out _ _ _ _ _ _ _ _)) rfl ⟨A, n, c, rfl, Lib.hid (fun _ => HI.out _ BF.out), BF⟩

end Go.Proofs.YtbcmmecilheicaaGreatDoor

/- exec's part.filled, of every expression. -/
namespace Go.Proofs.YtbcmmecilheicaaGreatDoor
open Go Go.RowKit

theorem argsP_tx (lb : List ByteArray) (y : Ex) : ∀ (rs : LRow), (∀ r ∈ rs, (evalP ⟨r.1, r.2, lb⟩ y).1.text.size ≤ TB) → ∀ v ∈ (argsP lb y rs).1, v.text.size ≤ TB
 | [], _ => fun v hv => by rw [argsP] at hv; cases hv
 | r :: rs, h => by
  have ih := argsP_tx lb y rs (fun r hr => h r (List.mem_cons_of_mem _ hr))
  have h0 := h r (List.mem_cons_self ..)
  rw [argsP]
  rcases hx : evalP ⟨r.1, r.2, lb⟩ y with ⟨v, e1⟩
  rw [hx] at h0
  cases e1 with
  | some e1 => intro v hv; cases hv
  | none =>
   rcases hl : argsP lb y rs with ⟨l2, e2⟩
   rw [hl] at ih
   cases e2 with
   | some e2 => intro v hv; cases hv
   | none =>
    intro u hu
    by_cases hk : v.kind = 0
    ·simp only [hk, ne_eq, not_true_eq_false, if_false] at hu
     exact ih u hu
    ·simp only [ne_eq, hk, not_false_eq_true, if_true] at hu
     rcases List.mem_cons.1 hu with rfl | hu
     ·exact h0
     ·exact ih u hu
theorem minL_tx : ∀ (l : List Val) (m : Val), m.text.size ≤ TB → (∀ v ∈ l, v.text.size ≤ TB) → (minL m l).text.size ≤ TB
 | [], _, hm, _ => hm
 | v :: l, m, hm, h => by
  rw [minL]
  refine minL_tx l _ ?_ (fun u hu => h u (List.mem_cons_of_mem _ hu))
  split
  ·exact h v (List.mem_cons_self ..)
  ·exact hm
theorem maxL_tx : ∀ (l : List Val) (m : Val), m.text.size ≤ TB → (∀ v ∈ l, v.text.size ≤ TB) → (maxL m l).text.size ≤ TB
 | [], _, hm, _ => hm
 | v :: l, m, hm, h => by
  rw [maxL]
  refine maxL_tx l _ ?_ (fun u hu => h u (List.mem_cons_of_mem _ hu))
  split
  ·exact h v (List.mem_cons_self ..)
  ·exact hm
theorem sumL_tx : ∀ (l : List Val) (s : Val), s.text.size ≤ TB → (sumL s l).1.text.size ≤ TB
 | [], _, hs => hs
 | v :: l, s, _ => by
  have h := reckon_size 43 s v
  rw [sumL]
  rcases hx : reckonP 43 s v with ⟨s', e1⟩
  rw [hx] at h
  cases e1 with
  | some e1 => exact Nat.zero_le _
  | none => exact sumL_tx l s' h
theorem aggV_tx (lb : List ByteArray) (rs : LRow) (op : ByteArray) (args : List Ex) (h : ∀ y ∈ args, ∀ r ∈ rs, (evalP ⟨r.1, r.2, lb⟩ y).1.text.size ≤ TB) : (aggV lb rs op args).1.text.size ≤ TB := by
 cases args with
 | nil => exact Nat.zero_le _
 | cons y ys =>
  have ht := argsP_tx lb y rs (h y (List.mem_cons_self ..))
  rw [aggV]
  refine ite_size (Nat.zero_le _) (ite_size ?_ (ite_size ?_ (ite_size ?_ ?_)))
  ·rw [cntP]
   rcases argsP lb y rs with ⟨l, _ | e⟩ <;> exact Nat.zero_le _
  ·rw [minP]
   rcases hx : argsP lb y rs with ⟨_ | ⟨v, l⟩, _ | e⟩ <;> rw [hx] at ht
   ·exact Nat.zero_le _
   ·exact Nat.zero_le _
   ·exact minL_tx l v (ht v (List.mem_cons_self ..)) (fun u hu => ht u (List.mem_cons_of_mem _ hu))
   ·exact Nat.zero_le _
  ·rw [maxP]
   rcases hx : argsP lb y rs with ⟨_ | ⟨v, l⟩, _ | e⟩ <;> rw [hx] at ht
   ·exact Nat.zero_le _
   ·exact Nat.zero_le _
   ·exact maxL_tx l v (ht v (List.mem_cons_self ..)) (fun u hu => ht u (List.mem_cons_of_mem _ hu))
   ·exact Nat.zero_le _
  ·rw [sumP]
   rcases hx : argsP lb y rs with ⟨_ | ⟨v, l⟩, _ | e⟩ <;> rw [hx] at ht
   ·exact Nat.zero_le _
   ·exact Nat.zero_le _
   ·exact sumL_tx l v (ht v (List.mem_cons_self ..))
   ·exact Nat.zero_le _
/-- what comes of the arguments -/
def fillR (op : ByteArray) (kind col : Int) (v : Val) : List Ex × Option Int → Ex × Option Int
 | (_, some er) => (zeroEx, some er)
 | (l, none) => (.mk op kind col v l, none)

set_option maxRecDepth 100000 in
set_option maxHeartbeats 8000000 in
theorem fill129w (w : World) (lo : Nat) (hlo : lo ≤ w.heap.size) (RA : Option Addr) (rn rc : Nat) (i1 : Option Addr) (n1 c1 : Nat) (i2 : Option Addr) (n2 c2 : Nat) (lb : List ByteArray) (rs : LRow) (LA : Option Addr) (ln lc : Nat) (op : ByteArray) (kind col : Int) (v : Val) (args : List Ex) (A : Option Addr) (n c b off : Nat) (len : args.length = n) (small : n * 96 ≤ TB) (tx : v.text.size ≤ TB) (hA : 0 < n → A = some ⟨b, off, none⟩ ∧ b < w.heap.size)
  (As : Nat → Option Addr) (ns cs : Nat → Nat) (cells : ∀ (j : Nat) (e : Ex), args[j]? = some e → ExC w b (off + j * 8) e (As j) (ns j) (cs j)) (hin : isIn op aggs = false)
  (hq : ∀ W, Below w.heap.size w W → Calls Tryz.prog 78 #[.agg #[.string op, .int .i64 kind, .int .i64 col, .int .i64 v.kind, .int .i64 v.int, .string v.text, .bool v.bool, .slice A n c]] W fun e w' => e = .returned (.bool true) ∧ Hid (Below W.heap.size W w'))
  (ih : ∀ (j : Nat) (e : Ex), args[j]? = some e → ∀ W, Below w.heap.size w W → Calls Tryz.prog 129 #[.agg #[.slice RA rn rc, .slice i1 n1 c1, .slice i2 n2 c2], .agg #[.string e.op, .int .i64 e.kind, .int .i64 e.col, .int .i64 e.val.kind, .int .i64 e.val.int, .string e.val.text, .bool e.val.bool, .slice (As j) (ns j) (cs j)], .slice LA ln lc] W (FillPost lo (fillP lb rs e).1 (fillP lb rs e).2 W)) :
  Calls Tryz.prog 129 #[.agg #[.slice RA rn rc, .slice i1 n1 c1, .slice i2 n2 c2], .agg #[.string op, .int .i64 kind, .int .i64 col, .int .i64 v.kind, .int .i64 v.int, .string v.text, .bool v.bool, .slice A n c], .slice LA ln lc] w
   (FillPost lo (fillR op kind col v (fillL lb rs args)).1 (fillR op kind col v (fillL lb rs args)).2 w) := by
 have hn9 : n ≤ 1466015503701 := by unfold TB at small; omega
 obtain ⟨w1, hw1⟩ : ∃ z, z = ((w.alloc (.cells #[.slice RA rn rc, .slice i1 n1 c1, .slice i2 n2 c2] 147)).alloc (.cells #[.string op, .int .i64 kind, .int .i64 col, .int .i64 v.kind, .int .i64 v.int, .string v.text, .bool v.bool, .slice A n c] 51)).alloc (.cells #[.string ⟨#[]⟩, .int .i64 0, .int .i64 0, .int .i64 0, .int .i64 0, .string ⟨#[]⟩, .bool false, .slice none 0 0] 51) := ⟨_, rfl⟩
 have F0 := Lib.hid (show FI w lo (.slice RA rn rc) (.slice i1 n1 c1) (.slice i2 n2 c2) op kind col v A n c w1 [] none 0 by
  rw [hw1]
  exact ⟨bt (below_alloc _ _) (bt (below_alloc _ _) (below_alloc _ _)), by simp, ((Blk.new w 147 _).alloc _).alloc _, (blk_new' (w := w.alloc _) rfl (by simp)).alloc _, blk_new' (w := (w.alloc _).alloc _) rfl (by simp), World.ownsRow_nil _ _ _ _, fun g hg => by cases hg⟩)
 have HQ := Lib.hid (hq w1 F0.out.old)
 have HOP := Lib.hid hin
 have HA := Lib.hid hA
 have HC := Lib.hid cells
 have HI := Lib.hid ih
 have HL := Lib.hid len
 have HS := Lib.hid small
 have HT := Lib.hid tx
 have HLO := Lib.hid hlo
 obtain ⟨R, hR⟩ : ∃ R, fillL lb rs args = R := ⟨_, rfl⟩
 rw [hR]
 have HR := Lib.hid hR
 clear hA cells ih len small tx hin hq hR hlo
 have zc := F0.out.xb.cell
 have x0 := zc 0
 have x1 := zc 1
 have x2 := zc 2
 have x3 := zc 3
 have x4 := zc 4
 have x5 := zc 5
 have x6 := zc 6
 have x7 := zc 7
 have hs1 := F0.out.size
 clear zc
 go_enter Tryz.func129, Tryz.ntmps129
 go_wp2_with fail
 rw [← hw1]
 clear hw1
 refine HQ.out.mono ?_
 clear HQ x0 x1 x2 x3 x4 x5 x6 x7
 rintro e w2 ⟨rfl, h2⟩
 have F2 := Lib.hid (F0.out.below h2.out)
 clear F0 h2
 have x0 := F2.out.xb.cell 0
 have hs2 := F2.out.size
 have hs3 : w.heap.size + 1 < w2.heap.size := by omega
 have hs4 : w.heap.size + 1 < w2.heap.size + 1 := by omega
 have C8 := Lib.hid (contains68g (w2.alloc (.cells #[.string ⟨#[114, 111, 119, 115]⟩, .string ⟨#[99, 111, 117, 110, 116]⟩, .string ⟨#[115, 117, 109]⟩, .string ⟨#[109, 105, 110]⟩, .string ⟨#[109, 97, 120]⟩] 9)) (some ⟨w2.heap.size, 0, none⟩) 5 5 aggs (aggs_at (Blk.new w2 9 _)) (by omega) op)
 rw [HOP.out] at C8
 go_wp2_with fail
 refine C8.out.mono ?_
 clear C8 x0
 rintro e w3 ⟨rfl, rfl⟩
 have F3 := Lib.hid (F2.out.below (below_alloc w2 (.cells #[.string ⟨#[114, 111, 119, 115]⟩, .string ⟨#[99, 111, 117, 110, 116]⟩, .string ⟨#[115, 117, 109]⟩, .string ⟨#[109, 105, 110]⟩, .string ⟨#[109, 97, 120]⟩] 9)))
 obtain ⟨w3, hw3⟩ : ∃ z, z = w2.alloc (.cells #[.string ⟨#[114, 111, 119, 115]⟩, .string ⟨#[99, 111, 117, 110, 116]⟩, .string ⟨#[115, 117, 109]⟩, .string ⟨#[109, 105, 110]⟩, .string ⟨#[109, 97, 120]⟩] 9) := ⟨_, rfl⟩
 rw [← hw3] at F3 ⊢
 clear hw3 F2 hs1 hs2 hs3 hs4
 have x7 := F3.out.xb.cell 7
 have hs3 := F3.out.size
 go_wp2_with fail
 clear x7 hs3
 go_loopg [10, 38] n (fun kx s10 s38 wr => ∃ (i : Nat) (gs : List Given) (Ao : Option Addr) (co : Nat), s10 = .slice Ao gs.length co ∧ s38 = .int .i64 i ∧ gs.length = i ∧ kx + i = n ∧ Hid (FI w lo (.slice RA rn rc) (.slice i1 n1 c1) (.slice i2 n2 c2) op kind col v A n c wr gs Ao co) ∧ Hid (R = comb (gs.map (·.1)) (fillL lb rs (args.drop i))))
 case atStart => exact ⟨0, [], none, 0, rfl, rfl, rfl, rfl, F3, Lib.hid (by
  rw [← HR.out, List.drop_zero]
  rcases hh : fillL lb rs args with ⟨l, _ | er⟩
  ·rfl
  ·have : l = [] := by
    cases args with
    | nil => rw [fillL_nil] at hh; cases hh
    | cons x xs =>
     rw [fillL_cons] at hh
     rcases h1 : fillP lb rs x with ⟨y, _ | e1⟩ <;> rw [h1] at hh
     ·rcases h2 : fillL lb rs xs with ⟨l2, _ | e2⟩ <;> rw [h2] at hh
      ·injection hh with h3 h4; cases h4
      ·injection hh with h3 h4; exact h3.symm
     ·injection hh with h3 h4; exact h3.symm
   rw [this]; rfl)⟩
 case round =>
  obtain ⟨i, gs, Ao, co, rfl, rfl, hgl, hk, I, HF⟩ := hrel
  subst hgl
  by_cases hi : gs.length < n
  ·obtain ⟨x, hx⟩ : ∃ x, args[gs.length]? = some x := ⟨_, List.getElem?_eq_getElem (by rw [HL.out]; exact hi)⟩
   obtain ⟨hAe, hbl⟩ := HA.out (by omega)
   subst hAe
   have bwr : Below w.heap.size w wr := I.out.old
   obtain ⟨d0, d1, d2, d3, d4, d5, d6, d7⟩ := (HC.out gs.length x hx).below hbl bwr
   have zs := I.out.pb
   have s0 := zs.cell 0
   have s1 := zs.cell 1
   have s2 := zs.cell 2
   have hsl := zs.lt
   have hx96 : (gs.length : Int) < 1466015503701 := by omega
   have hiz : (gs.length : Int) < (n : Int) := by omega
   have hi0 : (0 : Int) ≤ (gs.length : Int) := by omega
   have call0 := (HI.out gs.length x hx (wr.alloc (.cells #[.string x.op, .int .i64 x.kind, .int .i64 x.col, .int .i64 x.val.kind, .int .i64 x.val.int, .string x.val.text, .bool x.val.bool, .slice (As gs.length) (ns gs.length) (cs gs.length)] 51)) (bwr.trans ((below_alloc wr _).mono bwr.size)))
   obtain ⟨⟨y, re⟩, hre⟩ : ∃ r, fillP lb rs x = r := ⟨_, rfl⟩
   unfold FillPost at call0
   rw [hre] at call0
   have call := Lib.hid call0
   have HRE := Lib.hid hre
   have HX := Lib.hid hx
   have II := Lib.hid I.out
   have hgs : (gs.length + 1) * 96 ≤ TB := by have := HS.out; unfold TB at this ⊢; omega
   have HG := Lib.hid hgs
   clear hx bwr I zs call0 hre hgs
   go_wp2_with fail
   refine call.out.mono ?_
   clear call d0 d1 d2 d3 d4 d5 d6 d7 s0 s1 s2
   rintro e w2 ⟨A2, m2, c2', rfl, hy, h2⟩
   have H2 := Lib.hid (show Below wr.heap.size wr w2 from h2.out.from1)
   have HY := Lib.hid (fun h => (hy.out h).keep (S' := fun b => b < lo ∨ wr.heap.size ≤ b) (W' := w2) (fun _ _ _ => rfl) (fun b hb _ => by rcases hb with hb | hb; exact .inl hb; exact .inr (by simp at hb; omega)) (Nat.le_refl _))
   clear h2 hy
   cases re with
   | some er =>
    simp only [errV]
    have EE := Lib.hid (show R = ([], some er) by
     rw [← HR.out]
     refine fillL_stop (i := gs.length) (ys := gs.map (·.1)) ?_ HX.out HRE.out
     rw [HR.out]; exact HF.out)
    have FF := Lib.hid ((II.out.below H2.out).below (below_alloc w2 (.cells #[.string y.op, .int .i64 y.kind, .int .i64 y.col, .int .i64 y.val.kind, .int .i64 y.val.int, .string y.val.text, .bool y.val.bool, .slice A2 m2 c2'] 51)))
    have ZR := Lib.hid FF.out.res
    obtain ⟨w5, hw5⟩ : ∃ z, z = w2.alloc (.cells #[.string y.op, .int .i64 y.kind, .int .i64 y.col, .int .i64 y.val.kind, .int .i64 y.val.int, .string y.val.text, .bool y.val.bool, .slice A2 m2 c2'] 51) := ⟨_, rfl⟩
    rw [← hw5] at FF ZR
    have BW := Lib.hid FF.out.old
    go_upto_region 12 with fail
    rw [← hw5]
    clear hw5
    have hfz := fun o => ZR.out.frozen o
    have q0 := ZR.out.cell 0
    have q1 := ZR.out.cell 1
    have q2 := ZR.out.cell 2
    have q3 := ZR.out.cell 3
    have q4 := ZR.out.cell 4
    have q5 := ZR.out.cell 5
    have q6 := ZR.out.cell 6
    have q7 := ZR.out.cell 7
    have hs4 := ZR.out.lt
    go_wp2_with fail
    refine bodyPost_ret (results_ee (s := 6) (k := 7) rfl rfl rfl (ex_set ZR.out _ _ _ _ _ _ _ _)) rfl ⟨none, 0, 0, by rw [EE.out]; rfl, Lib.hid (fun h => by rw [EE.out] at h; cases h), Lib.hid (by have hb := BW.out; have hs := hb.size; go_grown)⟩
   | none =>
    simp only [errV]
    have H3 := Lib.hid (show Below wr.heap.size wr (w2.alloc (.cells #[.string y.op, .int .i64 y.kind, .int .i64 y.col, .int .i64 y.val.kind, .int .i64 y.val.int, .string y.val.text, .bool y.val.bool, .slice A2 m2 c2'] 51)) from bt (below_alloc _ _) H2.out)
    obtain ⟨An, cn, w4, hr, gi⟩ := II.out.push HLO.out HG.out H3.out (e := y) (A2 := A2) (m := m2) (c2 := c2') ((HY.out rfl).keep (fun b _ hb => Below.heap_alloc w2 _ b hb) (fun _ hb _ => hb) (by simp))
    have hsz2 : (w2.alloc (.cells #[.string y.op, .int .i64 y.kind, .int .i64 y.col, .int .i64 y.val.kind, .int .i64 y.val.int, .string y.val.text, .bool y.val.bool, .slice A2 m2 c2'] 51)).heap.size = w2.heap.size + 1 := by simp
    rw [hsz2] at hr
    have HRUN := Lib.hid hr
    have GG := Lib.hid gi
    have NX := Lib.hid (show R = comb ((gs ++ [(y, A2, m2, c2')]).map (·.1)) (fillL lb rs (args.drop (gs.length + 1))) by
     rw [← HR.out, List.map_append]
     refine fillL_step (i := gs.length) ?_ HX.out HRE.out
     rw [HR.out]; exact HF.out)
    clear hr gi hsz2
    go_wp2_with (at_builtin; refine wpList_append_runI _ rfl _ _ 49 49 rfl (.slice Ao gs.length co) (.slice (some ⟨w2.heap.size + 1, 0, none⟩) 1 1) rfl rfl HRUN.out ?_)
    go_roundg (gk - 1)
    case measure => omega
    case rel => exact ⟨gs.length + 1, gs ++ [(y, A2, m2, c2')], An, cn, by simp, by first | rfl | (simp; done), by simp, by omega, GG, NX⟩
  ·have hiz : ¬ (gs.length : Int) < (n : Int) := by omega
   obtain rfl : n = gs.length := by omega
   have EE := Lib.hid (show R = (gs.map (·.1), none) by rw [HF.out, List.drop_of_length_le (by rw [HL.out]; omega), fillL_nil]; simp [comb])
   have XE := Lib.hid (I.out.end_ HS.out HT.out)
   have zx := I.out.xb
   have hfx := zx.frozen 7
   have hxl := zx.lt
   have z7 := zx.cell 7
   have OO := Lib.hid I.out.old
   have SZ := Lib.hid I.out.size
   have RR := Lib.hid I.out.res
   have XB := Lib.hid zx
   clear I HF zx
   go_upto_region 16 with fail
   obtain ⟨w5, hw5⟩ : ∃ z, z = wr.setCell ⟨w.heap.size + 1, 7, none⟩ (.slice Ao gs.length co) := ⟨_, rfl⟩
   rw [← hw5]
   have hs5 : w5.heap.size = wr.heap.size := by rw [hw5]; simp [World.setCell]
   have far : ∀ b, b ≠ w.heap.size + 1 → w5.heap[b]? = wr.heap[b]? := fun b hb => by rw [hw5]; exact Below.heap_setCell _ _ _ _ hb
   have X5 := Lib.hid (show Blk w5 (w.heap.size + 1) 51 _ by rw [hw5]; exact XB.out.set_ 7 (.slice Ao gs.length co))
   have R5 := Lib.hid (show Blk w5 (w.heap.size + 2) 51 _ from (far _ (by omega)).trans RR.out)
   have B5 := Lib.hid (show Below w.heap.size w w5 by rw [hw5]; have hb := OO.out; have hs := hb.size; go_grown)
   have XE5 := Lib.hid (XE.out.keep (W' := w5) (S' := fun b => b < lo ∨ w.heap.size + 3 ≤ b) (fun b hb _ => far b (by have := HLO.out; rcases hb with hb | hb <;> omega)) (fun _ hb _ => hb) (by omega))
   clear hw5 hfx hxl z7 far RR XB XE
   have y0 := X5.out.cell 0
   have y1 := X5.out.cell 1
   have y2 := X5.out.cell 2
   have y3 := X5.out.cell 3
   have y4 := X5.out.cell 4
   have y5 := X5.out.cell 5
   have y6 := X5.out.cell 6
   have y7 := X5.out.cell 7
   have r0 := R5.out.cell 0
   have r1 := R5.out.cell 1
   have r2 := R5.out.cell 2
   have r3 := R5.out.cell 3
   have r4 := R5.out.cell 4
   have r5 := R5.out.cell 5
   have r6 := R5.out.cell 6
   have r7 := R5.out.cell 7
   have hfz := fun o => R5.out.frozen o
   have hs6 := R5.out.lt
   go_wp2_with fail
   refine bodyPost_ret (results_ee (s := 6) (k := 7) rfl rfl rfl (ex_set R5.out _ _ _ _ _ _ _ _)) rfl ⟨Ao, gs.length, co, by rw [EE.out]; rfl, Lib.hid (fun _ => ?_), Lib.hid (by have hb := B5.out; have hs := hb.size; go_grown)⟩
   rw [EE.out]
   exact XE5.out.keep (fun b hb hl => ex_far (by have := HLO.out; rcases hb with hb | hb <;> omega) _ _ _ _ _ _ _ _) (fun b hb _ => by rcases hb with hb | hb; exact .inl hb; exact .inr (by omega)) (by simp [World.setCell])

theorem ExIs.bb {W : World} {x : Ex} {A : Option Addr} {n c : Nat} (h : ExIs W x A n c) {w2 : World} (hb : Below W.heap.size W w2) : ExIn w2 (fun b => b < W.heap.size) x A n c := h.inn.keep (fun b hb1 _ => hb.block b hb1) (fun _ h _ => h) hb.size

set_option maxHeartbeats 2000000 in
theorem fill129g {W0 : World} (RA : Option Addr) (rn rc : Nat) (rs : LRow) (hr : RowsAt W0 RA rn rs) (hn : rn ≤ 1000000) (htx : RowsTx rs) (i1 : Option Addr) (n1 c1 : Nat) (i2 : Option Addr) (n2 c2 : Nat) (lb : List ByteArray) (LA : Option Addr) (ln lc : Nat) (hlb : StrsAt W0 LA ln lb) (hlt : ∀ z ∈ lb, z.size ≤ TB) {x : Ex} {A : Option Addr} {n c : Nat} (h : ExIs W0 x A n c) :
  ArOk x → ∀ W, Below W0.heap.size W0 W → Calls Tryz.prog 129 #[.agg #[.slice RA rn rc, .slice i1 n1 c1, .slice i2 n2 c2], .agg #[.string x.op, .int .i64 x.kind, .int .i64 x.col, .int .i64 x.val.kind, .int .i64 x.val.int, .string x.val.text, .bool x.val.bool, .slice A n c], .slice LA ln lc] W (FillPost W0.heap.size (fillP lb rs x).1 (fillP lb rs x).2 W) := by
 induction h with
 | mk op kind col v args A n c len small tx b off hA As ns cs cells sub ih =>
  intro har W hW
  have hx : ExIs W0 (.mk op kind col v args) A n c := .mk op kind col v args A n c len small tx b off hA As ns cs cells sub
  cases har with
  | mk op kind col v args har hsub =>
   by_cases hq : (isIn op aggs || aggBL args) = false
   ·rw [fillP_mk, if_pos hq]
    refine filled65n W RA rn rc i1 n1 c1 i2 n2 c2 (.mk op kind col v args) A n c LA ln lc W0.heap.size (fun W2 h2 => ?_) (fun W2 h2 => (hx.bb (bt h2 hW)).keep (fun _ _ _ => rfl) (fun b hb _ => .inl hb) (Nat.le_refl _))
    have := agg78g hx W2 (bt h2 hW)
    rw [aggB_mk, hq] at this
    exact this
   ·by_cases hin : isIn op aggs = true
    ·rw [fillP_mk, if_neg hq, if_pos hin]
     refine (filled65a W RA rn rc i1 n1 c1 i2 n2 c2 op kind col v A n c hin LA ln lc (aggV lb rs op args).1 (aggV lb rs op args).2 (fun W2 h2 => agg160g W2 RA rn rc rs (hr.below (bt h2 hW)) hn htx i1 n1 c1 i2 n2 c2 (.mk op kind col v args) A n c (hx.bel (bt h2 hW)) hin (har hin) lb LA ln lc (hlb.below (bt h2 hW)) hlt)).mono ?_
     rintro e w' ⟨rfl, hb⟩
     refine ⟨none, 0, 0, rfl, Lib.hid (fun _ => .mk _ _ _ _ _ _ _ _ rfl (Nat.zero_le _) (aggV_tx lb rs op args fun y hy r hr2 => ?_) 0 0 (fun h => absurd h (Nat.lt_irrefl 0)) (fun _ => none) (fun _ => 0) (fun _ => 0) (fun j e hj => by simp at hj) (fun j e hj => by simp at hj)), hb⟩
     obtain ⟨j, hj⟩ := List.getElem?_of_mem hy
     exact (sub j y hj).size ⟨r.1, r.2, lb⟩ (fun v hv => htx r hr2 v hv) hlt
    ·rw [fillP_mk, if_neg hq, if_neg hin]
     have hin : isIn op aggs = false := by simpa using hin
     have key := fill129w W W0.heap.size hW.size RA rn rc i1 n1 c1 i2 n2 c2 lb rs LA ln lc op kind col v args A n c b off len small tx (fun h => ⟨(hA h).1, Nat.lt_of_lt_of_le (hA h).2 hW.size⟩) As ns cs (fun j e hj => (cells j e hj).below (hA (by have := (List.getElem?_eq_some_iff.1 hj).1; omega)).2 hW) hin
      (fun W2 h2 => by
       have := agg78g hx W2 (bt h2 hW)
       rw [aggB_mk, show (isIn op aggs || aggBL args) = true from by cases hh : (isIn op aggs || aggBL args); exact absurd hh hq; rfl] at this
       exact this)
      (fun j e hj W2 h2 => ih j e hj (hsub j e hj) W2 (bt h2 hW))
     rcases hf : fillL lb rs args with ⟨l, _ | er⟩ <;> rw [hf] at key <;> exact key

end Go.Proofs.YtbcmmecilheicaaGreatDoor

/- exec's runner.of, of every expression. -/
namespace Go.Proofs.YtbcmmecilheicaaGreatDoor
open Go Go.RowKit

/-- what runner.of answers -/
noncomputable def ofF (lb : List ByteArray) (x : Ex) (rs : RowL) : Res := ofP lb rs (fillP lb rs x).1 (fillP lb rs x).2
theorem of_fill (w : World) (tb : ByteArray) (T1 : Option Addr) (t1 u1 : Nat) (T2 : Option Addr) (t2 u2 : Nat) (T3 : Option Addr) (t3 u3 : Nat) (T4 : Option Addr) (t4 u4 : Nat) (T5 : Option Addr) (t5 u5 : Nat) (lim : Int) (ag : Bool) (T8 : Option Addr) (t8 u8 : Nat) (LA : Option Addr) (ln lc : Nat)
  (lb : List ByteArray) (hlb : StrsAt w LA ln lb) (hlt : ∀ z ∈ lb, z.size ≤ TB) (x : Ex) (har : ArOk x) (rs : RowL) (hn : rs.length ≤ 1000000) (htx : RowsTx rs) :
  OfC (.agg #[.string tb, .slice T1 t1 u1, .slice T2 t2 u2, .slice T3 t3 u3, .slice T4 t4 u4, .slice T5 t5 u5, .int .i64 lim, .bool ag, .slice T8 t8 u8, .slice LA ln lc]) w (ofF lb) x rs := by
 intro W hW RA rn rc i1 n1 c1 i2 n2 c2 A n c hr hx
 have hrl := hr.len
 exact of45 W tb T1 t1 u1 T2 t2 u2 T3 t3 u3 T4 t4 u4 T5 t5 u5 lim ag T8 t8 u8 RA rn rc rs hr (by omega) htx i1 n1 c1 i2 n2 c2 x A n c lb LA ln lc (hlb.below hW) hlt (fillP lb rs x).1 (fillP lb rs x).2
  (fun W2 h2 => fill129g RA rn rc rs hr (by omega) htx i1 n1 c1 i2 n2 c2 lb LA ln lc (hlb.below hW) hlt hx har W2 h2)

end Go.Proofs.YtbcmmecilheicaaGreatDoor
