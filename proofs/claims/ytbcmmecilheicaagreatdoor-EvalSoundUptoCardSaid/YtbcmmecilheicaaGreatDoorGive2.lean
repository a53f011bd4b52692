/- give: the walk. -/
import Derived.Test.YtbcmmecilheicaaGreatDoorGive1
import Derived.Deep.RegionLaw
namespace Go.Proofs.YtbcmmecilheicaaGreatDoor
open Go Go.RowKit

/-- an expression of one's own comes back -/
def GivePost (x : Ex) (n : Nat) (w : World) (e : Ending) (w' : World) : Prop := ∃ (A' : Option Addr) (c' : Nat), e = .returned (exAgg x A' n c') ∧ Hid (ExIn w' (fun b => w.heap.size ≤ b) x A' n c') ∧ Hid (Below w.heap.size w w')
theorem results_e {fn : Func} {s : Nat} (h : fn.results = #[.cell s 51]) {tmps : Array Value} {W : World} {b : Nat} {c0 c1 c2 c3 c4 c5 c6 c7 : Value} (hs : tmps[s]? = some (.pointer (some ⟨b, 0, none⟩))) (z : Blk W b 51 #[c0, c1, c2, c3, c4, c5, c6, c7]) :
    (results fn tmps).run Tryz.prog W = .ok (.agg #[c0, c1, c2, c3, c4, c5, c6, c7]) W := by
  have q0 := z.cell 0
  have q1 := z.cell 1
  have q2 := z.cell 2
  have q3 := z.cell 3
  have q4 := z.cell 4
  have q5 := z.cell 5
  have q6 := z.cell 6
  have q7 := z.cell 7
  simp [results, h, hs, go_sem, q0, q1, q2, q3, q4, q5, q6, q7]
theorem ex_set {W : World} {b : Nat} {t : TypeId} {c0 c1 c2 c3 c4 c5 c6 c7 : Value} (z : Blk W b t #[c0, c1, c2, c3, c4, c5, c6, c7]) (d0 d1 d2 d3 d4 d5 d6 d7 : Value) :
    Blk ((((((((W.setCell ⟨b, 0, none⟩ d0).setCell ⟨b, 1, none⟩ d1).setCell ⟨b, 2, none⟩ d2).setCell ⟨b, 3, none⟩ d3).setCell ⟨b, 4, none⟩ d4).setCell ⟨b, 5, none⟩ d5).setCell ⟨b, 6, none⟩ d6).setCell ⟨b, 7, none⟩ d7) b t #[d0, d1, d2, d3, d4, d5, d6, d7] := by
  have z0 : Blk _ b t #[d0, c1, c2, c3, c4, c5, c6, c7] := z.set_ 0 d0
  have z1 : Blk _ b t #[d0, d1, c2, c3, c4, c5, c6, c7] := z0.set_ 1 d1
  have z2 : Blk _ b t #[d0, d1, d2, c3, c4, c5, c6, c7] := z1.set_ 2 d2
  have z3 : Blk _ b t #[d0, d1, d2, d3, c4, c5, c6, c7] := z2.set_ 3 d3
  have z4 : Blk _ b t #[d0, d1, d2, d3, d4, c5, c6, c7] := z3.set_ 4 d4
  have z5 : Blk _ b t #[d0, d1, d2, d3, d4, d5, c6, c7] := z4.set_ 5 d5
  have z6 : Blk _ b t #[d0, d1, d2, d3, d4, d5, d6, c7] := z5.set_ 6 d6
  exact z6.set_ 7 d7

theorem ex_far {W : World} {b b' : Nat} (h : b' ≠ b) (d0 d1 d2 d3 d4 d5 d6 d7 : Value) :
    ((((((((W.setCell ⟨b, 0, none⟩ d0).setCell ⟨b, 1, none⟩ d1).setCell ⟨b, 2, none⟩ d2).setCell ⟨b, 3, none⟩ d3).setCell ⟨b, 4, none⟩ d4).setCell ⟨b, 5, none⟩ d5).setCell ⟨b, 6, none⟩ d6).setCell ⟨b, 7, none⟩ d7).heap[b']? = W.heap[b']? := by
  rw [Below.heap_setCell _ _ _ _ h, Below.heap_setCell _ _ _ _ h, Below.heap_setCell _ _ _ _ h, Below.heap_setCell _ _ _ _ h, Below.heap_setCell _ _ _ _ h, Below.heap_setCell _ _ _ _ h, Below.heap_setCell _ _ _ _ h, Below.heap_setCell _ _ _ _ h]
theorem step_append_runI {P : Program} {ops : Array Oper} {o : Oper} {a : Act} {w : World} {K : Act → World → Prop} {Q : Exit → Act → World → Prop} {E : Prop}
    (hg : o.guard = none) (d x : Operand) (dT sT : TypeId) (hop : o.op = Op.call { callee := Callee.builtin Builtin.append, args := #[d, x], argTypes := #[dT, sT] })
    (v u : Value) (hd : a.eval d = v) (hx : a.eval x = u) {v' : Value} {w' : World} (hr : (Builtin.append_ #[dT, sT] o.type #[v, u]).run P w = .ok v' w') (hK : K (a.put o.dst v') w') :
    if Region.wanted o (yielded ops a.tmps) = true then Oper.wp P o a w K Q else E := by
  have hw : Region.wanted o (yielded ops a.tmps) = true := by simp [Region.wanted, hg]
  rw [if_pos hw]
  unfold Oper.wp
  simp [execOp, hop, resolve, invoke, builtin, hd, hx, hr, Result.andThen]
  exact hK


set_option maxRecDepth 100000 in
set_option maxHeartbeats 8000000 in
theorem give8 {W0 : World} {x : Ex} {A : Option Addr} {n c : Nat} (h : ExIs W0 x A n c) : ∀ W, Below W0.heap.size W0 W → Calls Tryz.prog 12 #[exAgg x A n c] W (GivePost x n W) := by
  induction h with
  | mk op kind col v args A n c len small tx b off hA As ns cs cells sub ih =>
    intro W hW
    show Calls Tryz.prog 12 #[.agg #[.string op, .int .i64 kind, .int .i64 col, .int .i64 v.kind, .int .i64 v.int, .string v.text, .bool v.bool, .slice A n c]] W _
    have hn9 : n ≤ 1466015503701 := by unfold TB at small; omega
    have HW := Lib.hid hW
    have HA := Lib.hid hA
    have HC := Lib.hid cells
    have HI := Lib.hid ih
    have HL := Lib.hid len
    have HS := Lib.hid small
    have HT := Lib.hid tx
    clear hW hA cells ih len small tx sub
    go_enter Tryz.func12, Tryz.ntmps12
    go_upto_region 2 with fail
    obtain ⟨w1, hw1⟩ : ∃ y, y = ((W.alloc (.cells #[.string op, .int .i64 kind, .int .i64 col, .int .i64 v.kind, .int .i64 v.int, .string v.text, .bool v.bool, .slice A n c] 38)).alloc (.cells #[.string ⟨#[]⟩, .int .i64 0, .int .i64 0, .int .i64 0, .int .i64 0, .string ⟨#[]⟩, .bool false, .slice none 0 0] 51)).alloc (.cells #[.string op, .int .i64 kind, .int .i64 col, .int .i64 v.kind, .int .i64 v.int, .string v.text, .bool v.bool, .slice none 0 0] 51) := ⟨_, rfl⟩
    have G0 := Lib.hid (show GI W op kind col v args A n c w1 0 none 0 by
      rw [hw1]
      refine ⟨bt (below_alloc _ _) (bt (below_alloc _ _) (below_alloc _ _)), by simp, ((blk_new' (w := W) rfl rfl).alloc _).alloc _, (blk_new' (w := W.alloc _) rfl (by simp)).alloc _, blk_new' (w := (W.alloc _).alloc _) rfl (by simp), [], World.ownsRow_nil _ _ _ _, rfl, fun g hg => by cases hg⟩)
    rw [← hw1]
    clear hw1
    go_wp2_with fail
    go_loopg [4] n (fun kx s4 wr => ∃ (i : Nat) (Ao : Option Addr) (co : Nat), s4 = .int .i64 i ∧ kx + i = n ∧ Hid (GI W op kind col v args A n c wr i Ao co))
    case atStart => exact ⟨0, none, 0, rfl, rfl, G0⟩
    case round =>
      obtain ⟨i, Ao, co, rfl, hk, I⟩ := hrel
      have x7 := I.out.xb.cell 7
      by_cases hi : i < n
      · have hiz : (i : Int) < (n : Int) := by omega
        have hi0 : (0 : Int) ≤ (i : Int) := by omega
        have hx96 : (i : Int) < 1466015503701 := by omega
        obtain ⟨e, he⟩ : ∃ e, args[i]? = some e := ⟨_, List.getElem?_eq_getElem (by rw [HL.out]; exact hi)⟩
        obtain ⟨hAe, hbl⟩ := HA.out (by omega)
        subst hAe
        have bwr : Below W0.heap.size W0 wr := bt I.out.old HW.out
        obtain ⟨c0, c1, c2, c3, c4, c5, c6, c7⟩ := (HC.out i e he).below hbl bwr
        have y7 := I.out.y.cell 7
        have hyl := I.out.y.lt
        have call := Lib.hid (HI.out i e he wr.drew ((bt (below_drew wr) bwr)))
        have HE := Lib.hid he
        have II := Lib.hid I.out
        have hs1 : (i + 1) * 96 ≤ TB := by have := HS.out; unfold TB at this ⊢; omega
        have HS1 := Lib.hid hs1
        clear he bwr I hs1
        go_upto_region 5 with fail
        go_region_law (first | (go_simp; go_at_call 12; refine call.out.mono ?_; rintro e2 w2 ⟨A2, c2, rfl, hin, h2⟩; obtain ⟨An, cn, w4, hr, f1, f2, gi⟩ := give_step II.out HS1.out HE.out (show Below wr.heap.size wr w2 from bt h2.out (below_drew wr)) hin.out; have HR := Lib.hid hr; have GG := Lib.hid gi; have y8 := (II.out.y.below (show Below wr.heap.size wr w2 from bt h2.out (below_drew wr))).cell 7; have hyl2 := (II.out.y.below (show Below wr.heap.size wr w2 from bt h2.out (below_drew wr))).lt; clear gi hin h2 hr) | (refine step_append_runI rfl _ _ 49 49 rfl (.slice Ao i co) (.slice (some ⟨w2.heap.size, 0, none⟩) 1 1) (by simp [Act.eval]) (by simp [Act.eval]) HR.out ?_))
        all_goals
          go_wp2_with fail
          go_roundg (gk - 1)
          case measure => omega
          case rel => exact ⟨i + 1, An, cn, by first | rfl | (simp; done), by omega, GG⟩
      · obtain rfl : n = i := by omega
        have hiz : ¬ (n : Int) < (n : Int) := by omega
        have y0 := I.out.y.cell 0
        have y1 := I.out.y.cell 1
        have y2 := I.out.y.cell 2
        have y3 := I.out.y.cell 3
        have y4 := I.out.y.cell 4
        have y5 := I.out.y.cell 5
        have y6 := I.out.y.cell 6
        have y7 := I.out.y.cell 7
        have r0 := I.out.res.cell 0
        have r1 := I.out.res.cell 1
        have r2 := I.out.res.cell 2
        have r3 := I.out.res.cell 3
        have r4 := I.out.res.cell 4
        have r5 := I.out.res.cell 5
        have r6 := I.out.res.cell 6
        have r7 := I.out.res.cell 7
        have hfz := fun o => I.out.res.frozen o
        have EE := Lib.hid (give_end I.out HL.out HS.out HT.out)
        have RR := Lib.hid I.out.res
        have OO := Lib.hid I.out.old
        have SZ := Lib.hid I.out.size
        clear I
        go_wp2_with fail
        refine bodyPost_ret (results_e (s := 2) rfl rfl (ex_set RR.out _ _ _ _ _ _ _ _)) rfl ⟨Ao, co, rfl, Lib.hid (EE.out.keep (fun b hb hl => ex_far (by omega) _ _ _ _ _ _ _ _) (fun b hb _ => by omega) (by simp [World.setCell])), Lib.hid ?_⟩
        have hb := OO.out
        have hs := hb.size
        have hs2 := SZ.out
        go_grown

end Go.Proofs.YtbcmmecilheicaaGreatDoor
