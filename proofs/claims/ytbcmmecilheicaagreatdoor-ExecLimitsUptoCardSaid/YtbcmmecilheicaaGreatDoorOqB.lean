/- A query in memory; what the document's OfQuery leaves. A statement whose order is open and whose last operations store: what reads is taken first, under a condition that need not hold behind the late operations. (After the kit's OrdersHeld, turned: the condition is not asked behind the late ones, which wait for all that is taken first.) -/
import Derived.Test.YtbcmmecilheicaaGreatDoorOqA
import Derived.Test.YtbcmmecilheicaaGreatDoorAgB
import Derived.OrdersHeld
import Derived.RegionTactic
import Derived.KernelRfl
import Derived.Deep.RegionHeld3
import Derived.Test.YtbcmmecilheicaaGreatDoorEvV

/- A query in memory; what the document's OfQuery leaves. -/
namespace Go.Proofs.YtbcmmecilheicaaGreatDoor
open Go Go.RowKit

theorem Bx.blk {p : Nat} {w w' : World} (h : Bx p w w') {b : Nat} {t : TypeId} {cs : Array Value} (z : Blk w b t cs) (hb : b ≠ p) : Blk w' b t cs := (h.block b z.lt hb).trans z
theorem results_qi {fn : Func} {s k : Nat} (h : fn.results = #[.cell s 68, .tmp k]) {tmps : Array Value} {W : World} {b : Nat} {c0 c1 c2 c3 c4 c5 c6 c7 er : Value} (hs : tmps[s]? = some (.pointer (some ⟨b, 0, none⟩))) (hk : tmps[k]? = some er) (z : Blk W b 68 #[c0, c1, c2, c3, c4, c5, c6, c7]) :
  (results fn tmps).run Tryz.prog W = .ok (.tuple #[.agg #[c0, c1, c2, c3, c4, c5, c6, c7], er]) W := by
 have q0 := z.cell 0
 have q1 := z.cell 1
 have q2 := z.cell 2
 have q3 := z.cell 3
 have q4 := z.cell 4
 have q5 := z.cell 5
 have q6 := z.cell 6
 have q7 := z.cell 7
 simp [results, h, hs, hk, go_sem, q0, q1, q2, q3, q4, q5, q6, q7]
/-- where a query's slices lie -/
structure QL where
 T1 : Option Addr
 t1 : Nat
 u1 : Nat
 IA : Option Addr
 n1 : Nat
 u2 : Nat
 WA : Option Addr
 wn : Nat
 wc : Nat
 GA : Option Addr
 gn : Nat
 gc : Nat
 OA : Option Addr
 n2 : Nat
 u5 : Nat
abbrev qCells (tb : ByteArray) (l : QL) (lim : Int) (ag : Bool) : Array Value := #[.string tb, .slice l.T1 l.t1 l.u1, .slice l.IA l.n1 l.u2, .slice l.WA l.wn l.wc, .slice l.GA l.gn l.gc, .slice l.OA l.n2 l.u5, .int .i64 lim, .bool ag]
/-- a query -/
structure Qu where
 ti : List ByteArray
 its : List Ex
 wh : List Ex
 gr : List Int
 ords : List (Ex × Bool)
structure QuIn (W : World) (S : Nat → Prop) (q : Qu) (l : QL) : Prop where
 ti : CellsIn W S l.T1 l.t1 (q.ti.map Value.string)
 its : ExsIn W S l.IA l.n1 q.its
 wh : ExsIn W S l.WA l.wn q.wh
 gr : CellsIn W S l.GA l.gn (q.gr.map (Value.int .i64))
 ords : OrdsIn W S l.OA l.n2 q.ords
 t1 : l.t1 ≤ 1048576
 n1 : l.n1 ≤ 1048576
 wn : l.wn ≤ 1048576
 gn : l.gn ≤ 1048576
 n2 : l.n2 ≤ 1048576
 arI : ∀ e ∈ q.its, ArOk e
 arO : ∀ e ∈ q.ords, ArOk e.1
/-- a query comes back, or an error -/
def OfQPost (w : World) (e : Ending) (w' : World) : Prop := ∃ (tb : ByteArray) (l : QL) (lim : Int) (ag : Bool) (er : Int), e = .returned (.tuple #[.agg (qCells tb l lim ag), .int .i64 er]) ∧ Hid (er = 0 → ∃ q, QuIn w' (fun b => w.heap.size ≤ b) q l) ∧ Hid (Below w.heap.size w w')
theorem ofq_err {w W' : World} (er : Int) (h : Hid (er ≠ 0)) (hb : Below w.heap.size w W') : OfQPost w (.returned (.tuple #[.agg #[.string ⟨#[]⟩, .slice none 0 0, .slice none 0 0, .slice none 0 0, .slice none 0 0, .slice none 0 0, .int .i64 0, .bool false], .int .i64 er])) W' :=
 ⟨⟨#[]⟩, ⟨none, 0, 0, none, 0, 0, none, 0, 0, none, 0, 0, none, 0, 0⟩, 0, false, er, rfl, Lib.hid (fun h0 => absurd h0 h.out), Lib.hid hb⟩

theorem QuIn.keep {W W' : World} {S S' : Nat → Prop} (hW : ∀ b, S b → b < W.heap.size → W'.heap[b]? = W.heap[b]?) (hS : ∀ b, S b → b < W.heap.size → S' b) (hs : W.heap.size ≤ W'.heap.size) {q : Qu} {l : QL} (h : QuIn W S q l) : QuIn W' S' q l :=
 ⟨h.ti.keep hW hS hs, h.its.keep hW hS hs, h.wh.keep hW hS hs, h.gr.keep hW hS hs, h.ords.keep hW hS hs, h.t1, h.n1, h.wn, h.gn, h.n2, h.arI, h.arO⟩
theorem ints_of {W : World} {S : Nat → Prop} {A : Option Addr} {n : Nat} {l : List Int} (h : CellsIn W S A n (l.map (Value.int .i64))) : IntsAt W A n l :=
 ⟨by have := h.len; rwa [List.length_map] at this, fun j z hj => by
  obtain ⟨b, off, e, hb, -, hc⟩ := h.at_ j (.int .i64 z) (by rw [List.getElem?_map, hj]; rfl)
  exact ⟨b, off, e, hb, hc⟩⟩
/-- at the end: the query is laid into the result's block -/
theorem ofq_fin {w W : World} {tb : ByteArray} {l : QL} {lim : Int} {ag : Bool} {q : Qu} (hq : QuIn W (fun b => w.heap.size + 2 ≤ b) q l) (hb : Below w.heap.size w W) (_hr : w.heap.size + 1 < W.heap.size) (d0 d1 d2 d3 d4 d5 d6 d7 : Value) :
  OfQPost w (.returned (.tuple #[.agg (qCells tb l lim ag), .int .i64 0])) ((((((((W.setCell ⟨w.heap.size + 1, 0, none⟩ d0).setCell ⟨w.heap.size + 1, 1, none⟩ d1).setCell ⟨w.heap.size + 1, 2, none⟩ d2).setCell ⟨w.heap.size + 1, 3, none⟩ d3).setCell ⟨w.heap.size + 1, 4, none⟩ d4).setCell ⟨w.heap.size + 1, 5, none⟩ d5).setCell ⟨w.heap.size + 1, 6, none⟩ d6).setCell ⟨w.heap.size + 1, 7, none⟩ d7) :=
 ⟨tb, l, lim, ag, 0, rfl, Lib.hid (fun _ => ⟨q, hq.keep (fun b hb _ => ex_far (by omega) _ _ _ _ _ _ _ _) (fun b hb _ => by omega) (by simp [World.setCell])⟩), Lib.hid (by have hs := hb.size; go_grown)⟩

end Go.Proofs.YtbcmmecilheicaaGreatDoor

/- A statement whose order is open and whose last operations store: what reads is taken first, under a condition that need not hold behind the late operations. (After the kit's OrdersHeld, turned: the condition is not asked behind the late ones, which wait for all that is taken first.) -/
namespace Go.Proofs.YtbcmmecilheicaaGreatDoor
open Go

section
variable {P : Program} {ops : Array Oper} {Q : Exit → Act → World → Prop} {md : Region.Mode} {S : World → Prop} {late : List Nat}

def wpAnyL (P : Program) (md : Region.Mode) (ops : Array Oper) (Q : Exit → Act → World → Prop) (S : World → Prop) (late : List Nat) : Nat → Array Bool → Act → World → Prop
 | 0, listed, a, w => Region.ready md ops listed = [] ∧ Q .normal a w
 | fuel + 1, listed, a, w =>
  (Region.ready md ops listed = [] → Q .normal a w) ∧
  ∀ i ∈ Region.ready md ops listed, wpOp P ops Q i (fun a' w' => (i ∈ late ∨ S w') ∧ wpAnyL P md ops Q S late fuel (listed.setIfInBounds i true) a' w') a w

theorem wpAny_of_late : ∀ (fuel : Nat) (listed : Array Bool) (a : Act) (w : World), wpAnyL P md ops Q S late fuel listed a w → wpAny P md ops Q fuel listed a w
 | 0, _, _, _, h => h
 | fuel + 1, _, _, _, h => ⟨h.1, fun i hi => wpOp_mono (fun a' w' h' => wpAny_of_late fuel _ a' w' h'.2) (h.2 i hi)⟩

/-- the late ones wait for i -/
def waits (md : Region.Mode) (ops : Array Oper) (late : List Nat) (i : Nat) : Bool :=
 late.all fun z => z != i && match ops[z]? with
  | some oz => oz.after.any fun e => Region.binds md e && e.on == i
  | none => false

theorem waits_spec {i : Nat} (h : waits md ops late i = true) {z : Nat} (hz : z ∈ late) : z ≠ i ∧ ∃ oz, ops[z]? = some oz ∧ ∃ e ∈ oz.after, Region.binds md e = true ∧ e.on = i := by
 have h1 := List.all_eq_true.1 h z hz
 simp only [Bool.and_eq_true, bne_iff_ne] at h1
 refine ⟨h1.1, ?_⟩
 cases ho : ops[z]? with
 | none => rw [ho] at h1; exact absurd h1.2 (by simp)
 | some oz =>
  rw [ho] at h1
  obtain ⟨e, he, hb⟩ := Array.any_eq_true'.1 h1.2
  simp only [Bool.and_eq_true, beq_iff_eq] at hb
  exact ⟨oz, rfl, e, he, hb.1, hb.2⟩

theorem unlisted_false {listed : Array Bool} {i : Nat} (h : listed.getD i true = false) : listed.getD i false ≠ true := by
 intro h1
 rcases Nat.lt_or_ge i listed.size with h' | h'
 ·simp [h'] at h h1; rw [h] at h1; cases h1
 ·simp [Array.getElem?_eq_none h'] at h1

theorem wpAnyL_first {i : Nat} {oi : Oper} {v : Value} (hi : ops[i]? = some oi) (hsel : ∀ (j : Nat) (o : Oper) cs b, ops[j]? = some o → o.op ≠ .select cs b)
  (hQ : ∀ c a w, Q (.panic c) (a.put oi.dst v) w → Q (.panic c) a w) (hw : waits md ops late i = true) :
  ∀ (fuel : Nat) (listed : Array Bool) (a : Act) (w : World),
   (∀ j oj, ops[j]? = some oj → j ≠ i → listed.getD j true = false → (∀ e ∈ oj.after, Region.binds md e = true → e.on ≠ i) → oi.apart ops oj = true) →
   i ∈ Region.ready md ops listed → YieldsIf P ops S oi v a → S w →
   wpAnyL P md ops Q S late fuel (listed.setIfInBounds i true) (a.put oi.dst v) w → wpAnyL P md ops Q S late (fuel + 1) listed a w := by
 intro fuel
 induction fuel with
 | zero =>
  intro listed a w _ hr hy hS H
  refine ⟨fun h => (by rw [h] at hr; cases hr), fun j hj => ?_⟩
  by_cases hji : j = i
  ·subst hji; exact hy.wpOp hi hS ⟨.inr hS, H⟩
  ·have := ready_mono hj hji
   rw [H.1] at this
   cases this
 | succ fuel ih =>
  intro listed a w hfree hr hy hS H
  refine ⟨fun h => (by rw [h] at hr; cases hr), fun j hj => ?_⟩
  by_cases hji : j = i
  ·subst hji; exact hy.wpOp hi hS ⟨.inr hS, H⟩
  ·have h1 := H.2 j (ready_mono hj hji)
   obtain ⟨hjun, oj, hoj, hall⟩ := mem_ready.1 hj
   have hiun := (mem_ready.1 hr).1
   have hjl : j ∉ late := fun hjl => by
    obtain ⟨_, oz, hoz, e, he, hb, heq⟩ := waits_spec hw hjl
    rw [hoj] at hoz
    cases hoz
    have := hall e he hb
    rw [heq] at this
    exact unlisted_false hiun this
   have hnot : ∀ e ∈ oj.after, Region.binds md e = true → e.on ≠ i := fun e he hb heq => by
    have h1 := hall e he hb
    rw [heq] at h1
    exact unlisted_false hiun h1
   have h2 := wpOp_putIf hoj (hfree j oj hoj hji hjun hnot) (fun cs b => hsel i oi cs b hi) (fun cs b => hsel j oj cs b hoj) hQ hy h1
   have hfree' : ∀ k ok, ops[k]? = some ok → k ≠ i → (listed.setIfInBounds j true).getD k true = false →
     (∀ e ∈ ok.after, Region.binds md e = true → e.on ≠ i) → oi.apart ops ok = true := fun k ok hk hki hun hno => by
    refine hfree k ok hk hki ?_ hno
    by_cases hjk : j = k
    ·subst hjk; exact hjun
    ·rw [getD_set_ne true hjk] at hun; exact hun
   refine wpOp_mono (fun a' w' h3 => ⟨h3.2.1, ih (listed.setIfInBounds j true) a' w' hfree' (ready_mono hr (Ne.symm hji)) h3.1 (h3.2.1.resolve_left hjl) ?_⟩) h2
   rw [Array.setIfInBounds_comm _ _ hji]
   exact h3.2.2

theorem put_some {o : Oper} {d : Tmp} (hd : o.dst = some d) (tmps : Array Value) (df : List Deferred) (v : Value) : (Act.mk tmps df).put o.dst v = ⟨tmps.setIfInBounds d v, df⟩ := by rw [hd]; rfl
theorem put_none {o : Oper} (hd : o.dst = none) (a : Act) (v : Value) : a.put o.dst v = a := by rw [hd]; rfl

/-- take number i first -/
theorem wpAnyL_take (i d : Nat) {oi : Oper} {v : Value} {fuel : Nat} {listed : Array Bool} {tmps : Array Value} {df : List Deferred} {w : World} (hi : ops[i]? = some oi) (hd : oi.dst = some d)
  (hs : Region.noSelect ops = true) (hf : Region.free md ops listed i = true) (hr : (Region.ready md ops listed).contains i = true) (hw : waits md ops late i = true)
  (hQ : ∀ c a w, Q (.panic c) (a.put oi.dst v) w → Q (.panic c) a w) (hg : Region.wanted oi (yielded ops tmps) = true) (hy : ∀ w, S w → (execOp (Act.mk tmps df).eval oi).run P w = .ok (.value v) w) (hS : S w)
  (h : wpAnyL P md ops Q S late fuel (listed.setIfInBounds i true) ⟨tmps.setIfInBounds d v, df⟩ w) : wpAnyL P md ops Q S late (fuel + 1) listed ⟨tmps, df⟩ w :=
 wpAnyL_first hi (Region.noSelect_spec hs) hQ hw fuel listed _ w (Region.free_spec hi hf) (by simpa using hr) (.inl ⟨hg, hy⟩) hS (by rw [put_some hd]; exact h)

/-- number i alone may come up now -/
theorem wpAnyL_one (i : Nat) {oi : Oper} {fuel : Nat} {listed : Array Bool} {a : Act} {w : World} (hi : ops[i]? = some oi) (hr : Region.ready md ops listed = [i]) (hg : Region.wanted oi (yielded ops a.tmps) = true)
  (h : oi.wp P a w (fun a' w' => (i ∈ late ∨ S w') ∧ wpAnyL P md ops Q S late fuel (listed.setIfInBounds i true) a' w') Q) : wpAnyL P md ops Q S late (fuel + 1) listed a w := by
 refine ⟨fun h0 => absurd (hr ▸ h0) (by simp), fun j hj => ?_⟩
 rw [hr] at hj
 obtain rfl : j = i := by simpa using hj
 unfold wpOp
 simp only [hi]
 rw [if_pos hg]
 exact .inl h
/-- .. it yields a value, in a world that is told -/
theorem wpAnyL_val (i d : Nat) {oi : Oper} {v : Value} {w' : World} {fuel : Nat} {listed : Array Bool} {tmps : Array Value} {df : List Deferred} {w : World} (hi : ops[i]? = some oi) (hd : oi.dst = some d) (hr : Region.ready md ops listed = [i]) (hg : Region.wanted oi (yielded ops tmps) = true)
  (hrun : (execOp (Act.mk tmps df).eval oi).run P w = .ok (.value v) w') (hS : i ∈ late ∨ S w') (h : wpAnyL P md ops Q S late fuel (listed.setIfInBounds i true) ⟨tmps.setIfInBounds d v, df⟩ w') : wpAnyL P md ops Q S late (fuel + 1) listed ⟨tmps, df⟩ w := by
 refine wpAnyL_one i hi hr hg ?_
 unfold Oper.wp
 rw [hrun]
 show _ ∧ _
 rw [put_some hd]
 exact ⟨hS, h⟩
/-- .. it stores -/
theorem wpAnyL_skip (i : Nat) {oi : Oper} {w' : World} {fuel : Nat} {listed : Array Bool} {a : Act} {w : World} (hi : ops[i]? = some oi) (hd : oi.dst = none) (hr : Region.ready md ops listed = [i]) (hg : Region.wanted oi (yielded ops a.tmps) = true)
  (hrun : (execOp a.eval oi).run P w = .ok .skip w') (hS : i ∈ late ∨ S w') (h : wpAnyL P md ops Q S late fuel (listed.setIfInBounds i true) a w') : wpAnyL P md ops Q S late (fuel + 1) listed a w := by
 refine wpAnyL_one i hi hr hg ?_
 unfold Oper.wp
 rw [hrun]
 show _ ∧ _
 rw [put_none hd]
 exact ⟨hS, h⟩
/-- .. it calls -/
theorem wpAnyL_call (i d : Nat) {oi : Oper} {f : FuncId} {args : Array Value} {R : Ending → World → Prop} {fuel : Nat} {listed : Array Bool} {tmps : Array Value} {df : List Deferred} {w : World} (hi : ops[i]? = some oi) (hd : oi.dst = some d) (hr : Region.ready md ops listed = [i]) (hg : Region.wanted oi (yielded ops tmps) = true)
  (hrun : (execOp (Act.mk tmps df).eval oi).run P w = .ok (.enter f args) w) (hc : Calls P f args w R)
  (h : ∀ e w', R e w' → ∃ v, e = .returned v ∧ (i ∈ late ∨ S w') ∧ wpAnyL P md ops Q S late fuel (listed.setIfInBounds i true) ⟨tmps.setIfInBounds d v, df⟩ w') : wpAnyL P md ops Q S late (fuel + 1) listed ⟨tmps, df⟩ w := by
 refine wpAnyL_one i hi hr hg ?_
 unfold Oper.wp
 rw [hrun]
 refine Calls.mono hc fun e w' he => ?_
 obtain ⟨v, rfl, hS, hk⟩ := h e w' he
 show _ ∧ _
 rw [put_some hd]
 exact ⟨hS, hk⟩

theorem wpAnyL_done {listed : Array Bool} {a : Act} {w : World} (hr : Region.ready md ops listed = []) (h : Q .normal a w) :
  ∀ fuel, wpAnyL P md ops Q S late fuel listed a w
 | 0 => ⟨hr, h⟩
 | _ + 1 => ⟨fun _ => h, by rw [hr]; simp⟩

theorem wp_region_late (S : World → Prop) (late : List Nat) {id : Nat} {a : Act} {w : World} (hm : P.follows .mixedOrders = true)
  (h : wpAnyL P .any ops Q S late ops.size (Array.replicate ops.size false) a w.drew) : (Code.region id ops true).wp P Q a w :=
 wp_region_any hm (wpAny_of_late _ _ _ _ h)

end

open Go.RowKit in
/-- an append, as an equation -/
theorem exec_append {P : Program} {o : Oper} {a : Act} {w : World} (d x : Operand) (dT sT : TypeId) (hop : o.op = Op.call { callee := Callee.builtin Builtin.append, args := #[d, x], argTypes := #[dT, sT] })
  (v u : Value) (hd : a.eval d = v) (hx : a.eval x = u) {v' : Value} {w' : World} (hr : (Builtin.append_ #[dT, sT] o.type #[v, u]).run P w = .ok v' w') : (execOp a.eval o).run P w = .ok (.value v') w' := by
 simp [execOp, hop, resolve, invoke, builtin, hd, hx, hr, Result.andThen]

end Go.Proofs.YtbcmmecilheicaaGreatDoor
