/- Steps of a walk where what an operation does is known as an equation; what slices.Insert leaves. -/
import Derived.Test.YtcidmaeclonilaaMem
import Derived.Deep.RegionLaw
namespace Go.Proofs.Ytcidmaeclonilaa
open Go Go.RowKit
variable {P : Program}

/-- what slices.Insert leaves: a slice that holds ys; only its old block may have changed -/
def InsPost (w : World) (e : TypeId) (v : Value) (ys : List Value) (en : Ending) (w' : World) : Prop :=
  ∃ v', en = .returned v' ∧ Row w' e v' ys ∧ Chg (ob v) w w' ∧ OwnNew w v v'

/-- the same, the slice written out -/
def InsPostN (w : World) (e : TypeId) (v : Value) (n : Nat) (ys : List Value) (en : Ending) (w' : World) : Prop :=
  ∃ A q, en = .returned (.slice A n q) ∧ Row w' e (.slice A n q) ys ∧ Chg (ob v) w w' ∧ OwnNew w v (.slice A n q)
theorem insPostN {w w' : World} {e : TypeId} {v : Value} {n : Nat} {ys : List Value} {en : Ending} (hn : ys.length = n) (h : InsPost w e v ys en w') : InsPostN w e v n ys en w' := by
  obtain ⟨v', rfl, hr, hc, ho⟩ := h
  obtain ⟨A, c, rfl, _⟩ := hr
  subst hn
  exact ⟨A, c, rfl, ⟨A, c, rfl, by assumption⟩, hc, ho⟩

/-- what slices.Clone leaves: a new slice -/
def ClonePost (w : World) (e : TypeId) (ys : List Value) (en : Ending) (w' : World) : Prop :=
  ∃ v', en = .returned v' ∧ Row w' e v' ys ∧ Below w.heap.size w w' ∧ ∀ k ∈ ob v', w.heap.size ≤ k

/-- what slices.Delete leaves: the old block, one element less -/
def DelPost (w : World) (e : TypeId) (v : Value) (ys : List Value) (en : Ending) (w' : World) : Prop :=
  ∃ v', en = .returned v' ∧ Row w' e v' ys ∧ Chg (ob v) w w' ∧ ob v' = ob v

theorem step_append_runI {ops : Array Oper} {o : Oper} {a : Act} {w : World} {K : Act → World → Prop} {Q : Exit → Act → World → Prop} {E : Prop}
    (hg : o.guard = none) (d x : Operand) (dT sT : TypeId) (hop : o.op = Op.call { callee := Callee.builtin Builtin.append, args := #[d, x], argTypes := #[dT, sT] })
    (v u : Value) (hd : a.eval d = v) (hx : a.eval x = u) {v' : Value} {w' : World} (hr : (Builtin.append_ #[dT, sT] o.type #[v, u]).run P w = .ok v' w') (hK : K (a.put o.dst v') w') :
    if Region.wanted o (yielded ops a.tmps) = true then Oper.wp P o a w K Q else E := by
  have hw : Region.wanted o (yielded ops a.tmps) = true := by simp [Region.wanted, hg]
  rw [if_pos hw]
  unfold Oper.wp
  simp [execOp, hop, resolve, invoke, builtin, hd, hx, hr, Result.andThen]
  exact hK

theorem wpList_clear_runI (w : World) {ops : Array Oper} {rest : List Oper} {o : Oper} {a : Act} {Q : Exit → Act → World → Prop} (hgd : o.guard = none) (d : Operand) (t : TypeId)
    (ho : o.op = .call { callee := .builtin .clear, args := #[d], argTypes := #[t] }) (v : Value) (hd : a.eval d = v) {v' : Value} {w' : World}
    (hr : (Builtin.clear_ #[t] o.type #[v]).run P w = .ok v' w') (h : wpList P ops Q rest (a.put o.dst v') w') : wpList P ops Q (o :: rest) a w :=
  wpList_plain hgd fun K hK => by
    unfold Oper.wp execOp
    simp only [ho, resolve, invoke, builtin, Sem.run_bind, Sem.run_pure, Result.andThen_ok, List.map_toArray, List.map_cons, List.map_nil, hd, hr]
    exact hK _ _ h

theorem wp_copy_runI (w : World) {o : Oper} {a : Act} {K : Act → World → Prop} {Q : Exit → Act → World → Prop} (d s : Operand) (t t' : TypeId)
    (ho : o.op = .call { callee := .builtin .copy, args := #[d, s], argTypes := #[t, t'] }) (v u : Value) (hd : a.eval d = v) (hs : a.eval s = u) {v' : Value} {w' : World}
    (hr : (Builtin.copy_ #[t, t'] o.type #[v, u]).run P w = .ok v' w') (h : K (a.put o.dst v') w') : o.wp P a w K Q := by
  unfold Oper.wp execOp
  simp only [ho, resolve, invoke, builtin, Sem.run_bind, Sem.run_pure, Result.andThen_ok, List.map_toArray, List.map_cons, List.map_nil, hd, hs, hr]
  exact h

theorem wpList_copy_runI (w : World) {ops : Array Oper} {rest : List Oper} {o : Oper} {a : Act} {Q : Exit → Act → World → Prop} (hgd : o.guard = none) (d s : Operand) (t t' : TypeId)
    (ho : o.op = .call { callee := .builtin .copy, args := #[d, s], argTypes := #[t, t'] }) (v u : Value) (hd : a.eval d = v) (hs : a.eval s = u) {v' : Value} {w' : World}
    (hr : (Builtin.copy_ #[t, t'] o.type #[v, u]).run P w = .ok v' w') (h : wpList P ops Q rest (a.put o.dst v') w') : wpList P ops Q (o :: rest) a w :=
  wpList_plain hgd fun _ hK => wp_copy_runI w d s t t' ho v u hd hs hr (hK _ _ h)

theorem step_copy_runI {ops : Array Oper} {o : Oper} {a : Act} {w : World} {K : Act → World → Prop} {Q : Exit → Act → World → Prop} {E : Prop}
    (hg : o.guard = none) (d x : Operand) (dT sT : TypeId) (hop : o.op = Op.call { callee := Callee.builtin Builtin.copy, args := #[d, x], argTypes := #[dT, sT] })
    (v u : Value) (hd : a.eval d = v) (hx : a.eval x = u) {v' : Value} {w' : World} (hr : (Builtin.copy_ #[dT, sT] o.type #[v, u]).run P w = .ok v' w') (hK : K (a.put o.dst v') w') :
    if Region.wanted o (yielded ops a.tmps) = true then Oper.wp P o a w K Q else E := by
  have hw : Region.wanted o (yielded ops a.tmps) = true := by simp [Region.wanted, hg]
  rw [if_pos hw]
  unfold Oper.wp
  simp [execOp, hop, resolve, invoke, builtin, hd, hx, hr, Result.andThen]
  exact hK

end Go.Proofs.Ytcidmaeclonilaa
