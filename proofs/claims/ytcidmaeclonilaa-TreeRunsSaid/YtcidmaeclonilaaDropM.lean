/- Appends as equations, for the pieces of drop. -/
import Derived.Test.YtcidmaeclonilaaNds
import Derived.Test.YtcidmaeclonilaaRun
namespace Go.Proofs.Ytcidmaeclonilaa
open Go Go.RowKit

section
variable {P : Program} {t e : TypeId} {z : Value} {bytes : Nat} {w : World}

theorem run_append_zero (T : SlTy P t e z bytes) (ty : TypeId) {A B : Option Addr} {n c c' : Nat} (hn : n ≤ c) : (Builtin.append_ #[t, t] ty #[.slice A n c, .slice B 0 c']).run P w = .ok (.slice A n c) w := by
  obtain ⟨i, hi, hz, hsz, hby⟩ := T.info
  cases A <;> cases B <;> simp [Builtin.append_, run_underlying T.und, sizeOf, typeInfo, hi, Builtin.lenOf, Builtin.firstCells, hn, storeCells, loadCells, loadCellsFrom]

/-- append of what another slice holds -/
theorem run_append_N (T : SlTy P t e z bytes) (ty : TypeId) {A B : Option Addr} {n c m d : Nat} {xs ys : List Value} (h : Row w e (.slice A n c) xs) (hy : Row w e (.slice B m d) ys) (h1 : ∀ u ∈ ys, u.oneCell' = true) (hsmall : n + m ≤ 65536) :
    ∃ A' q w', (Builtin.append_ #[t, t] ty #[.slice A n c, .slice B m d]).run P w = .ok (.slice A' (n + m) q) w' ∧ Row w' e (.slice A' (n + m) q) (xs ++ ys) ∧ Chg (ob (.slice A n c)) w w' ∧ OwnNew w (.slice A n c) (.slice A' (n + m) q) := by
  have hn : xs.length = n := by obtain ⟨_, _, he, _⟩ := h; injection he with _ e2 _; exact e2.symm
  have hm : ys.length = m := by obtain ⟨_, _, he, _⟩ := hy; injection he with _ e2 _; exact e2.symm
  cases ys with
  | nil =>
    obtain rfl : m = 0 := by simpa using hm.symm
    have hc : n ≤ c := by obtain ⟨_, _, he, hh, _⟩ := h; injection he with _ _ e3; rw [e3, ← hn]; exact hh
    exact ⟨A, c, w, run_append_zero T ty hc, by simpa using h, Chg.refl _ _, .inl rfl⟩
  | cons y ys =>
    obtain ⟨g, c2, cur, he, hl, hcm, hB, hcs, hcell, -⟩ := hy.open_ (by simp)
    injection he with e1 e2 e3
    subst e1
    obtain ⟨v', w', hr, hrow, hchg, hown⟩ := run_append_row (P := P) T ty h ⟨g, 0, none⟩ m d (y :: ys) hm (fun j u hj => by rw [add_lit0]; exact hcell j u hj) h1 (by rw [← hm]; simp) (by rw [hn]; exact hsmall)
    obtain ⟨A', q, rfl, hrest⟩ := hrow
    have hlen : (xs ++ y :: ys).length = n + m := by rw [List.length_append, hn, hm]
    rw [hlen] at hr hown
    exact ⟨A', q, w', hr, ⟨A', q, by rw [hlen], hrest⟩, hchg, hown⟩
end

theorem Row.new1 (w : World) (e : TypeId) (u : Value) : Row (w.alloc (.cells #[u] e)) e (.slice (some ⟨w.heap.size, 0, none⟩) 1 1) [u] :=
  ⟨_, 1, rfl, Nat.le_refl _, by unfold maxLen; omega, .inr ⟨_, _, rfl, Blk.new w e #[u], Nat.le_refl _, fun j x hj => by
    cases j with
    | zero => simpa using hj
    | succ j => simp at hj⟩⟩
theorem OwnNew.trans {w w1 : World} {v v1 v2 : Value} (h : OwnNew w v v1) (h2 : OwnNew w1 v1 v2) (hs : w.heap.size ≤ w1.heap.size) : OwnNew w v v2 := by
  rcases h2 with h2 | ⟨k, h2, hk⟩
  · rcases h with h | ⟨k, h, hk⟩
    · exact .inl (h2.trans h)
    · exact .inr ⟨k, h2.trans h, hk⟩
  · exact .inr ⟨k, h2, by omega⟩
theorem Chg.own2 {w w1 w2 : World} {v v1 : Value} (h : Chg (ob v) w w1) (h2 : Chg (ob v1) w1 w2) (ho : OwnNew w v v1) : Chg (ob v) w w2 := by
  refine h.trans h2 fun x hx => ?_
  rcases ho with ho | ⟨k, ho, hk⟩
  · exact .inl (ho ▸ hx)
  · rw [ho] at hx
    obtain rfl : x = k := by simpa using hx
    exact .inr hk

theorem run_append_op {P : Program} {o : Oper} {a : Act} {w : World} (d x : Operand) (dT sT : TypeId) (hop : o.op = Op.call { callee := Callee.builtin Builtin.append, args := #[d, x], argTypes := #[dT, sT] })
    {v u : Value} (hd : a.eval d = v) (hx : a.eval x = u) {v' : Value} {w' : World} (hr : (Builtin.append_ #[dT, sT] o.type #[v, u]).run P w = .ok v' w') : (execOp a.eval o).run P w = .ok (.value v') w' := by
  simp [execOp, hop, resolve, invoke, builtin, hd, hx, hr, Result.andThen]

/-- what slices.Delete leaves, the slice written out -/
def DelPostN (w : World) (e : TypeId) (v : Value) (n : Nat) (ys : List Value) (en : Ending) (w' : World) : Prop :=
  ∃ A q, en = .returned (.slice A n q) ∧ Row w' e (.slice A n q) ys ∧ Chg (ob v) w w' ∧ OwnNew w v (.slice A n q)
theorem delPostN {w w' : World} {e : TypeId} {v : Value} {n : Nat} {ys : List Value} {en : Ending} (hn : ys.length = n) (h : DelPost w e v ys en w') : DelPostN w e v n ys en w' := by
  obtain ⟨v', rfl, hr, hc, ho⟩ := h
  obtain ⟨A, c, rfl, _⟩ := hr
  subst hn
  exact ⟨A, c, rfl, ⟨A, c, rfl, by assumption⟩, hc, .inl ho⟩

end Go.Proofs.Ytcidmaeclonilaa
