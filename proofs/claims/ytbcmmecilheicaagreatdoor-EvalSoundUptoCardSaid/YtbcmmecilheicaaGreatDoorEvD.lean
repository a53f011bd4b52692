/- scope.all. -/
import Derived.Test.YtbcmmecilheicaaGreatDoorEvC
namespace Go.Proofs.YtbcmmecilheicaaGreatDoor
open Go Go.RowKit

def valCells (l : List Val) : List Value := (l.map fun v => [Value.int .i64 v.kind, .int .i64 v.int, .string v.text, .bool v.bool]).flatten
theorem valCells_len (l : List Val) : (valCells l).length = l.length * 4 := by
  induction l with
  | nil => rfl
  | cons p l ih => simp only [valCells, List.map_cons, List.flatten_cons, List.length_append, List.length_cons, List.length_nil] at ih ⊢; omega
theorem valCells_append (a b : List Val) : valCells (a ++ b) = valCells a ++ valCells b := by simp [valCells]
theorem valCells_at : ∀ {l : List Val} {i : Nat} {p : Val}, l[i]? = some p → (valCells l)[i * 4]? = some (.int .i64 p.kind) ∧ (valCells l)[i * 4 + 1]? = some (.int .i64 p.int) ∧ (valCells l)[i * 4 + 2]? = some (.string p.text) ∧ (valCells l)[i * 4 + 3]? = some (.bool p.bool)
  | [], _, _, h => by simp at h
  | q :: l, 0, p, h => by
    obtain rfl : q = p := by simpa using h
    exact ⟨rfl, rfl, rfl, rfl⟩
  | q :: l, i + 1, p, h => by
    have ih := valCells_at (l := l) (i := i) (p := p) (by simpa using h)
    have e : valCells (q :: l) = Value.int .i64 q.kind :: .int .i64 q.int :: .string q.text :: .bool q.bool :: valCells l := rfl
    rw [e, show (i + 1) * 4 = i * 4 + 1 + 1 + 1 + 1 by omega, show i * 4 + 1 + 1 + 1 + 1 + 1 = (i * 4 + 1) + 1 + 1 + 1 + 1 by omega, show i * 4 + 1 + 1 + 1 + 1 + 2 = (i * 4 + 2) + 1 + 1 + 1 + 1 by omega, show i * 4 + 1 + 1 + 1 + 1 + 3 = (i * 4 + 3) + 1 + 1 + 1 + 1 by omega]
    simp only [List.getElem?_cons_succ]
    exact ih
theorem valCells_one {l : List Val} : ∀ u ∈ valCells l, u.oneCell' = true := by
  intro u hu
  obtain ⟨c, hc, huc⟩ := List.mem_flatten.1 hu
  obtain ⟨p, hp, rfl⟩ := List.mem_map.1 hc
  simp only [List.mem_cons, List.not_mem_nil, or_false] at huc
  rcases huc with rfl | rfl | rfl | rfl <;> rfl
theorem info23 : ∃ i, Tryz.prog.info? 26 = some i ∧ i.zero = some (.agg #[.int .i64 0, .int .i64 0, .string ⟨#[]⟩, .bool false]) ∧ i.size = 4 ∧ i.bytes = 40 := by
  have h : (Tryz.prog.info? 26).map (fun i => (i.zero, i.size, i.bytes)) = some (some (.agg #[.int .i64 0, .int .i64 0, .string ⟨#[]⟩, .bool false]), 4, 40) := by kernel_rfl
  obtain ⟨i0, hi, hz0, hz1, hz2⟩ := info_parts h
  exact ⟨i0, hi, hz0, hz1, hz2⟩
theorem below_grown {w w' : World} {B e size n : Nat} {v : Value} {xs : List Value} (h : w.ownsRow B e size v n xs) (hg : w.grownBy w' v.ownBlock) (hB : B ≤ w.heap.size) : Below B w w' :=
  ⟨hg.os, hg.tape, hg.output, hg.size, fun k hk => hg.block k (by omega) (fun e => by have := (h.lt k e.symm).1; omega)⟩
/-- a row of values that the call owns, as it is read -/
theorem vals_of_own {W : World} {B : Nat} {v : Value} {vs : List Val} {n : Nat} (h : W.ownsRow B 26 4 v n (valCells vs)) (hl : vs.length = n) : ∃ (A : Option Addr) (c : Nat), v = .slice A n c ∧ ValsAt W A n vs := by
  obtain ⟨h1, h2⟩ := h
  rcases h2 with ⟨rfl, rfl⟩ | ⟨g, cap, cur, rfl, -, hb, hc1, hc2, hs, htk⟩
  · exact ⟨none, 0, rfl, hl, fun j v hj => by have := (List.getElem?_eq_some_iff.1 hj).1; omega⟩
  · refine ⟨some ⟨g, 0, none⟩, cap, rfl, hl, fun j v hj => ⟨g, 0, rfl, (Array.getElem?_eq_some_iff.1 hb).1, ?_⟩⟩
    have hc : ∀ k u, (valCells vs)[k]? = some u → W.cell? ⟨g, k, none⟩ = some u := fun k u hk => by
      rw [← htk] at hk
      have hkl : k < n * 4 := by
        have := (List.getElem?_eq_some_iff.1 hk).1
        simp at this; omega
      rw [List.getElem?_take_of_lt hkl] at hk
      rw [cell_of_row W g k cur 26 (0, 0) hb]
      simpa using hk
    obtain ⟨e0, e1, e2, e3⟩ := valCells_at hj
    simp only [Nat.zero_add]
    exact ⟨hc _ _ e0, hc _ _ e1, hc _ _ e2, hc _ _ e3⟩
/-- one value appended -/
theorem app_val {W : World} {B : Nat} {v : Value} {vs : List Val} {n : Nat} (h : W.ownsRow B 26 4 v n (valCells vs)) (hn : n * 96 ≤ TB) (hB : B ≤ W.heap.size) (x : Val) (g : Nat) (z : Blk W g 26 #[.int .i64 x.kind, .int .i64 x.int, .string x.text, .bool x.bool]) :
    ∃ v' W', (Builtin.append_ #[30, 30] 30 #[v, .slice (some ⟨g, 0, none⟩) 1 1]).run Tryz.prog W = .ok v' W' ∧ W'.ownsRow B 26 4 v' (n + 1) (valCells (vs ++ [x])) ∧ Below B W W' := by
  obtain ⟨i, hi, hz, hsz, hby⟩ := info23
  obtain ⟨v', W', hr, hown, hg, -⟩ := run_append_own (P := Tryz.prog) W B 30 30 26 i _ 4 40 Tryz.underlying30 hi hz hsz hby rfl (by decide) v n (valCells vs) h ⟨g, 0, none⟩ 1 1 (valCells [x]) (valCells_len [x]) (fun j u hj => by
    rw [add_lit0, z.cell j]
    have hj4 := (List.getElem?_eq_some_iff.1 hj).1
    rw [valCells_len] at hj4
    match j, hj, hj4 with
    | 0, hj, _ => simpa [valCells] using hj
    | 1, hj, _ => simpa [valCells] using hj
    | 2, hj, _ => simpa [valCells] using hj
    | 3, hj, _ => simpa [valCells] using hj
    | j + 4, _, hj4 => exact absurd hj4 (by simp)) valCells_one (by unfold maxLen; unfold TB at hn; omega) (by unfold TB at hn; omega) hB
  rw [← valCells_append] at hown
  exact ⟨v', W', hr, hown, below_grown h hg hB⟩

/-- append by its equation -/
theorem wpList_append_runI {P : Program} (w : World) {ops : Array Oper} {rest : List Oper} {o : Oper} {a : Act} {Q : Exit → Act → World → Prop} (hgd : o.guard = none) (d s : Operand) (t t' : TypeId)
    (ho : o.op = .call { callee := .builtin .append, args := #[d, s], argTypes := #[t, t'] }) (v u : Value) (hd : a.eval d = v) (hs : a.eval s = u) {v' : Value} {w' : World}
    (hr : (Builtin.append_ #[t, t'] o.type #[v, u]).run P w = .ok v' w') (h : wpList P ops Q rest (a.put o.dst v') w') : wpList P ops Q (o :: rest) a w :=
  wpList_plain hgd fun K hK => by
    unfold Oper.wp execOp
    simp only [ho, resolve, invoke, builtin, Sem.run_bind, Sem.run_pure, Result.andThen_ok, List.map_toArray, List.map_cons, List.map_nil, hd, hs, hr]
    exact hK _ _ h

end Go.Proofs.YtbcmmecilheicaaGreatDoor
