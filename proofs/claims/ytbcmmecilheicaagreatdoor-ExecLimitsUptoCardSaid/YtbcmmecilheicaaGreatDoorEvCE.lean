/- Expressions: what they come to; what they are in memory. scope.all. scope.all: the walk. -/
import Derived.Test.YtbcmmecilheicaaGreatDoorEvAB

/- Expressions: what they come to; what they are in memory. -/
namespace Go.Proofs.YtbcmmecilheicaaGreatDoor
open Go Go.RowKit

/-- an expression -/
inductive Ex where
 | mk (op : ByteArray) (kind col : Int) (v : Val) (args : List Ex)
def Ex.op : Ex → ByteArray | .mk o _ _ _ _ => o
def Ex.kind : Ex → Int | .mk _ k _ _ _ => k
def Ex.col : Ex → Int | .mk _ _ c _ _ => c
def Ex.val : Ex → Val | .mk _ _ _ v _ => v
def Ex.args : Ex → List Ex | .mk _ _ _ _ l => l
/-- what an expression is reckoned over -/
structure Env where
 at_ : Int
 vals : List Val
 labels : List ByteArray

/-- how many Args an operation has -/
def opK (op : ByteArray) : Int :=
 if op.toList = [108, 105, 116] ∨ op.toList = [99, 111, 108] ∨ op.toList = [108, 97, 98, 101, 108] then 0
 else if op.toList = [110, 101, 103] ∨ op.toList = [110, 111, 116] ∨ op.toList = [105, 115, 110, 117, 108, 108] ∨ op.toList = [110, 111, 116, 110, 117, 108, 108] then 1
 else if op.toList = [97, 110, 100] ∨ op.toList = [111, 114] ∨ op.toList = [61] ∨ op.toList = [60, 62] ∨ op.toList = [60] ∨ op.toList = [62] ∨ op.toList = [60, 61] ∨ op.toList = [62, 61] ∨ op.toList = [124, 124] ∨ op.toList = [43] ∨ op.toList = [45] ∨ op.toList = [42] ∨ op.toList = [47] ∨ op.toList = [37] then 2 else -1
/-- what comes of two Args -/
noncomputable def binP (op : ByteArray) (a b : Val) : Res :=
 if op.toList = [97, 110, 100] then andP a b else if op.toList = [111, 114] then orP a b else if op.toList = [61] then equalP a b else if op.toList = [60, 62] then neP a b
 else if op.toList = [60] then lessP a b else if op.toList = [62] then gtP a b else if op.toList = [60, 61] then leP a b else if op.toList = [62, 61] then geP a b else if op.toList = [124, 124] then joinP a b
 else if op.toList = [43] then reckonP 43 a b else if op.toList = [45] then reckonP 45 a b else if op.toList = [42] then reckonP 42 a b else if op.toList = [47] then reckonP 47 a b else reckonP 37 a b
noncomputable def evalOp (E : Env) (op : ByteArray) (col : Int) (v : Val) (n : Nat) (r : List Val × Option Int) : Res :=
 if op.toList = [108, 105, 116] then (v, none)
 else if op.toList = [99, 111, 108] then (if col < 0 ∨ (E.vals.length : Int) ≤ col then (Val.null, some 1) else (E.vals.getD col.toNat Val.null, none))
 else if op.toList = [108, 97, 98, 101, 108] then (if E.at_ < 0 ∨ (E.labels.length : Int) ≤ E.at_ then (Val.null, some 1) else (Val.ofText (E.labels.getD E.at_.toNat ⟨#[]⟩), none))
 else if opK op ≠ (n : Int) then (Val.null, some 40)
 else match r with
  | (_, some er) => (Val.null, some er)
  | (l, none) => if n = 1 then unaryP op (l.getD 0 Val.null) else binP op (l.getD 0 Val.null) (l.getD 1 Val.null)
mutual
noncomputable def evalP (E : Env) : Ex → Res
 | .mk op _ col v args => evalOp E op col v args.length (evalL E args)
noncomputable def evalL (E : Env) : List Ex → List Val × Option Int
 | [] => ([], none)
 | x :: xs => match evalP E x with
  | (_, some er) => ([], some er)
  | (v, none) => match evalL E xs with
   | (_, some er) => ([], some er)
   | (l, none) => (v :: l, none)
end
theorem evalP_mk (E : Env) (op : ByteArray) (kind col : Int) (v : Val) (args : List Ex) : evalP E (.mk op kind col v args) = evalOp E op col v args.length (evalL E args) := by rw [evalP]
theorem evalL_nil (E : Env) : evalL E [] = ([], none) := by rw [evalL]
theorem evalL_cons (E : Env) (x : Ex) (xs : List Ex) : evalL E (x :: xs) = match evalP E x with
  | (_, some er) => ([], some er)
  | (v, none) => match evalL E xs with
   | (_, some er) => ([], some er)
   | (l, none) => (v :: l, none) := by rw [evalL]
theorem evalL_len (E : Env) : ∀ (xs : List Ex), (evalL E xs).2 = none → (evalL E xs).1.length = xs.length
 | [], _ => by rw [evalL_nil]; rfl
 | x :: xs, h => by
  rw [evalL_cons] at h ⊢
  rcases hx : evalP E x with ⟨v, er⟩
  rw [hx] at h
  cases er with
  | some er => cases h
  | none =>
   rcases hl : evalL E xs with ⟨l, er⟩
   rw [hl] at h
   cases er with
   | some er => cases h
   | none =>
    have := evalL_len E xs (by rw [hl])
    rw [hl] at this
    simp at this ⊢
    exact this

/-- the eight cells of an expression, its Args' slice beside -/
structure ExC (W : World) (b o : Nat) (x : Ex) (A : Option Addr) (n c : Nat) : Prop where
 c0 : W.cell? ⟨b, o, none⟩ = some (.string x.op)
 c1 : W.cell? ⟨b, o + 1, none⟩ = some (.int .i64 x.kind)
 c2 : W.cell? ⟨b, o + 2, none⟩ = some (.int .i64 x.col)
 c3 : W.cell? ⟨b, o + 3, none⟩ = some (.int .i64 x.val.kind)
 c4 : W.cell? ⟨b, o + 4, none⟩ = some (.int .i64 x.val.int)
 c5 : W.cell? ⟨b, o + 5, none⟩ = some (.string x.val.text)
 c6 : W.cell? ⟨b, o + 6, none⟩ = some (.bool x.val.bool)
 c7 : W.cell? ⟨b, o + 7, none⟩ = some (.slice A n c)
theorem ExC.below {W W' : World} {b o : Nat} {x : Ex} {A : Option Addr} {n c : Nat} (h : ExC W b o x A n c) (hb : b < W.heap.size) (hW : Below W.heap.size W W') : ExC W' b o x A n c :=
 ⟨(hW.cell (p := ⟨b, o, none⟩) hb).trans h.c0, (hW.cell (p := ⟨b, o + 1, none⟩) hb).trans h.c1, (hW.cell (p := ⟨b, o + 2, none⟩) hb).trans h.c2, (hW.cell (p := ⟨b, o + 3, none⟩) hb).trans h.c3, (hW.cell (p := ⟨b, o + 4, none⟩) hb).trans h.c4, (hW.cell (p := ⟨b, o + 5, none⟩) hb).trans h.c5, (hW.cell (p := ⟨b, o + 6, none⟩) hb).trans h.c6, (hW.cell (p := ⟨b, o + 7, none⟩) hb).trans h.c7⟩
/-- the size that a text may have -/
abbrev TB : Nat := 140737488355328
/-- an expression in memory: what its Args' slice leads to -/
inductive ExIs (W : World) : Ex → Option Addr → Nat → Nat → Prop
 | mk (op : ByteArray) (kind col : Int) (v : Val) (args : List Ex) (A : Option Addr) (n c : Nat) (len : args.length = n) (small : n * 96 ≤ TB) (tx : v.text.size ≤ TB) (b off : Nat) (hA : 0 < n → A = some ⟨b, off, none⟩ ∧ b < W.heap.size)
   (As : Nat → Option Addr) (ns cs : Nat → Nat) (cells : ∀ (j : Nat) (e : Ex), args[j]? = some e → ExC W b (off + j * 8) e (As j) (ns j) (cs j)) (sub : ∀ (j : Nat) (e : Ex), args[j]? = some e → ExIs W e (As j) (ns j) (cs j)) : ExIs W (.mk op kind col v args) A n c
theorem ExIs.bel {W W' : World} (hW : Below W.heap.size W W') {x : Ex} {A : Option Addr} {n c : Nat} (h : ExIs W x A n c) : ExIs W' x A n c := by
 induction h with
 | mk op kind col v args A n c len small tx b off hA As ns cs cells sub ih =>
  have hpos : ∀ (j : Nat) (e : Ex), args[j]? = some e → b < W.heap.size := fun j e hj => (hA (by have := (List.getElem?_eq_some_iff.1 hj).1; omega)).2
  exact .mk op kind col v args A n c len small tx b off (fun h0 => ⟨(hA h0).1, Nat.lt_of_lt_of_le (hA h0).2 hW.size⟩) As ns cs (fun j e hj => (cells j e hj).below (hpos j e hj) hW) ih
/-- a slice of texts, as it is read -/
structure StrsAt (W : World) (A : Option Addr) (n : Nat) (l : List ByteArray) : Prop where
 len : l.length = n
 at_ : ∀ (j : Nat) (z : ByteArray), l[j]? = some z → ∃ b off, A = some ⟨b, off, none⟩ ∧ b < W.heap.size ∧ W.cell? ⟨b, off + j, none⟩ = some (.string z)
theorem StrsAt.below {W W' : World} {A : Option Addr} {n : Nat} {l : List ByteArray} (h : StrsAt W A n l) (hW : Below W.heap.size W W') : StrsAt W' A n l :=
 ⟨h.len, fun j v hj => by
  obtain ⟨b, off, e, hb, hc⟩ := h.at_ j v hj
  exact ⟨b, off, e, Nat.lt_of_lt_of_le hb hW.size, (hW.cell (p := ⟨b, off + j, none⟩) hb).trans hc⟩⟩
/-- a row and labels, as they are read -/
structure EnvAt (W : World) (E : Env) (VA : Option Addr) (vn : Nat) (LA : Option Addr) (ln : Nat) : Prop where
 vals : ValsAt W VA vn E.vals
 labels : StrsAt W LA ln E.labels
 vtx : ∀ v ∈ E.vals, v.text.size ≤ TB
 ltx : ∀ z ∈ E.labels, z.size ≤ TB
theorem EnvAt.below {W W' : World} {E : Env} {VA : Option Addr} {vn : Nat} {LA : Option Addr} {ln : Nat} (h : EnvAt W E VA vn LA ln) (hW : Below W.heap.size W W') : EnvAt W' E VA vn LA ln :=
 ⟨h.vals.below hW, h.labels.below hW, h.vtx, h.ltx⟩

/-! ### no text is longer than it may be -/
theorem either_size (a b : Val) (en : Bool) : (eitherP a b en).1.text.size ≤ TB := by
 unfold eitherP
 repeat' split
 all_goals exact Nat.zero_le _
theorem not_size (a : Val) : (notP a).1.text.size ≤ TB := by
 unfold notP
 repeat' split
 all_goals exact Nat.zero_le _
theorem compared_size (a b : Val) (so : Int → Bool) : (comparedP a b so).1.text.size ≤ TB := by
 unfold comparedP
 repeat' split
 all_goals exact Nat.zero_le _
theorem not2_size (r : Res) : (not2 r).1.text.size ≤ TB := by
 rcases r with ⟨v, er⟩
 cases er with
 | some er => exact Nat.zero_le _
 | none => exact not_size v
theorem reckon_size (op : Int) (a b : Val) : (reckonP op a b).1.text.size ≤ TB := by
 unfold reckonP
 repeat' split
 all_goals exact Nat.zero_le _
theorem join_size (a b : Val) : (joinP a b).1.text.size ≤ TB := by
 unfold joinP
 split
 ·split
  ·exact Nat.zero_le _
  ·split
   ·exact Nat.zero_le _
   ·rename_i h
    show (a.text ++ b.text).size ≤ TB
    rw [ByteArray.size_append]
    unfold TB
    omega
 ·exact Nat.zero_le _
theorem unary_size (op : ByteArray) (v : Val) : (unaryP op v).1.text.size ≤ TB := by
 unfold unaryP
 split
 ·exact reckon_size _ _ _
 ·split
  ·exact not_size _
  ·split <;> exact Nat.zero_le _
theorem ite_size {c : Prop} [Decidable c] {x y : Res} (hx : x.1.text.size ≤ TB) (hy : y.1.text.size ≤ TB) : (if c then x else y).1.text.size ≤ TB := by split <;> assumption
theorem bin_size (op : ByteArray) (a b : Val) : (binP op a b).1.text.size ≤ TB := by
 unfold binP
 refine ite_size (either_size _ _ _) (ite_size (either_size _ _ _) (ite_size (compared_size _ _ _) (ite_size (not2_size _) (ite_size (compared_size _ _ _) (ite_size (compared_size _ _ _) (ite_size (not2_size _) (ite_size (not2_size _) (ite_size (join_size _ _) (ite_size (reckon_size _ _ _) (ite_size (reckon_size _ _ _) (ite_size (reckon_size _ _ _) (ite_size (reckon_size _ _ _) (reckon_size _ _ _)))))))))))))
theorem evalOp_size (E : Env) (hv : ∀ v ∈ E.vals, v.text.size ≤ TB) (hl : ∀ z ∈ E.labels, z.size ≤ TB) (op : ByteArray) (col : Int) (v : Val) (h : v.text.size ≤ TB) (n : Nat) (r : List Val × Option Int) : (evalOp E op col v n r).1.text.size ≤ TB := by
 unfold evalOp
 split
 ·exact h
 ·split
  ·split
   ·exact Nat.zero_le _
   ·rename_i hc
    rw [List.getD_eq_getElem?_getD, List.getElem?_eq_getElem (by omega)]
    exact hv _ (List.getElem_mem _)
  ·split
   ·split
    ·exact Nat.zero_le _
    ·rename_i hc
     rw [List.getD_eq_getElem?_getD, List.getElem?_eq_getElem (by omega)]
     exact hl _ (List.getElem_mem _)
   ·split
    ·exact Nat.zero_le _
    ·split
     ·exact Nat.zero_le _
     ·split
      ·exact unary_size _ _
      ·exact bin_size _ _ _
theorem ExIs.size {W : World} {x : Ex} {A : Option Addr} {n c : Nat} (h : ExIs W x A n c) (E : Env) (hv : ∀ v ∈ E.vals, v.text.size ≤ TB) (hl : ∀ z ∈ E.labels, z.size ≤ TB) : (evalP E x).1.text.size ≤ TB := by
 cases h with
 | mk op kind col v args A n c len small tx =>
  rw [evalP_mk]
  exact evalOp_size E hv hl _ _ _ tx _ _

end Go.Proofs.YtbcmmecilheicaaGreatDoor

/- scope.all. -/
namespace Go.Proofs.YtbcmmecilheicaaGreatDoor
open Go Go.RowKit

def valCells (l : List Val) : List Value := (l.map fun v => [Value.int .i64 v.kind, .int .i64 v.int, .string v.text, .bool v.bool]).flatten
theorem valCells_len (l : List Val) : (valCells l).length = l.length * 4 := by
 induction l with
 | nil => rfl
 | cons p l ih => simp only [valCells, List.map_cons, List.flatten_cons, List.length_append, List.length_cons, List.length_nil] at ih ⊢; omega
theorem valCells_append (a b : List Val) : valCells (a ++ b) = valCells a ++ valCells b := by simp [valCells]
theorem valCells_at : ∀ {l : List Val} {i : Nat} {p : Val}, l[i]? = some p → (valCells l)[i * 4]? = some (.int .i64 p.kind) ∧ (valCells l)[i * 4 + 1]? = some (.int .i64 p.int) ∧ (valCells l)[i * 4 + 2]? = some (.string p.text) ∧ (valCells l)[i * 4 + 3]? = some (.bool p.bool)
 | [], _, _, h => by simp at h
 | q :: l, 0, p, h => by
  obtain rfl : q = p := by simpa using h
  exact ⟨rfl, rfl, rfl, rfl⟩
 | q :: l, i + 1, p, h => by
  have ih := valCells_at (l := l) (i := i) (p := p) (by simpa using h)
  have e : valCells (q :: l) = Value.int .i64 q.kind :: .int .i64 q.int :: .string q.text :: .bool q.bool :: valCells l := rfl
  rw [e, show (i + 1) * 4 = i * 4 + 1 + 1 + 1 + 1 by omega, show i * 4 + 1 + 1 + 1 + 1 + 1 = (i * 4 + 1) + 1 + 1 + 1 + 1 by omega, show i * 4 + 1 + 1 + 1 + 1 + 2 = (i * 4 + 2) + 1 + 1 + 1 + 1 by omega, show i * 4 + 1 + 1 + 1 + 1 + 3 = (i * 4 + 3) + 1 + 1 + 1 + 1 by omega]
  simp only [List.getElem?_cons_succ]
  exact ih
theorem valCells_one {l : List Val} : ∀ u ∈ valCells l, u.oneCell' = true := by
 intro u hu
 obtain ⟨c, hc, huc⟩ := List.mem_flatten.1 hu
 obtain ⟨p, hp, rfl⟩ := List.mem_map.1 hc
 simp only [List.mem_cons, List.not_mem_nil, or_false] at huc
 rcases huc with rfl | rfl | rfl | rfl <;> rfl
theorem info23 : ∃ i, Tryz.prog.info? 26 = some i ∧ i.zero = some (.agg #[.int .i64 0, .int .i64 0, .string ⟨#[]⟩, .bool false]) ∧ i.size = 4 ∧ i.bytes = 40 := by
 have h : (Tryz.prog.info? 26).map (fun i => (i.zero, i.size, i.bytes)) = some (some (.agg #[.int .i64 0, .int .i64 0, .string ⟨#[]⟩, .bool false]), 4, 40) := by kernel_rfl
 obtain ⟨i0, hi, hz0, hz1, hz2⟩ := info_parts h
 exact ⟨i0, hi, hz0, hz1, hz2⟩
theorem below_grown {w w' : World} {B e size n : Nat} {v : Value} {xs : List Value} (h : w.ownsRow B e size v n xs) (hg : w.grownBy w' v.ownBlock) (hB : B ≤ w.heap.size) : Below B w w' :=
 ⟨hg.os, hg.tape, hg.output, hg.size, fun k hk => hg.block k (by omega) (fun e => by have := (h.lt k e.symm).1; omega)⟩
/-- a row of values that the call owns, as it is read -/
theorem vals_of_own {W : World} {B : Nat} {v : Value} {vs : List Val} {n : Nat} (h : W.ownsRow B 26 4 v n (valCells vs)) (hl : vs.length = n) : ∃ (A : Option Addr) (c : Nat), v = .slice A n c ∧ ValsAt W A n vs := by
 obtain ⟨h1, h2⟩ := h
 rcases h2 with ⟨rfl, rfl⟩ | ⟨g, cap, cur, rfl, -, hb, hc1, hc2, hs, htk⟩
 ·exact ⟨none, 0, rfl, hl, fun j v hj => by have := (List.getElem?_eq_some_iff.1 hj).1; omega⟩
 ·refine ⟨some ⟨g, 0, none⟩, cap, rfl, hl, fun j v hj => ⟨g, 0, rfl, (Array.getElem?_eq_some_iff.1 hb).1, ?_⟩⟩
  have hc : ∀ k u, (valCells vs)[k]? = some u → W.cell? ⟨g, k, none⟩ = some u := fun k u hk => by
   rw [← htk] at hk
   have hkl : k < n * 4 := by
    have := (List.getElem?_eq_some_iff.1 hk).1
    simp at this; omega
   rw [List.getElem?_take_of_lt hkl] at hk
   rw [cell_of_row W g k cur 26 (0, 0) hb]
   simpa using hk
  obtain ⟨e0, e1, e2, e3⟩ := valCells_at hj
  simp only [Nat.zero_add]
  exact ⟨hc _ _ e0, hc _ _ e1, hc _ _ e2, hc _ _ e3⟩
/-- one value appended -/
theorem app_val {W : World} {B : Nat} {v : Value} {vs : List Val} {n : Nat} (h : W.ownsRow B 26 4 v n (valCells vs)) (hn : n * 96 ≤ TB) (hB : B ≤ W.heap.size) (x : Val) (g : Nat) (z : Blk W g 26 #[.int .i64 x.kind, .int .i64 x.int, .string x.text, .bool x.bool]) :
  ∃ v' W', (Builtin.append_ #[30, 30] 30 #[v, .slice (some ⟨g, 0, none⟩) 1 1]).run Tryz.prog W = .ok v' W' ∧ W'.ownsRow B 26 4 v' (n + 1) (valCells (vs ++ [x])) ∧ Below B W W' := by
 obtain ⟨i, hi, hz, hsz, hby⟩ := info23
 obtain ⟨v', W', hr, hown, hg, -⟩ := run_append_own (P := Tryz.prog) W B 30 30 26 i _ 4 40 Tryz.underlying30 hi hz hsz hby rfl (by decide) v n (valCells vs) h ⟨g, 0, none⟩ 1 1 (valCells [x]) (valCells_len [x]) (fun j u hj => by
  rw [add_lit0, z.cell j]
  have hj4 := (List.getElem?_eq_some_iff.1 hj).1
  rw [valCells_len] at hj4
  match j, hj, hj4 with
  | 0, hj, _ => simpa [valCells] using hj
  | 1, hj, _ => simpa [valCells] using hj
  | 2, hj, _ => simpa [valCells] using hj
  | 3, hj, _ => simpa [valCells] using hj
  | j + 4, _, hj4 => exact absurd hj4 (by simp)) valCells_one (by unfold maxLen; unfold TB at hn; omega) (by unfold TB at hn; omega) hB
 rw [← valCells_append] at hown
 exact ⟨v', W', hr, hown, below_grown h hg hB⟩

/-- append by its equation -/
theorem wpList_append_runI {P : Program} (w : World) {ops : Array Oper} {rest : List Oper} {o : Oper} {a : Act} {Q : Exit → Act → World → Prop} (hgd : o.guard = none) (d s : Operand) (t t' : TypeId)
  (ho : o.op = .call { callee := .builtin .append, args := #[d, s], argTypes := #[t, t'] }) (v u : Value) (hd : a.eval d = v) (hs : a.eval s = u) {v' : Value} {w' : World}
  (hr : (Builtin.append_ #[t, t'] o.type #[v, u]).run P w = .ok v' w') (h : wpList P ops Q rest (a.put o.dst v') w') : wpList P ops Q (o :: rest) a w :=
 wpList_plain hgd fun K hK => by
  unfold Oper.wp execOp
  simp only [ho, resolve, invoke, builtin, Sem.run_bind, Sem.run_pure, Result.andThen_ok, List.map_toArray, List.map_cons, List.map_nil, hd, hs, hr]
  exact hK _ _ h

end Go.Proofs.YtbcmmecilheicaaGreatDoor

/- scope.all: the walk. -/
namespace Go.Proofs.YtbcmmecilheicaaGreatDoor
open Go Go.RowKit

abbrev exAgg (x : Ex) (A : Option Addr) (n c : Nat) : Value := .agg #[.string x.op, .int .i64 x.kind, .int .i64 x.col, .int .i64 x.val.kind, .int .i64 x.val.int, .string x.val.text, .bool x.val.bool, .slice A n c]
/-- so far: the values of the first i Args -/
def Sofar (E : Env) (es : List Ex) (i : Nat) (vs : List Val) : Prop :=
 vs.length = i ∧ evalL E es = match evalL E (es.drop i) with
  | (_, some er) => ([], some er)
  | (l, none) => (vs ++ l, none)
theorem Sofar.zero (E : Env) (es : List Ex) : Sofar E es 0 [] := by
 refine ⟨rfl, ?_⟩
 rw [List.drop_zero]
 rcases h : evalL E es with ⟨l, er⟩
 cases er with
 | none => rfl
 | some er =>
  have : ∀ (xs : List Ex) l er, evalL E xs = (l, some er) → l = [] := fun xs => by
   induction xs with
   | nil => intro l er h; rw [evalL_nil] at h; cases h
   | cons x xs ih =>
    intro l er h
    rw [evalL_cons] at h
    rcases hx : evalP E x with ⟨v, e1⟩
    rw [hx] at h
    cases e1 with
    | some e1 => injection h with h1 h2; exact h1.symm
    | none =>
     rcases hl : evalL E xs with ⟨l2, e2⟩
     rw [hl] at h
     cases e2 with
     | some e2 => injection h with h1 h2; exact h1.symm
     | none => injection h with h1 h2; cases h2
  rw [this es l er h]
theorem Sofar.err {E : Env} {es : List Ex} {i : Nat} {vs : List Val} (h : Sofar E es i vs) {x : Ex} (hx : es[i]? = some x) {v : Val} {er : Int} (he : evalP E x = (v, some er)) : evalL E es = ([], some er) := by
 have hd : es.drop i = x :: es.drop (i + 1) := by
  have hlt := (List.getElem?_eq_some_iff.1 hx).1
  rw [List.drop_eq_getElem_cons hlt, (List.getElem?_eq_some_iff.1 hx).2]
 rw [h.2, hd, evalL_cons, he]
theorem Sofar.ok {E : Env} {es : List Ex} {i : Nat} {vs : List Val} (h : Sofar E es i vs) {x : Ex} (hx : es[i]? = some x) {v : Val} (he : evalP E x = (v, none)) : Sofar E es (i + 1) (vs ++ [v]) := by
 have hd : es.drop i = x :: es.drop (i + 1) := by
  have hlt := (List.getElem?_eq_some_iff.1 hx).1
  rw [List.drop_eq_getElem_cons hlt, (List.getElem?_eq_some_iff.1 hx).2]
 refine ⟨by simp [h.1], ?_⟩
 rw [h.2, hd, evalL_cons, he]
 rcases hl : evalL E (es.drop (i + 1)) with ⟨l, er⟩
 cases er <;> simp
theorem Sofar.end_ {E : Env} {es : List Ex} {vs : List Val} (h : Sofar E es es.length vs) : evalL E es = (vs, none) := by
 rw [h.2, List.drop_length, evalL_nil]
 simp

theorem own_slice {w : World} {B e size n : Nat} {v : Value} {xs : List Value} (h : w.ownsRow B e size v n xs) : ∃ (A : Option Addr) (c : Nat), v = .slice A n c := by
 obtain ⟨h1, h2⟩ := h
 rcases h2 with ⟨rfl, rfl⟩ | ⟨g, cap, cur, e1, -⟩
 ·exact ⟨none, 0, rfl⟩
 ·exact ⟨_, _, e1⟩
theorem own_below {w w' : World} {B e size n : Nat} {v : Value} {xs : List Value} (h : w.ownsRow B e size v n xs) (hb : Below w.heap.size w w') : w'.ownsRow B e size v n xs := by
 obtain ⟨h1, h2⟩ := h
 refine ⟨h1, ?_⟩
 rcases h2 with h2 | ⟨g, cap, cur, e1, e2, e3, e4⟩
 ·exact .inl h2
 ·exact .inr ⟨g, cap, cur, e1, e2, (hb.block g (Array.getElem?_eq_some_iff.1 e3).1).trans e3, e4⟩
/-- what is asked of a callee that reckons one Arg -/
def OneOk (E : Env) (VA : Option Addr) (vn vc : Nat) (LA : Option Addr) (ln lc : Nat) (x : Ex) (A : Option Addr) (n c : Nat) (W : World) : Prop :=
 Calls Tryz.prog 42 #[.agg #[.int .i64 E.at_, .slice VA vn vc, .slice LA ln lc], exAgg x A n c] W fun e w' => e = .returned (resV (evalP E x)) ∧ Hid (Below W.heap.size W w')

/-- what all leaves -/
def AllPost (E : Env) (es : List Ex) (w : World) (e : Ending) (w' : World) : Prop := ∃ (A' : Option Addr) (k c' : Nat), e = .returned (.tuple #[.slice A' k c', errV (evalL E es).2]) ∧ Hid (ValsAt w' A' k (evalL E es).1 ∧ ∀ b o, A' = some ⟨b, o, none⟩ → w.heap.size ≤ b) ∧ Hid (Below w.heap.size w w')

set_option maxRecDepth 100000 in
set_option maxHeartbeats 4000000 in
theorem all37 (w : World) (E : Env) (VA : Option Addr) (vn vc : Nat) (LA : Option Addr) (ln lc : Nat) (es : List Ex) (A : Option Addr) (n c b off : Nat) (len : es.length = n) (small : n * 96 ≤ TB) (hA : 0 < n → A = some ⟨b, off, none⟩ ∧ b < w.heap.size)
  (As : Nat → Option Addr) (ns cs : Nat → Nat) (cells : ∀ (j : Nat) (e : Ex), es[j]? = some e → ExC w b (off + j * 8) e (As j) (ns j) (cs j)) (calls : ∀ (j : Nat) (e : Ex), es[j]? = some e → ∀ W, Below w.heap.size w W → OneOk E VA vn vc LA ln lc e (As j) (ns j) (cs j) W) :
  Calls Tryz.prog 83 #[.agg #[.int .i64 E.at_, .slice VA vn vc, .slice LA ln lc], .slice A n c] w (AllPost E es w) := by
 have HA := Lib.hid hA
 have HC := Lib.hid cells
 have HK := Lib.hid calls
 have HS := Lib.hid small
 have HL := Lib.hid len
 have hn9 : n ≤ 1466015503701 := by unfold TB at small; omega
 clear hA cells calls small len
 obtain ⟨at_, haT⟩ : ∃ a, a = E.at_ := ⟨_, rfl⟩
 rw [← haT]
 have HT := Lib.hid haT
 clear haT
 go_enter Tryz.func83, Tryz.ntmps83
 go_wp2
 obtain ⟨w1, hw1⟩ : ∃ x, x = w.alloc (.cells #[.int .i64 at_, .slice VA vn vc, .slice LA ln lc] 115) := ⟨_, rfl⟩
 have z1 : Blk w1 w.heap.size 115 #[.int .i64 at_, .slice VA vn vc, .slice LA ln lc] := by rw [hw1]; exact Blk.new w 115 _
 have Z1 := Lib.hid z1
 have B1 := Lib.hid (show Below w.heap.size w w1 by rw [hw1]; exact below_alloc _ _)
 rw [← hw1]
 clear hw1 z1
 go_loopg [6, 13] n (fun kx s6 s13 wr => ∃ (i : Nat) (vs : List Val) (Ao : Option Addr) (co : Nat), s6 = .slice Ao i co ∧ s13 = .int .i64 i ∧ kx + i = n ∧ Hid (Below w1.heap.size w1 wr ∧ wr.ownsRow w1.heap.size 26 4 (.slice Ao i co) i (valCells vs) ∧ Sofar E es i vs))
 case atStart => exact ⟨0, [], none, 0, rfl, rfl, rfl, Lib.hid ⟨Below.refl _ _, World.ownsRow_nil _ _ _ _, Sofar.zero E es⟩⟩
 case round =>
  obtain ⟨i, vs, Ao, co, rfl, rfl, hk, I⟩ := hrel
  by_cases hi : i < n
  ·obtain ⟨x, hx⟩ : ∃ x, es[i]? = some x := ⟨_, List.getElem?_eq_getElem (by rw [HL.out]; exact hi)⟩
   obtain ⟨hAe, hbl⟩ := HA.out (by omega)
   subst hAe
   have bwr : Below w.heap.size w wr := bt I.out.1 B1.out
   obtain ⟨c0, c1, c2, c3, c4, c5, c6, c7⟩ := (HC.out i x hx).below hbl bwr
   have zs := Z1.out.below I.out.1
   have s0 := zs.cell 0
   have s1 := zs.cell 1
   have s2 := zs.cell 2
   have hsl := zs.lt
   have hx96 : (i : Int) < 1466015503701 := by omega
   have hiz : (i : Int) < (n : Int) := by omega
   have hi0 : (0 : Int) ≤ (i : Int) := by omega
   have call0 := (HK.out i x hx (wr.alloc (.cells #[.string x.op, .int .i64 x.kind, .int .i64 x.col, .int .i64 x.val.kind, .int .i64 x.val.int, .string x.val.text, .bool x.val.bool, .slice (As i) (ns i) (cs i)] 51)) (bwr.trans ((below_alloc wr _).mono bwr.size)))
   obtain ⟨⟨⟨rk, ri, rs, rb⟩, re⟩, hre⟩ : ∃ r, r = evalP E x := ⟨_, rfl⟩
   unfold OneOk at call0
   rw [← hre, ← HT.out] at call0
   have call := Lib.hid call0
   have HRE := Lib.hid hre.symm
   have HX := Lib.hid hx
   have II := Lib.hid I.out
   have BR := Lib.hid bwr
   clear hx bwr I zs call0 hre
   go_wp2_with fail
   refine call.out.mono ?_
   clear call c0 c1 c2 c3 c4 c5 c6 c7 s0 s1 s2
   rintro e w2 ⟨rfl, h2⟩
   have H2 := Lib.hid (show Below wr.heap.size wr w2 from h2.out.from1)
   clear h2
   simp only [resV, Val.cells]
   cases re with
   | some er =>
    simp only [errV]
    have EE := Lib.hid (II.out.2.2.err HX.out HRE.out)
    have BB := Lib.hid (show Below w.heap.size w w2 from bt H2.out BR.out)
    go_wp2_with fail
    go_ret2
    exact ⟨none, 0, 0, by rw [EE.out]; rfl, Lib.hid (by rw [EE.out]; exact ⟨ValsAt.nil _ _, fun b o h => by cases h⟩), Lib.hid (bt (below_alloc _ _) BB.out)⟩
   | none =>
    simp only [errV]
    have SS := Lib.hid (II.out.2.2.ok HX.out HRE.out)
    have B12 : Below w1.heap.size w1 w2 := bt H2.out II.out.1
    have ow2 := own_below II.out.2.1 (H2.out.trans ((below_alloc w2 (.cells #[.int .i64 rk, .int .i64 ri, .string rs, .bool rb] 26)).mono H2.out.size))
    have ow3 := own_below ow2 (below_alloc _ (.cells #[.int .i64 rk, .int .i64 ri, .string rs, .bool rb] 26))
    obtain ⟨v', w3, hr, hown, hb3⟩ := app_val ow3 (by have := HS.out; unfold TB at this ⊢; omega) (by have := B12.size; simp; omega) ⟨rk, ri, rs, rb⟩ (w2.heap.size + 1) (blk_new' (w := w2.alloc _) rfl (by simp))
    obtain ⟨An, cn, hvn⟩ := own_slice hown
    subst hvn
    have NX := Lib.hid (show Below w1.heap.size w1 w3 ∧ w3.ownsRow w1.heap.size 26 4 (.slice An (i + 1) cn) (i + 1) (valCells (vs ++ [⟨rk, ri, rs, rb⟩])) ∧ Sofar E es (i + 1) (vs ++ [⟨rk, ri, rs, rb⟩]) from
     ⟨(bt (below_alloc _ _) (bt (below_alloc _ _) B12)).trans hb3, hown, SS.out⟩)
    have HR := Lib.hid hr
    clear B12 ow2 ow3 hown hb3 hr
    go_wp2_with (at_builtin; refine wpList_append_runI _ rfl _ _ 30 30 rfl (.slice Ao i co) (.slice (some ⟨w2.heap.size + 1, 0, none⟩) 1 1) rfl rfl HR.out ?_)
    go_roundg (gk - 1)
    case measure => omega
    case rel => exact ⟨i + 1, _, An, cn, rfl, by first | rfl | (simp; done), by omega, NX⟩
  ·obtain rfl : n = i := by omega
   obtain ⟨A', c', hv, hvals⟩ := vals_of_own I.out.2.1 I.out.2.2.1
   injection hv with hv1 hv2 hv3
   subst hv1 hv3
   have EE := Lib.hid (show evalL E es = (vs, none) from by
    have h := I.out.2.2
    have hl := HL.out
    rw [← hl] at h
    exact h.end_)
   have VV := Lib.hid hvals
   have VN := Lib.hid (show ∀ b o, Ao = some ⟨b, o, none⟩ → w.heap.size ≤ b from fun b o h => Nat.le_trans B1.out.size (I.out.2.1.lt b (by rw [h]; rfl)).1)
   have BB := Lib.hid (bt I.out.1 B1.out)
   clear hvals I
   go_wp2_with fail
   go_ret2
   exact ⟨_, n, _, by rw [EE.out]; rfl, Lib.hid (by rw [EE.out]; exact ⟨VV.out, VN.out⟩), BB⟩

end Go.Proofs.YtbcmmecilheicaaGreatDoor
