/- Expressions: what they come to; what they are in memory. -/
import Derived.Test.YtbcmmecilheicaaGreatDoorEvB
namespace Go.Proofs.YtbcmmecilheicaaGreatDoor
open Go Go.RowKit

/-- an expression -/
inductive Ex where
  | mk (op : ByteArray) (kind col : Int) (v : Val) (args : List Ex)
def Ex.op : Ex → ByteArray | .mk o _ _ _ _ => o
def Ex.kind : Ex → Int | .mk _ k _ _ _ => k
def Ex.col : Ex → Int | .mk _ _ c _ _ => c
def Ex.val : Ex → Val | .mk _ _ _ v _ => v
def Ex.args : Ex → List Ex | .mk _ _ _ _ l => l
/-- what an expression is reckoned over -/
structure Env where
  at_ : Int
  vals : List Val
  labels : List ByteArray

/-- how many Args an operation has -/
def opK (op : ByteArray) : Int :=
  if op.toList = [108, 105, 116] ∨ op.toList = [99, 111, 108] ∨ op.toList = [108, 97, 98, 101, 108] then 0
  else if op.toList = [110, 101, 103] ∨ op.toList = [110, 111, 116] ∨ op.toList = [105, 115, 110, 117, 108, 108] ∨ op.toList = [110, 111, 116, 110, 117, 108, 108] then 1
  else if op.toList = [97, 110, 100] ∨ op.toList = [111, 114] ∨ op.toList = [61] ∨ op.toList = [60, 62] ∨ op.toList = [60] ∨ op.toList = [62] ∨ op.toList = [60, 61] ∨ op.toList = [62, 61] ∨ op.toList = [124, 124] ∨ op.toList = [43] ∨ op.toList = [45] ∨ op.toList = [42] ∨ op.toList = [47] ∨ op.toList = [37] then 2 else -1
/-- what comes of two Args -/
noncomputable def binP (op : ByteArray) (a b : Val) : Res :=
  if op.toList = [97, 110, 100] then andP a b else if op.toList = [111, 114] then orP a b else if op.toList = [61] then equalP a b else if op.toList = [60, 62] then neP a b
  else if op.toList = [60] then lessP a b else if op.toList = [62] then gtP a b else if op.toList = [60, 61] then leP a b else if op.toList = [62, 61] then geP a b else if op.toList = [124, 124] then joinP a b
  else if op.toList = [43] then reckonP 43 a b else if op.toList = [45] then reckonP 45 a b else if op.toList = [42] then reckonP 42 a b else if op.toList = [47] then reckonP 47 a b else reckonP 37 a b
noncomputable def evalOp (E : Env) (op : ByteArray) (col : Int) (v : Val) (n : Nat) (r : List Val × Option Int) : Res :=
  if op.toList = [108, 105, 116] then (v, none)
  else if op.toList = [99, 111, 108] then (if col < 0 ∨ (E.vals.length : Int) ≤ col then (Val.null, some 1) else (E.vals.getD col.toNat Val.null, none))
  else if op.toList = [108, 97, 98, 101, 108] then (if E.at_ < 0 ∨ (E.labels.length : Int) ≤ E.at_ then (Val.null, some 1) else (Val.ofText (E.labels.getD E.at_.toNat ⟨#[]⟩), none))
  else if opK op ≠ (n : Int) then (Val.null, some 40)
  else match r with
    | (_, some er) => (Val.null, some er)
    | (l, none) => if n = 1 then unaryP op (l.getD 0 Val.null) else binP op (l.getD 0 Val.null) (l.getD 1 Val.null)
mutual
noncomputable def evalP (E : Env) : Ex → Res
  | .mk op _ col v args => evalOp E op col v args.length (evalL E args)
noncomputable def evalL (E : Env) : List Ex → List Val × Option Int
  | [] => ([], none)
  | x :: xs => match evalP E x with
    | (_, some er) => ([], some er)
    | (v, none) => match evalL E xs with
      | (_, some er) => ([], some er)
      | (l, none) => (v :: l, none)
end
theorem evalP_mk (E : Env) (op : ByteArray) (kind col : Int) (v : Val) (args : List Ex) : evalP E (.mk op kind col v args) = evalOp E op col v args.length (evalL E args) := by rw [evalP]
theorem evalL_nil (E : Env) : evalL E [] = ([], none) := by rw [evalL]
theorem evalL_cons (E : Env) (x : Ex) (xs : List Ex) : evalL E (x :: xs) = match evalP E x with
    | (_, some er) => ([], some er)
    | (v, none) => match evalL E xs with
      | (_, some er) => ([], some er)
      | (l, none) => (v :: l, none) := by rw [evalL]
theorem evalL_len (E : Env) : ∀ (xs : List Ex), (evalL E xs).2 = none → (evalL E xs).1.length = xs.length
  | [], _ => by rw [evalL_nil]; rfl
  | x :: xs, h => by
    rw [evalL_cons] at h ⊢
    rcases hx : evalP E x with ⟨v, er⟩
    rw [hx] at h
    cases er with
    | some er => cases h
    | none =>
      rcases hl : evalL E xs with ⟨l, er⟩
      rw [hl] at h
      cases er with
      | some er => cases h
      | none =>
        have := evalL_len E xs (by rw [hl])
        rw [hl] at this
        simp at this ⊢
        exact this

/-- the eight cells of an expression, its Args' slice beside -/
structure ExC (W : World) (b o : Nat) (x : Ex) (A : Option Addr) (n c : Nat) : Prop where
  c0 : W.cell? ⟨b, o, none⟩ = some (.string x.op)
  c1 : W.cell? ⟨b, o + 1, none⟩ = some (.int .i64 x.kind)
  c2 : W.cell? ⟨b, o + 2, none⟩ = some (.int .i64 x.col)
  c3 : W.cell? ⟨b, o + 3, none⟩ = some (.int .i64 x.val.kind)
  c4 : W.cell? ⟨b, o + 4, none⟩ = some (.int .i64 x.val.int)
  c5 : W.cell? ⟨b, o + 5, none⟩ = some (.string x.val.text)
  c6 : W.cell? ⟨b, o + 6, none⟩ = some (.bool x.val.bool)
  c7 : W.cell? ⟨b, o + 7, none⟩ = some (.slice A n c)
theorem ExC.below {W W' : World} {b o : Nat} {x : Ex} {A : Option Addr} {n c : Nat} (h : ExC W b o x A n c) (hb : b < W.heap.size) (hW : Below W.heap.size W W') : ExC W' b o x A n c :=
  ⟨(hW.cell (p := ⟨b, o, none⟩) hb).trans h.c0, (hW.cell (p := ⟨b, o + 1, none⟩) hb).trans h.c1, (hW.cell (p := ⟨b, o + 2, none⟩) hb).trans h.c2, (hW.cell (p := ⟨b, o + 3, none⟩) hb).trans h.c3, (hW.cell (p := ⟨b, o + 4, none⟩) hb).trans h.c4, (hW.cell (p := ⟨b, o + 5, none⟩) hb).trans h.c5, (hW.cell (p := ⟨b, o + 6, none⟩) hb).trans h.c6, (hW.cell (p := ⟨b, o + 7, none⟩) hb).trans h.c7⟩
/-- the size that a text may have -/
abbrev TB : Nat := 140737488355328
/-- an expression in memory: what its Args' slice leads to -/
inductive ExIs (W : World) : Ex → Option Addr → Nat → Nat → Prop
  | mk (op : ByteArray) (kind col : Int) (v : Val) (args : List Ex) (A : Option Addr) (n c : Nat) (len : args.length = n) (small : n * 96 ≤ TB) (tx : v.text.size ≤ TB) (b off : Nat) (hA : 0 < n → A = some ⟨b, off, none⟩ ∧ b < W.heap.size)
      (As : Nat → Option Addr) (ns cs : Nat → Nat) (cells : ∀ (j : Nat) (e : Ex), args[j]? = some e → ExC W b (off + j * 8) e (As j) (ns j) (cs j)) (sub : ∀ (j : Nat) (e : Ex), args[j]? = some e → ExIs W e (As j) (ns j) (cs j)) : ExIs W (.mk op kind col v args) A n c
theorem ExIs.bel {W W' : World} (hW : Below W.heap.size W W') {x : Ex} {A : Option Addr} {n c : Nat} (h : ExIs W x A n c) : ExIs W' x A n c := by
  induction h with
  | mk op kind col v args A n c len small tx b off hA As ns cs cells sub ih =>
    have hpos : ∀ (j : Nat) (e : Ex), args[j]? = some e → b < W.heap.size := fun j e hj => (hA (by have := (List.getElem?_eq_some_iff.1 hj).1; omega)).2
    exact .mk op kind col v args A n c len small tx b off (fun h0 => ⟨(hA h0).1, Nat.lt_of_lt_of_le (hA h0).2 hW.size⟩) As ns cs (fun j e hj => (cells j e hj).below (hpos j e hj) hW) ih
/-- a slice of texts, as it is read -/
structure StrsAt (W : World) (A : Option Addr) (n : Nat) (l : List ByteArray) : Prop where
  len : l.length = n
  at_ : ∀ (j : Nat) (z : ByteArray), l[j]? = some z → ∃ b off, A = some ⟨b, off, none⟩ ∧ b < W.heap.size ∧ W.cell? ⟨b, off + j, none⟩ = some (.string z)
theorem StrsAt.below {W W' : World} {A : Option Addr} {n : Nat} {l : List ByteArray} (h : StrsAt W A n l) (hW : Below W.heap.size W W') : StrsAt W' A n l :=
  ⟨h.len, fun j v hj => by
    obtain ⟨b, off, e, hb, hc⟩ := h.at_ j v hj
    exact ⟨b, off, e, Nat.lt_of_lt_of_le hb hW.size, (hW.cell (p := ⟨b, off + j, none⟩) hb).trans hc⟩⟩
/-- a row and labels, as they are read -/
structure EnvAt (W : World) (E : Env) (VA : Option Addr) (vn : Nat) (LA : Option Addr) (ln : Nat) : Prop where
  vals : ValsAt W VA vn E.vals
  labels : StrsAt W LA ln E.labels
  vtx : ∀ v ∈ E.vals, v.text.size ≤ TB
  ltx : ∀ z ∈ E.labels, z.size ≤ TB
theorem EnvAt.below {W W' : World} {E : Env} {VA : Option Addr} {vn : Nat} {LA : Option Addr} {ln : Nat} (h : EnvAt W E VA vn LA ln) (hW : Below W.heap.size W W') : EnvAt W' E VA vn LA ln :=
  ⟨h.vals.below hW, h.labels.below hW, h.vtx, h.ltx⟩

/-! ### no text is longer than it may be -/
theorem either_size (a b : Val) (en : Bool) : (eitherP a b en).1.text.size ≤ TB := by
  unfold eitherP
  repeat' split
  all_goals exact Nat.zero_le _
theorem not_size (a : Val) : (notP a).1.text.size ≤ TB := by
  unfold notP
  repeat' split
  all_goals exact Nat.zero_le _
theorem compared_size (a b : Val) (so : Int → Bool) : (comparedP a b so).1.text.size ≤ TB := by
  unfold comparedP
  repeat' split
  all_goals exact Nat.zero_le _
theorem not2_size (r : Res) : (not2 r).1.text.size ≤ TB := by
  rcases r with ⟨v, er⟩
  cases er with
  | some er => exact Nat.zero_le _
  | none => exact not_size v
theorem reckon_size (op : Int) (a b : Val) : (reckonP op a b).1.text.size ≤ TB := by
  unfold reckonP
  repeat' split
  all_goals exact Nat.zero_le _
theorem join_size (a b : Val) : (joinP a b).1.text.size ≤ TB := by
  unfold joinP
  split
  · split
    · exact Nat.zero_le _
    · split
      · exact Nat.zero_le _
      · rename_i h
        show (a.text ++ b.text).size ≤ TB
        rw [ByteArray.size_append]
        unfold TB
        omega
  · exact Nat.zero_le _
theorem unary_size (op : ByteArray) (v : Val) : (unaryP op v).1.text.size ≤ TB := by
  unfold unaryP
  split
  · exact reckon_size _ _ _
  · split
    · exact not_size _
    · split <;> exact Nat.zero_le _
theorem ite_size {c : Prop} [Decidable c] {x y : Res} (hx : x.1.text.size ≤ TB) (hy : y.1.text.size ≤ TB) : (if c then x else y).1.text.size ≤ TB := by split <;> assumption
theorem bin_size (op : ByteArray) (a b : Val) : (binP op a b).1.text.size ≤ TB := by
  unfold binP
  refine ite_size (either_size _ _ _) (ite_size (either_size _ _ _) (ite_size (compared_size _ _ _) (ite_size (not2_size _) (ite_size (compared_size _ _ _) (ite_size (compared_size _ _ _) (ite_size (not2_size _) (ite_size (not2_size _) (ite_size (join_size _ _) (ite_size (reckon_size _ _ _) (ite_size (reckon_size _ _ _) (ite_size (reckon_size _ _ _) (ite_size (reckon_size _ _ _) (reckon_size _ _ _)))))))))))))
theorem evalOp_size (E : Env) (hv : ∀ v ∈ E.vals, v.text.size ≤ TB) (hl : ∀ z ∈ E.labels, z.size ≤ TB) (op : ByteArray) (col : Int) (v : Val) (h : v.text.size ≤ TB) (n : Nat) (r : List Val × Option Int) : (evalOp E op col v n r).1.text.size ≤ TB := by
  unfold evalOp
  split
  · exact h
  · split
    · split
      · exact Nat.zero_le _
      · rename_i hc
        rw [List.getD_eq_getElem?_getD, List.getElem?_eq_getElem (by omega)]
        exact hv _ (List.getElem_mem _)
    · split
      · split
        · exact Nat.zero_le _
        · rename_i hc
          rw [List.getD_eq_getElem?_getD, List.getElem?_eq_getElem (by omega)]
          exact hl _ (List.getElem_mem _)
      · split
        · exact Nat.zero_le _
        · split
          · exact Nat.zero_le _
          · split
            · exact unary_size _ _
            · exact bin_size _ _ _
theorem ExIs.size {W : World} {x : Ex} {A : Option Addr} {n c : Nat} (h : ExIs W x A n c) (E : Env) (hv : ∀ v ∈ E.vals, v.text.size ≤ TB) (hl : ∀ z ∈ E.labels, z.size ≤ TB) : (evalP E x).1.text.size ≤ TB := by
  cases h with
  | mk op kind col v args A n c len small tx =>
    rw [evalP_mk]
    exact evalOp_size E hv hl _ _ _ tx _ _

end Go.Proofs.YtbcmmecilheicaaGreatDoor
