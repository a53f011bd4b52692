/- EvalMorgan: the expressions it builds, and what they come to. -/
import Derived.Test.YtbcmmecilheicaaSure3
namespace Go.Proofs.Ytbcmmecilheicaa
open Go Go.RowKit

def xNot (e : Ex) : Ex := .mk ⟨#[110, 111, 116]⟩ 3 0 Val.null [e]
def xAnd (a b : Ex) : Ex := .mk ⟨#[97, 110, 100]⟩ 3 0 Val.null [a, b]
def xOr (a b : Ex) : Ex := .mk ⟨#[111, 114]⟩ 3 0 Val.null [a, b]
theorem ev_not (E : Env) (e : Ex) : evalP E (xNot e) = match evalP E e with | (_, some er) => (Val.null, some er) | (v, none) => notP v := by
  unfold xNot
  rw [evalP_mk, evalL_cons, evalL_nil, evo_not]
  rcases evalP E e with ⟨v, er⟩
  cases er with
  | some er => simp only [List.length_cons, List.length_nil, Nat.zero_add, Nat.reduceAdd, if_true, biTail, unTail]
  | none =>
    simp only [List.length_cons, List.length_nil, Nat.zero_add, if_true, unTail, unP_not]
    rfl
theorem ev_and (E : Env) (a b : Ex) : evalP E (xAnd a b) = match evalP E a with | (_, some er) => (Val.null, some er) | (u, none) => match evalP E b with | (_, some er) => (Val.null, some er) | (v, none) => eitherP u v false := by
  unfold xAnd
  rw [evalP_mk, evalL_cons, evalL_cons, evalL_nil, evo_and]
  rcases evalP E a with ⟨u, er⟩
  rcases evalP E b with ⟨v, er2⟩
  cases er with
  | some er => simp only [List.length_cons, List.length_nil, Nat.zero_add, Nat.reduceAdd, if_true, biTail, unTail]
  | none =>
    cases er2 with
    | some er => simp only [List.length_cons, List.length_nil, Nat.zero_add, Nat.reduceAdd, if_true, biTail]
    | none =>
      simp only [List.length_cons, List.length_nil, Nat.zero_add, Nat.reduceAdd, if_true, biTail, biP_and]
      rfl
theorem ev_or (E : Env) (a b : Ex) : evalP E (xOr a b) = match evalP E a with | (_, some er) => (Val.null, some er) | (u, none) => match evalP E b with | (_, some er) => (Val.null, some er) | (v, none) => eitherP u v true := by
  unfold xOr
  rw [evalP_mk, evalL_cons, evalL_cons, evalL_nil, evo_or]
  rcases evalP E a with ⟨u, er⟩
  rcases evalP E b with ⟨v, er2⟩
  cases er with
  | some er => simp only [List.length_cons, List.length_nil, Nat.zero_add, Nat.reduceAdd, if_true, biTail, unTail]
  | none =>
    cases er2 with
    | some er => simp only [List.length_cons, List.length_nil, Nat.zero_add, Nat.reduceAdd, if_true, biTail]
    | none =>
      simp only [List.length_cons, List.length_nil, Nat.zero_add, Nat.reduceAdd, if_true, biTail, biP_or]
      rfl
theorem morgan_eval (E : Env) (a b : Ex) :
    (∃ m n, (evalP E (xNot (xAnd a b))).2 = some m ∧ (evalP E (xOr (xNot a) (xNot b))).2 = some n) ∨
    (∃ v q, evalP E (xNot (xAnd a b)) = (v, none) ∧ evalP E (xOr (xNot a) (xNot b)) = (v, none) ∧ evalP E (xNot (xNot (xAnd a b))) = (q, none) ∧ evalP E (xAnd a b) = (q, none)) := by
  rw [ev_or, ev_not E (xNot (xAnd a b)), ev_not E (xAnd a b), ev_and, ev_not E a, ev_not E b]
  rcases evalP E a with ⟨u, er⟩
  rcases evalP E b with ⟨v, er2⟩
  cases er with
  | some er => exact .inl ⟨er, er, rfl, rfl⟩
  | none =>
    cases er2 with
    | some er =>
      refine .inl ?_
      rcases hn : notP u with ⟨na, ne⟩
      cases ne with
      | some ne => exact ⟨er, ne, rfl, by simp [hn]⟩
      | none => exact ⟨er, er, rfl, by simp [hn]⟩
    | none =>
      rcases morgan u v with ⟨m, n, h1, h2⟩ | ⟨q, na, nb, r, h1, h2, h3, h4, h5, h6⟩
      · refine .inl ⟨7, 7, by simp [h1], ?_⟩
        rcases h2 with h2 | ⟨h2, h3⟩
        · simp [h2]
        · rcases hn : notP u with ⟨na, ne⟩
          rw [hn] at h2
          obtain rfl : ne = none := h2
          simp [hn, h3]
      · exact .inr ⟨r, q, by simp [h1, h4], by simp [h2, h3, h5], by simp [h1, h4, h6], h1⟩
/-- an expression of one Arg, built -/
theorem ex1 {W : World} {g : Nat} {e : Ex} {A : Option Addr} {n c : Nat} (z : Blk W g 37 #[.string e.op, .int .i64 e.kind, .int .i64 e.col, .int .i64 e.val.kind, .int .i64 e.val.int, .string e.val.text, .bool e.val.bool, .slice A n c]) (h : ExIs W e A n c) (op : ByteArray) : ExIs W (.mk op 3 0 Val.null [e]) (some ⟨g, 0, none⟩) 1 1 :=
  .mk op 3 0 Val.null [e] _ 1 1 rfl (by unfold TB; omega) (by unfold TB; exact Nat.zero_le _) g 0 (fun _ => ⟨rfl, z.lt⟩) (fun _ => A) (fun _ => n) (fun _ => c) (fun j x hj => by
    match j, hj with
    | 0, hj => obtain rfl : e = x := by simpa using hj
               exact ⟨z.cell 0, z.cell 1, z.cell 2, z.cell 3, z.cell 4, z.cell 5, z.cell 6, z.cell 7⟩
    | j + 1, hj => simp at hj) (fun j x hj => by
    match j, hj with
    | 0, hj => obtain rfl : e = x := by simpa using hj
               exact h
    | j + 1, hj => simp at hj)
/-- an expression of two Args, built -/
theorem ex2 {W : World} {g : Nat} {e f : Ex} {A B : Option Addr} {n c m d : Nat} (z : Blk W g 37 #[.string e.op, .int .i64 e.kind, .int .i64 e.col, .int .i64 e.val.kind, .int .i64 e.val.int, .string e.val.text, .bool e.val.bool, .slice A n c, .string f.op, .int .i64 f.kind, .int .i64 f.col, .int .i64 f.val.kind, .int .i64 f.val.int, .string f.val.text, .bool f.val.bool, .slice B m d]) (h : ExIs W e A n c) (k : ExIs W f B m d) (op : ByteArray) : ExIs W (.mk op 3 0 Val.null [e, f]) (some ⟨g, 0, none⟩) 2 2 :=
  .mk op 3 0 Val.null [e, f] _ 2 2 rfl (by unfold TB; omega) (by unfold TB; exact Nat.zero_le _) g 0 (fun _ => ⟨rfl, z.lt⟩) (fun j => if j = 0 then A else B) (fun j => if j = 0 then n else m) (fun j => if j = 0 then c else d) (fun j x hj => by
    match j, hj with
    | 0, hj => obtain rfl : e = x := by simpa using hj
               exact ⟨z.cell 0, z.cell 1, z.cell 2, z.cell 3, z.cell 4, z.cell 5, z.cell 6, z.cell 7⟩
    | 1, hj => obtain rfl : f = x := by simpa using hj
               exact ⟨z.cell 8, z.cell 9, z.cell 10, z.cell 11, z.cell 12, z.cell 13, z.cell 14, z.cell 15⟩
    | j + 2, hj => simp at hj) (fun j x hj => by
    match j, hj with
    | 0, hj => obtain rfl : e = x := by simpa using hj
               exact h
    | 1, hj => obtain rfl : f = x := by simpa using hj
               exact k
    | j + 2, hj => simp at hj)

end Go.Proofs.Ytbcmmecilheicaa
