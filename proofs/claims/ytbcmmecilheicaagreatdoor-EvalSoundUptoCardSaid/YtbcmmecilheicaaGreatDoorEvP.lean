/- Values and expressions: what the program reckons, in plain Lean. -/
import Derived.WalkKit
namespace Go.Proofs.YtbcmmecilheicaaGreatDoor
open Go

/-- a value -/
structure Val where
  kind : Int
  int : Int
  text : ByteArray
  bool : Bool
def Val.null : Val := ⟨0, 0, ⟨#[]⟩, false⟩
def Val.ofInt (n : Int) : Val := ⟨1, n, ⟨#[]⟩, false⟩
def Val.ofText (s : ByteArray) : Val := ⟨2, 0, s, false⟩
def Val.ofBool (b : Bool) : Val := ⟨3, 0, ⟨#[]⟩, b⟩
def Val.cells (v : Val) : Array Value := #[.int .i64 v.kind, .int .i64 v.int, .string v.text, .bool v.bool]
/-- a value and an error's number -/
abbrev Res := Val × Option Int

def kindOk (k : Int) : Bool := decide (k = 0) || decide (k = 1) || decide (k = 2) || decide (k = 3)
def isK (kind : Int) (v : Val) : Bool := decide (v.kind = kind) || decide (v.kind = 0)
def nullB (v : Val) : Bool := decide (v.kind = 0)
def notP (a : Val) : Res := if isK 3 a = true then (if nullB a = true then (Val.null, none) else (Val.ofBool (!a.bool), none)) else (Val.null, some 7)
/-- is a value, of which kind and truth alone are left, this truth? -/
def isT (v : Val) (b : Bool) : Bool := decide (v.kind = 3) && (v.bool == b)
def eitherP (a b : Val) (enough : Bool) : Res :=
  if (isK 3 a && isK 3 b) = true then (if (isT a enough || isT b enough) = true then (Val.ofBool enough, none) else if (nullB a || nullB b) = true then (Val.null, none) else (Val.ofBool (!enough), none)) else (Val.null, some 7)

/-- of two truths: what NOT (a AND b) is, is what NOT a OR NOT b is -/
theorem morgan (a b : Val) :
    (∃ m n, eitherP a b false = (Val.null, some 7) ∧ ((notP a = (m, some 7)) ∨ ((notP a).2 = none ∧ notP b = (n, some 7)))) ∨
    (∃ q na nb r, eitherP a b false = (q, none) ∧ notP a = (na, none) ∧ notP b = (nb, none) ∧ notP q = (r, none) ∧ eitherP na nb true = (r, none) ∧ notP r = (q, none)) := by
  obtain ⟨ka, ia, ta, ba⟩ := a
  obtain ⟨kb, ib, tb, bb⟩ := b
  by_cases a3 : ka = 3
  · subst a3
    by_cases b3 : kb = 3
    · subst b3
      right
      cases ba <;> cases bb <;> exact ⟨_, _, _, _, rfl, rfl, rfl, rfl, rfl, rfl⟩
    · by_cases b0 : kb = 0
      · subst b0
        right
        cases ba <;> cases bb <;> exact ⟨_, _, _, _, rfl, rfl, rfl, rfl, rfl, rfl⟩
      · left
        refine ⟨Val.null, Val.null, ?_, .inr ⟨?_, ?_⟩⟩ <;> simp [eitherP, notP, isK, nullB, b3, b0]
  · by_cases a0 : ka = 0
    · subst a0
      by_cases b3 : kb = 3
      · subst b3
        right
        cases ba <;> cases bb <;> exact ⟨_, _, _, _, rfl, rfl, rfl, rfl, rfl, rfl⟩
      · by_cases b0 : kb = 0
        · subst b0
          right
          cases ba <;> cases bb <;> exact ⟨_, _, _, _, rfl, rfl, rfl, rfl, rfl, rfl⟩
        · left
          refine ⟨Val.null, Val.null, ?_, .inr ⟨?_, ?_⟩⟩ <;> simp [eitherP, notP, isK, nullB, b3, b0]
    · left
      refine ⟨Val.null, Val.null, ?_, .inl ?_⟩ <;> simp [eitherP, notP, isK, a3, a0]

end Go.Proofs.YtbcmmecilheicaaGreatDoor
