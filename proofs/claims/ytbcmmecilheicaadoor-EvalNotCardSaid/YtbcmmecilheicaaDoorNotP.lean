/- EvalNot: what the six comparisons of two values come to. -/
import Derived.Test.YtbcmmecilheicaaDoorSure3
namespace Go.Proofs.YtbcmmecilheicaaDoor
open Go Go.RowKit

theorem bl_irrefl : ∀ x : List UInt8, Op.bytesLess x x = false
  | [] => rfl
  | a :: x => by simp [Op.bytesLess, bl_irrefl x]
theorem bl_asymm : ∀ x y : List UInt8, Op.bytesLess x y = true → Op.bytesLess y x = false
  | _, [], h => by simp [Op.bytesLess] at h
  | [], _ :: _, _ => by simp [Op.bytesLess]
  | a :: x, b :: y, h => by
    simp only [Op.bytesLess, Bool.or_eq_true, decide_eq_true_eq, Bool.and_eq_true, beq_iff_eq] at h
    simp only [Op.bytesLess, Bool.or_eq_false_iff, decide_eq_false_iff_not, Bool.and_eq_false_iff, beq_eq_false_iff_ne]
    rcases h with h | ⟨rfl, h⟩
    · exact ⟨fun k => UInt8.lt_irrefl a (UInt8.lt_trans h k), .inl (fun e => UInt8.lt_irrefl a (e ▸ h))⟩
    · exact ⟨UInt8.lt_irrefl a, .inr (bl_asymm x y h)⟩
theorem bl_total : ∀ x y : List UInt8, Op.bytesLess x y = false → Op.bytesLess y x = false → x = y
  | [], [], _, _ => rfl
  | [], _ :: _, h, _ => by simp [Op.bytesLess] at h
  | _ :: _, [], _, h => by simp [Op.bytesLess] at h
  | a :: x, b :: y, h1, h2 => by
    simp only [Op.bytesLess, Bool.or_eq_false_iff, decide_eq_false_iff_not, Bool.and_eq_false_iff, beq_eq_false_iff_ne] at h1 h2
    have hab : a = b := UInt8.le_antisymm (UInt8.not_lt.1 h2.1) (UInt8.not_lt.1 h1.1)
    subst hab
    have e1 : Op.bytesLess x y = false := by simpa using h1.2
    have e2 : Op.bytesLess y x = false := by simpa using h2.2
    rw [bl_total x y e1 e2]
theorem cmpI_flip (x y : Int) : cmpI y x = - cmpI x y := by
  unfold cmpI
  by_cases h1 : x < y
  · rw [if_neg (by omega), if_pos h1, if_pos h1]; rfl
  · by_cases h2 : y < x
    · rw [if_pos h2, if_neg h1, if_pos h2]
    · rw [if_neg h2, if_neg h1, if_neg h1, if_neg h2]; rfl
theorem cmpS_flip (x y : ByteArray) : cmpS y x = - cmpS x y := by
  unfold cmpS
  by_cases h1 : Op.bytesLess x.toList y.toList = true
  · have h2 := bl_asymm _ _ h1
    have h3 : ¬ (y.toList == x.toList) = true := fun e => by
      have e' : y.toList = x.toList := by simpa using e
      rw [e', bl_irrefl] at h1; cases h1
    rw [if_pos h1, if_neg (by rw [h2]; decide), if_neg h3]; rfl
  · by_cases h2 : Op.bytesLess y.toList x.toList = true
    · have h3 : ¬ (x.toList == y.toList) = true := fun e => by
        have e' : x.toList = y.toList := by simpa using e
        rw [e', bl_irrefl] at h2; cases h2
      rw [if_pos h2, if_neg h1, if_neg h3]
    · have e := bl_total _ _ (by simpa using h1) (by simpa using h2)
      rw [if_neg h1, if_neg h2, e]; simp
theorem compareP_flip (a b : Val) : compareP b a = - compareP a b := by
  unfold compareP
  by_cases h1 : a.kind < b.kind
  · rw [if_neg (by omega), if_pos h1, if_pos h1]; rfl
  · by_cases h2 : b.kind < a.kind
    · rw [if_pos h2, if_neg h1, if_pos h2]
    · have e : a.kind = b.kind := by omega
      rw [if_neg h1, if_neg h2, if_neg h1, if_neg h2, e]
      by_cases k1 : b.kind = 1
      · rw [if_pos k1, if_pos k1]; exact cmpI_flip _ _
      rw [if_neg k1, if_neg k1]
      by_cases k2 : b.kind = 2
      · rw [if_pos k2, if_pos k2]; exact cmpS_flip _ _
      rw [if_neg k2, if_neg k2]
      by_cases k3 : b.kind = 3
      · rw [if_pos k3, if_pos k3]
        cases a.bool <;> cases b.bool <;> rfl
      rw [if_neg k3, if_neg k3]; rfl
theorem knownB_flip (a b : Val) : knownB b a = knownB a b := by
  unfold knownB
  rw [Bool.eq_iff_iff]
  simp only [Bool.and_eq_true, Bool.or_eq_true, decide_eq_true_eq]
  constructor
  · rintro ⟨⟨h1, h2⟩, (h3 | h3) | h3⟩
    · exact ⟨⟨h2, h1⟩, .inl (.inr h3)⟩
    · exact ⟨⟨h2, h1⟩, .inl (.inl h3)⟩
    · exact ⟨⟨h2, h1⟩, .inr h3.symm⟩
  · rintro ⟨⟨h1, h2⟩, (h3 | h3) | h3⟩
    · exact ⟨⟨h2, h1⟩, .inl (.inr h3)⟩
    · exact ⟨⟨h2, h1⟩, .inl (.inl h3)⟩
    · exact ⟨⟨h2, h1⟩, .inr h3.symm⟩

/-- the six signs, as EvalNot lays them -/
def opAt : Nat → ByteArray
  | 0 => ⟨#[61]⟩
  | 1 => ⟨#[60, 62]⟩
  | 2 => ⟨#[60]⟩
  | 3 => ⟨#[62, 61]⟩
  | 4 => ⟨#[62]⟩
  | _ => ⟨#[60, 61]⟩
/-- an expression of two literals -/
def xLit (a : Val) : Ex := .mk ⟨#[108, 105, 116]⟩ a.kind 0 a []
def xCmp (op : ByteArray) (a b : Val) : Ex := .mk op 3 0 Val.null [xLit a, xLit b]
/-- what comes of each sign -/
def notR (a b : Val) : Nat → Res
  | 0 => equalP a b
  | 1 => neP a b
  | 2 => lessP a b
  | 3 => geP a b
  | 4 => gtP a b
  | _ => leP a b
theorem ev_args (a b : Val) : evalL E0 [xLit a, xLit b] = ([a, b], none) := by
  unfold xLit
  rw [evalL_cons, evalP_mk, evo_lit, evalL_cons, evalP_mk, evo_lit, evalL_nil]
theorem ev_cmp (a b : Val) (i : Nat) (hi : i < 6) : evalP E0 (xCmp (opAt i) a b) = notR a b i := by
  unfold xCmp
  rw [evalP_mk, ev_args]
  match i, hi with
  | 0, _ => show evalOp E0 ⟨#[61]⟩ 0 Val.null 2 ([a, b], none) = _; rw [evo_eq]; simp only [if_true, biTail, biP_eq]; rfl
  | 1, _ => show evalOp E0 ⟨#[60, 62]⟩ 0 Val.null 2 ([a, b], none) = _; rw [evo_ne]; simp only [if_true, biTail, biP_ne]; rfl
  | 2, _ => show evalOp E0 ⟨#[60]⟩ 0 Val.null 2 ([a, b], none) = _; rw [evo_lt]; simp only [if_true, biTail, biP_lt]; rfl
  | 3, _ => show evalOp E0 ⟨#[62, 61]⟩ 0 Val.null 2 ([a, b], none) = _; rw [evo_ge]; simp only [if_true, biTail, biP_ge]; rfl
  | 4, _ => show evalOp E0 ⟨#[62]⟩ 0 Val.null 2 ([a, b], none) = _; rw [evo_gt]; simp only [if_true, biTail, biP_gt]; rfl
  | 5, _ => show evalOp E0 ⟨#[60, 61]⟩ 0 Val.null 2 ([a, b], none) = _; rw [evo_le]; simp only [if_true, biTail, biP_le]; rfl

theorem not_kind {a b : Val} (h : knownB a b = false) : ∀ i, notR a b i = (Val.null, some 7) := by
  have h' : knownB b a = false := by rw [knownB_flip]; exact h
  have e1 : equalP a b = (Val.null, some 7) := by simp [equalP, comparedP, h]
  have e2 : lessP a b = (Val.null, some 7) := by simp [lessP, comparedP, h]
  have e3 : lessP b a = (Val.null, some 7) := by simp [lessP, comparedP, h']
  intro i
  match i with
  | 0 => exact e1
  | 1 => show not2 (equalP a b) = _; rw [e1]; rfl
  | 2 => exact e2
  | 3 => show not2 (lessP a b) = _; rw [e2]; rfl
  | 4 => exact e3
  | i + 5 => show not2 (lessP b a) = _; rw [e3]; rfl
theorem not_null {a b : Val} (h : knownB a b = true) (hn : (nullB a || nullB b) = true) : ∀ i, notR a b i = (Val.null, none) := by
  have h' : knownB b a = true := by rw [knownB_flip]; exact h
  have hn' : (nullB b || nullB a) = true := by rw [Bool.or_comm]; exact hn
  have e1 : equalP a b = (Val.null, none) := by unfold equalP comparedP; rw [if_pos h, if_pos hn]
  have e2 : lessP a b = (Val.null, none) := by unfold lessP comparedP; rw [if_pos h, if_pos hn]
  have e3 : lessP b a = (Val.null, none) := by unfold lessP comparedP; rw [if_pos h', if_pos hn']
  have e4 : not2 (Val.null, none) = (Val.null, none) := by rfl
  intro i
  match i with
  | 0 => exact e1
  | 1 => show not2 (equalP a b) = _; rw [e1]; rfl
  | 2 => exact e2
  | 3 => show not2 (lessP a b) = _; rw [e2]; rfl
  | 4 => exact e3
  | i + 5 => show not2 (lessP b a) = _; rw [e3]; rfl
/-- the truths -/
def notF (a b : Val) : Nat → Bool
  | 0 => soEqual (compareP a b)
  | 1 => !soEqual (compareP a b)
  | 2 => soLess (compareP a b)
  | 3 => !soLess (compareP a b)
  | 4 => soLess (compareP b a)
  | _ => !soLess (compareP b a)
theorem not_some {a b : Val} (h : knownB a b = true) (hn : (nullB a || nullB b) = false) : ∀ i, notR a b i = (Val.ofBool (notF a b i), none) := by
  have h' : knownB b a = true := by rw [knownB_flip]; exact h
  have hn' : (nullB b || nullB a) = false := by rw [Bool.or_comm]; exact hn
  have e1 : equalP a b = (Val.ofBool (soEqual (compareP a b)), none) := by unfold equalP comparedP; rw [if_pos h, if_neg (by rw [hn]; decide)]
  have e2 : lessP a b = (Val.ofBool (soLess (compareP a b)), none) := by unfold lessP comparedP; rw [if_pos h, if_neg (by rw [hn]; decide)]
  have e3 : lessP b a = (Val.ofBool (soLess (compareP b a)), none) := by unfold lessP comparedP; rw [if_pos h', if_neg (by rw [hn']; decide)]
  intro i
  match i with
  | 0 => exact e1
  | 1 => show not2 (equalP a b) = _; rw [e1]; rfl
  | 2 => exact e2
  | 3 => show not2 (lessP a b) = _; rw [e2]; rfl
  | 4 => exact e3
  | i + 5 => show not2 (lessP b a) = _; rw [e3]; rfl
theorem not_one (a b : Val) : (notF a b 0 = true ∧ notF a b 2 = false ∧ notF a b 4 = false) ∨ (notF a b 0 = false ∧ notF a b 2 = true ∧ notF a b 4 = false) ∨ (notF a b 0 = false ∧ notF a b 2 = false ∧ notF a b 4 = true) := by
  have hf := compareP_flip a b
  simp only [notF, soEqual, soLess, hf, decide_eq_true_eq, decide_eq_false_iff_not, beq_iff_eq, beq_eq_false_iff_ne, ne_eq]
  omega

end Go.Proofs.YtbcmmecilheicaaDoor
