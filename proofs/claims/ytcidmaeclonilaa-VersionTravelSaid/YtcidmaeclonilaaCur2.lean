/- cursor.Empty, One, narrower, Meet: walks. -/
import Derived.Test.YtcidmaeclonilaaCur
import Derived.Handy
namespace Go.Proofs.Ytcidmaeclonilaa
open Go Go.RowKit

set_option maxHeartbeats 1000000 in
theorem one22 (w : World) (key : ByteArray) :
    Calls Try.prog 22 #[.string key] w fun e w' => e = .returned (.agg #[.string key, .string key, .bool true, .bool true, .bool false, .bool false]) ∧ Hid (Below w.heap.size w w') := by
  go_enter Try.func22, Try.ntmps22
  go_wp2
  go_returns
  exact ⟨rfl, Lib.hid ((Below.refl _ w).alloc (Nat.le_refl _) _)⟩

/-- which of two keys comes first -/
def cmpB (a b : ByteArray) : Int := if klt a b = true then -1 else if klt b a = true then 1 else 0
set_option maxHeartbeats 1000000 in
theorem compare83 (w : World) (a b : ByteArray) : Calls Try.prog 83 #[.string a, .string b] w fun e w' => e = .returned (.int .i64 (cmpB a b)) ∧ w = w' := by
  rcases klt_tri a b with h | h | h
  · have h1 : Op.bytesLess a.toList b.toList = true := h
    have r : cmpB a b = -1 := by simp [cmpB, h]
    rw [r]
    go_enter Try.func83, Try.ntmps83
    go_wp2
    go_ret
    exact ⟨rfl, rfl⟩
  · subst h
    have h1 : Op.bytesLess a.toList a.toList = false := klt_irrefl a
    have r : cmpB a a = 0 := by simp [cmpB, klt_irrefl]
    rw [r]
    go_enter Try.func83, Try.ntmps83
    go_wp2
    go_ret
    exact ⟨rfl, rfl⟩
  · have h1 : Op.bytesLess a.toList b.toList = false := klt_asymm h
    have h2 : Op.bytesLess b.toList a.toList = true := h
    have r : cmpB a b = 1 := by simp [cmpB, h, klt_asymm h]
    have h3 : (a.toList == b.toList) = false := by rw [beq_toList]; simpa using klt_ne' h
    rw [r]
    go_enter Try.func83, Try.ntmps83
    go_wp2
    go_ret
    exact ⟨rfl, rfl⟩

/-- the narrower of two ends: up: of two froms -/
def narB (up : Bool) (k1 : ByteArray) (h1 o1 : Bool) (k2 : ByteArray) (h2 o2 : Bool) : ByteArray × Bool × Bool :=
  if h1 = false then (if h2 = false then (⟨#[]⟩, false, false) else (k2, h2, o2))
  else if h2 = false then (k1, h1, o1)
  else if k1 = k2 then (k1, h1, o1 || o2)
  else if klt k1 k2 = up then (k2, h2, o2) else (k1, h1, o1)

set_option maxHeartbeats 4000000 in
theorem narrower58 (w : World) (up : Bool) (k1 : ByteArray) (h1 o1 : Bool) (k2 : ByteArray) (h2 o2 : Bool) (n : Int) (hn : n = if up = true then 1 else -1) :
    Calls Try.prog 58 #[.agg #[.string k1, .bool h1, .bool o1], .agg #[.string k2, .bool h2, .bool o2], .int .i64 n] w fun e w' =>
      e = .returned (.agg #[.string (narB up k1 h1 o1 k2 h2 o2).1, .bool (narB up k1 h1 o1 k2 h2 o2).2.1, .bool (narB up k1 h1 o1 k2 h2 o2).2.2]) ∧ ∃ A B C : Array Value, w' = ((w.alloc (.cells A 97)).alloc (.cells B 97)).alloc (.cells C 97) := by
  have hcmp := Lib.hid compare83
  cases h1 with
  | false =>
    clear hn hcmp
    cases h2 <;>
    · go_enter Try.func58, Try.ntmps58
      go_wp2
      go_returns
      exact ⟨rfl, _, _, _, rfl⟩
  | true =>
    cases h2 with
    | false =>
      clear hn hcmp
      go_enter Try.func58, Try.ntmps58
      go_wp2
      go_returns
      exact ⟨rfl, _, _, _, rfl⟩
    | true =>
      rcases klt_tri k1 k2 with h | h | h
      · have r : cmpB k1 k2 = -1 := by simp [cmpB, h]
        have r2 : narB up k1 true o1 k2 true o2 = if up = true then (k2, true, o2) else (k1, true, o1) := by
          have := klt_ne h
          cases up <;> simp [narB, h, this]
        rw [r2]
        have hc := hcmp.out
        clear h r2 hcmp
        cases up
        · obtain rfl : n = -1 := hn
          go_enter Try.func58, Try.ntmps58
          go_wp2_with (go_at_call 83; refine (hc _ _ _).mono ?_; rw [r]; rintro e w' ⟨rfl, rfl⟩)
          go_returns
          exact ⟨rfl, _, _, _, rfl⟩
        · obtain rfl : n = 1 := hn
          go_enter Try.func58, Try.ntmps58
          go_wp2_with (go_at_call 83; refine (hc _ _ _).mono ?_; rw [r]; rintro e w' ⟨rfl, rfl⟩)
          go_returns
          exact ⟨rfl, _, _, _, rfl⟩
      · subst h
        have r : cmpB k1 k1 = 0 := by simp [cmpB, klt_irrefl]
        have r2 : narB up k1 true o1 k1 true o2 = (k1, true, o1 || o2) := by simp [narB]
        rw [r2]
        have hc := hcmp.out
        clear r2 hcmp
        have hn1 : n = 1 ∨ n = -1 := by cases up <;> simp_all
        clear hn
        cases o1
        all_goals
          rcases hn1 with rfl | rfl
          all_goals
            go_enter Try.func58, Try.ntmps58
            go_wp2_with (go_at_call 83; refine (hc _ _ _).mono ?_; rw [r]; rintro e w' ⟨rfl, rfl⟩)
            go_returns
            exact ⟨rfl, _, _, _, rfl⟩
      · have r : cmpB k1 k2 = 1 := by simp [cmpB, h, klt_asymm h]
        have r2 : narB up k1 true o1 k2 true o2 = if up = true then (k1, true, o1) else (k2, true, o2) := by
          have := klt_ne' h
          have h' := klt_asymm h
          cases up <;> simp [narB, h', this]
        rw [r2]
        have hc := hcmp.out
        clear h r2 hcmp
        cases up
        · obtain rfl : n = -1 := hn
          go_enter Try.func58, Try.ntmps58
          go_wp2_with (go_at_call 83; refine (hc _ _ _).mono ?_; rw [r]; rintro e w' ⟨rfl, rfl⟩)
          go_returns
          exact ⟨rfl, _, _, _, rfl⟩
        · obtain rfl : n = 1 := hn
          go_enter Try.func58, Try.ntmps58
          go_wp2_with (go_at_call 83; refine (hc _ _ _).mono ?_; rw [r]; rintro e w' ⟨rfl, rfl⟩)
          go_returns
          exact ⟨rfl, _, _, _, rfl⟩

set_option maxHeartbeats 4000000 in
theorem meet18 (w : World) (f1 t1 : ByteArray) (hf1 ht1 of1 ot1 : Bool) (f2 t2 : ByteArray) (hf2 ht2 of2 ot2 : Bool) :
    Calls Try.prog 18 #[.agg #[.string f1, .string t1, .bool hf1, .bool ht1, .bool of1, .bool ot1], .agg #[.string f2, .string t2, .bool hf2, .bool ht2, .bool of2, .bool ot2]] w fun e w' =>
      ∃ (f t : ByteArray) (hf ht of ot : Bool), e = .returned (.agg #[.string f, .string t, .bool hf, .bool ht, .bool of, .bool ot]) ∧ Hid (narB true f1 hf1 of1 f2 hf2 of2 = (f, hf, of) ∧ narB false t1 ht1 ot1 t2 ht2 ot2 = (t, ht, ot)) ∧ Hid (Below w.heap.size w w') := by
  have c1 : ∀ w1, Calls Try.prog 58 #[.agg #[.string f1, .bool hf1, .bool of1], .agg #[.string f2, .bool hf2, .bool of2], .int .i64 1] w1 fun e w' =>
      ∃ (f : ByteArray) (hf of : Bool) (A B C : Array Value), e = .returned (.agg #[.string f, .bool hf, .bool of]) ∧ w' = ((w1.alloc (.cells A 97)).alloc (.cells B 97)).alloc (.cells C 97) ∧ Hid (narB true f1 hf1 of1 f2 hf2 of2 = (f, hf, of)) := fun w1 =>
    (narrower58 w1 true f1 hf1 of1 f2 hf2 of2 1 (by simp)).mono fun e w' h => by
      obtain ⟨h1, A, B, C, h2⟩ := h
      exact ⟨_, _, _, A, B, C, h1, h2, Lib.hid rfl⟩
  have c2 : ∀ w1, Calls Try.prog 58 #[.agg #[.string t1, .bool ht1, .bool ot1], .agg #[.string t2, .bool ht2, .bool ot2], .int .i64 (-1)] w1 fun e w' =>
      ∃ (f : ByteArray) (hf of : Bool) (A B C : Array Value), e = .returned (.agg #[.string f, .bool hf, .bool of]) ∧ w' = ((w1.alloc (.cells A 97)).alloc (.cells B 97)).alloc (.cells C 97) ∧ Hid (narB false t1 ht1 ot1 t2 ht2 ot2 = (f, hf, of)) := fun w1 =>
    (narrower58 w1 false t1 ht1 ot1 t2 ht2 ot2 (-1) (by simp)).mono fun e w' h => by
      obtain ⟨h1, A, B, C, h2⟩ := h
      exact ⟨_, _, _, A, B, C, h1, h2, Lib.hid rfl⟩
  have C1 := Lib.hid c1
  have C2 := Lib.hid c2
  clear c1 c2
  go_enter Try.func18, Try.ntmps18
  go_wp2_with fail
  refine (C1.out _).mono ?_
  clear C1
  rintro e w1 ⟨f, hf, of, A, B, C, rfl, rfl, h1⟩
  go_wp2_with fail
  refine (C2.out _).mono ?_
  clear C2
  rintro e w1 ⟨t, ht, ot, A, B, C, rfl, rfl, h2⟩
  go_wp2_with fail
  go_returns
  exact ⟨f, t, hf, ht, of, ot, rfl, Lib.hid ⟨h1.out, h2.out⟩, Lib.hid (by go_grown)⟩

end Go.Proofs.Ytcidmaeclonilaa
