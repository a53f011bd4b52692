/- The walk of barbicanlaw12.shaped: rows of numbers in memory that are in the shape of a tree. -/
import Derived.Test.YtcidmaeclonilaaTwo
import Derived.Handy
namespace Go.Proofs.Ytcidmaeclonilaa
open Go Go.RowKit

/-- what a tree's rows look like -/
structure Shp (Rs : List (List Nat)) (n : Nat) : Prop where
  ne : 1 ≤ Rs.length
  most : 2 * 4 ^ (Rs.length - 1) ≤ n + 1
  one : ∀ r, Rs[0]? = some r → r.length = 1
  le : ∀ (i : Nat) (r : List Nat), Rs[i]? = some r → ∀ c ∈ r, 1 ≤ c ∧ c ≤ 7 ∧ (0 < i → 3 ≤ c)
  nxt : ∀ (i : Nat) (r r' : List Nat), Rs[i]? = some r → Rs[i + 1]? = some r' → r'.length = r.sum + r.length
  sum : (Rs.map List.sum).sum = n

/-- rows of numbers in memory -/
def rowV (r : List Nat) : List Value := r.map fun (k : Nat) => Value.int .i64 k
def Mat (w : World) (v : Value) (Rs : List (List Nat)) : Prop :=
  ∃ vs : List Value, vs.length = Rs.length ∧ Row w 127 v vs ∧ ∀ (i : Nat) (r : List Nat), Rs[i]? = some r → ∃ u, vs[i]? = some u ∧ Row w 3 u (rowV r)

/-- what the walk reads of them -/
structure MatC (w : World) (A : Option Addr) (N : Nat) (Rs : List (List Nat)) : Prop where
  len : Rs.length = N
  at_ : ∀ (i : Nat) (r : List Nat), Rs[i]? = some r → ∃ g, A = some ⟨g, 0, none⟩ ∧ ∃ B c, w.cell? ⟨g, i, none⟩ = some (.slice B r.length c) ∧ ∀ (k x : Nat), r[k]? = some x → ∃ b, B = some ⟨b, 0, none⟩ ∧ w.cell? ⟨b, k, none⟩ = some (.int .i64 x)
theorem Mat.open_ {w : World} {A : Option Addr} {N c : Nat} {Rs : List (List Nat)} (h : Mat w (.slice A N c) Rs) : MatC w A N Rs := by
  obtain ⟨vs, hl, hr, hat⟩ := h
  have hN : vs.length = N := by obtain ⟨_, _, he, _⟩ := hr; injection he with _ e2 _; exact e2.symm
  refine ⟨by omega, fun i r hi => ?_⟩
  obtain ⟨u, hu, hrow⟩ := hat i r hi
  have hlt := (List.getElem?_eq_some_iff.1 hu).1
  obtain ⟨g, c2, cur, he, -, -, hB, -, hcell, -⟩ := hr.open_ (by omega)
  injection he with e1 _ _
  obtain ⟨B, d, rfl, hra⟩ := hrow
  refine ⟨g, e1, B, d, by rw [hcell i _ hu]; simp [rowV], fun k x hk => ?_⟩
  have hlt2 := (List.getElem?_eq_some_iff.1 hk).1
  obtain ⟨b, c3, cur3, he3, -, -, hB3, -, hcell3, -⟩ := Row.open_ (⟨B, d, rfl, hra⟩ : Row w 3 (.slice B (rowV r).length d) (rowV r)) (by simp [rowV]; omega)
  injection he3 with e3 _ _
  exact ⟨b, e3, hcell3 k _ (by simp [rowV, hk])⟩

theorem sum_take {r : List Nat} {k c : Nat} (h : r[k]? = some c) : (r.take (k + 1)).sum = (r.take k).sum + c := by
  rw [List.take_add_one, h]; simp
theorem sum_take_le (r : List Nat) (k : Nat) : (r.take k).sum ≤ r.sum := by
  conv => rhs; rw [← List.take_append_drop k r]
  rw [List.sum_append]; omega
theorem sums_succ {Rs : List (List Nat)} {i : Nat} {r : List Nat} (h : Rs[i]? = some r) : ((Rs.take (i + 1)).map List.sum).sum = ((Rs.take i).map List.sum).sum + r.sum := by
  rw [List.take_add_one, h]; simp
theorem sums_le {Rs : List (List Nat)} {i : Nat} {r : List Nat} (h : Rs[i]? = some r) : ((Rs.take i).map List.sum).sum + r.sum ≤ (Rs.map List.sum).sum := by
  rw [← sums_succ h]
  conv => rhs; rw [← List.take_append_drop (i + 1) Rs]
  rw [List.map_append, List.sum_append]; omega
theorem len_le_sum {r : List Nat} (h : ∀ c ∈ r, 1 ≤ c) : r.length ≤ r.sum := by
  induction r with
  | nil => simp
  | cons c r ih =>
    have h1 := h c (by simp)
    have h2 := ih fun x hx => h x (by simp [hx])
    simp only [List.length_cons, List.sum_cons]; omega
theorem most_len {N n m : Nat} (hN : 1 ≤ N) (h : 2 * 4 ^ (N - 1) ≤ n + 1) (hm : (n + 1) / 2 / 4 ^ m = 0) : N ≤ m := by
  have h1 : 4 ^ (N - 1) ≤ (n + 1) / 2 := by omega
  have h2 : (n + 1) / 2 < 4 ^ m := by
    rcases Nat.div_eq_zero_iff.1 hm with h | h
    · have := Nat.pow_pos (n := m) (show 0 < 4 by omega); omega
    · exact h
  have h3 : 4 ^ (N - 1) < 4 ^ m := by omega
  have := (Nat.pow_lt_pow_iff_right (show 1 < 4 by omega)).1 h3
  omega

set_option maxHeartbeats 4000000 in
set_option maxRecDepth 100000 in
theorem shaped44 (w : World) (A : Option Addr) (N c0 n : Nat) (Rs : List (List Nat)) (hM : MatC w A N Rs) (hS : Shp Rs n) (hn : n ≤ 100000) :
    Calls Try.prog 44 #[.slice A N c0, .int .i64 n] w fun e w' => e = .returned (.bool true) ∧ w' = w := by
  obtain ⟨r0, hr0⟩ : ∃ r0, Rs[0]? = some r0 := ⟨_, List.getElem?_eq_getElem (by have := hS.ne; omega)⟩
  obtain ⟨g, rfl, B0, b0, d00, hrow0⟩ := hM.at_ 0 r0 hr0
  rw [hS.one r0 hr0] at d00
  have hN1 : 1 ≤ N := by rw [← hM.len]; exact hS.ne
  have hn0 : n ≠ 0 := by
    intro h0
    subst h0
    have := hS.most
    have := Nat.pow_pos (n := Rs.length - 1) (show 0 < 4 by omega)
    omega
  have hNn : N ≤ 100000 := by
    have h1 := hS.most
    have := Nat.lt_pow_self (n := Rs.length - 1) (show 1 < 4 by omega)
    have := hM.len
    omega
  have hnz : ((n : Int) == 0) = false := by rw [beq_eq_false_iff_ne]; omega
  have hN1z : ¬ ((N : Int) < 1) := by omega
  have hN0z : (0 : Int) < (N : Int) := by omega
  have hN1y : (1 : Int) ≤ (N : Int) := by omega
  have hnw : IntKind.i64.wrap ((n : Int) + 1) = (n : Int) + 1 := by rw [IntKind.wrap_i64]; omega
  have HM := Lib.hid hM
  have HS := Lib.hid hS
  clear hM hS hr0 hrow0
  go_enter Try.func44, Try.ntmps44
  go_wp2_with fail
  go_loopg [5, 6] ((n + 1) / 2) (fun kx s5 s6 wr => ∃ (m x : Nat), s5 = .int .i64 m ∧ s6 = .int .i64 x ∧ kx = x ∧ Hid (x = (n + 1) / 2 / 4 ^ m ∧ m + x ≤ n + 1) ∧ w = wr)
  case atStart => exact ⟨0, (n + 1) / 2, rfl, by first | rfl | (rw [show ∀ x : Int, x = (((n + 1) / 2 : Nat) : Int) → Value.int .i64 x = Value.int .i64 (((n + 1) / 2 : Nat) : Int) from fun x h => by rw [h]]; rw [wrap64_eq]; omega), rfl, Lib.hid ⟨by simp, by omega⟩, rfl⟩
  case round =>
    obtain ⟨m, x, rfl, rfl, rfl, H, rfl⟩ := hrel
    by_cases hx : 0 < gk
    · have hx1 : (0 : Int) < (gk : Int) := by omega
      have hgb : gk ≤ 100001 := by have := H.out.2; omega
      have hm : (m : Int) + 1 ≤ 9223372036854775807 := by have := H.out.2; omega
      have hq : IntKind.i64.wrap ((gk : Int) / 4) = ((gk / 4 : Nat) : Int) := by rw [IntKind.wrap_i64]; omega
      go_wp2_with fail
      go_roundg (gk / 4)
      case measure => omega
      case rel => exact ⟨m + 1, gk / 4, rfl, by first | rfl | exact congrArg (Value.int .i64) hq, rfl, Lib.hid ⟨by rw [H.out.1, Nat.pow_succ, Nat.div_div_eq_div_mul], by have := H.out.2; omega⟩, rfl⟩
    · obtain rfl : gk = 0 := by omega
      have hNm : N ≤ m := by
        have h1 := HS.out.most
        rw [HM.out.len] at h1
        exact most_len hN1 h1 H.out.1.symm
      have hNmz : ¬ ((m : Int) < (N : Int)) := by omega
      have hNmy : (N : Int) ≤ (m : Int) := by omega
      clear H hNm hx
      go_wp2_with fail
      go_loopg [7, 8, 9, 10, 11] N (fun kx s7 s8 s9 s10 s11 wr => ∃ (i a : Nat), s7 = .int .i64 a ∧ s8 = .int .i64 i ∧ kx + i = N ∧ Hid (a = ((Rs.take i).map List.sum).sum) ∧ w = wr)
      case atStart => exact ⟨0, 0, rfl, rfl, rfl, Lib.hid rfl, rfl⟩
      case round =>
        obtain ⟨i, a, rfl, rfl, hk, HA, rfl⟩ := hrel
        clear d00
        obtain ⟨ko, hko⟩ : ∃ ko, ko = gk := ⟨_, rfl⟩
        have HKO := Lib.hid hko
        by_cases hi : i < N
        · obtain ⟨r, hr⟩ : ∃ r, Rs[i]? = some r := ⟨_, List.getElem?_eq_getElem (by rw [HM.out.len]; exact hi)⟩
          obtain ⟨g1, hg, B, bc, d0, hrow⟩ := HM.out.at_ i r hr
          cases hg
          have hiz : (i : Int) < (N : Int) := by omega
          have hsum : a + r.sum ≤ n := by have := sums_le hr; rw [HS.out.sum] at this; rw [HA.out]; exact this
          have hle := Lib.hid (HS.out.le i r hr)
          have hrl : r.length ≤ r.sum := len_le_sum fun c hc => (hle.out c hc).1
          have HR := Lib.hid hr
          have HW := Lib.hid hrow
          have HK := Lib.hid hk
          clear hr hrow hk hko
          obtain ⟨a0, ha0⟩ : ∃ a0, a0 = a := ⟨_, rfl⟩
          have HA0 := Lib.hid ha0
          go_wp2_with fail
          go_loopg [7, 9, 10, 11] r.length (fun kx s7 s9 s10 s11 wr => ∃ (k a kd : Nat), s7 = .int .i64 a ∧ s9 = .int .i64 kd ∧ s10 = .int .i64 k ∧ kx + k = r.length ∧ Hid (a = a0 + (r.take k).sum ∧ kd = (r.take k).sum + k) ∧ w = wr)
          case atStart => exact ⟨0, a, 0, rfl, rfl, rfl, rfl, Lib.hid ⟨by simp [HA0.out], by simp⟩, rfl⟩
          case round =>
            obtain ⟨k, a1, kd, rfl, rfl, rfl, hk, H, rfl⟩ := hrel
            by_cases hkl : k < r.length
            · obtain ⟨c, hc⟩ : ∃ c, r[k]? = some c := ⟨_, List.getElem?_eq_getElem hkl⟩
              obtain ⟨b, rfl, d1⟩ := HW.out k c hc
              obtain ⟨c1, c7, c3⟩ := hle.out c (List.mem_of_getElem? hc)
              have hkz : (k : Int) < (r.length : Int) := by omega
              have h1 := sum_take hc
              have h2 := sum_take_le r (k + 1)
              obtain ⟨e1, e2⟩ := H.out
              have haw : IntKind.i64.wrap ((a1 : Int) + (c : Int)) = (a1 : Int) + (c : Int) := by rw [IntKind.wrap_i64]; omega
              have hkw : IntKind.i64.wrap ((kd : Int) + (c : Int)) = (kd : Int) + (c : Int) := by rw [IntKind.wrap_i64]; omega
              have hkw2 : IntKind.i64.wrap ((kd : Int) + (c : Int) + 1) = (kd : Int) + (c : Int) + 1 := by rw [IntKind.wrap_i64]; omega
              have hc1 : ¬ ((c : Int) < 1) := by omega
              have hc7 : ¬ ((7 : Int) < (c : Int)) := by omega
              have HC := Lib.hid (And.intro h1 (And.intro e1 e2))
              clear h1 h2 e1 e2 hc c1 c7 H
              rcases Nat.eq_zero_or_pos i with hi0 | hi0
              · have hi0z : ¬ ((0 : Int) < (i : Int)) := by omega
                clear c3 hi0
                go_wp2_with fail
                go_roundg (gk - 1)
                case measure => omega
                case rel => exact ⟨k + 1, a1 + c, kd + c + 1, rfl, rfl, rfl, by omega, Lib.hid ⟨by rw [HC.out.1, HC.out.2.1]; omega, by rw [HC.out.1, HC.out.2.2]; omega⟩, rfl⟩
              · have hi0z : (0 : Int) < (i : Int) := by omega
                have hc3 : ¬ ((c : Int) < 3) := by have := c3 hi0; omega
                clear c3
                go_wp2_with fail
                go_roundg (gk - 1)
                case measure => omega
                case rel => exact ⟨k + 1, a1 + c, kd + c + 1, rfl, rfl, rfl, by omega, Lib.hid ⟨by rw [HC.out.1, HC.out.2.1]; omega, by rw [HC.out.1, HC.out.2.2]; omega⟩, rfl⟩
            · have hkz : ¬ ((k : Int) < (r.length : Int)) := by omega
              obtain ⟨e1, e2⟩ := H.out
              rw [List.take_of_length_le (by omega)] at e1 e2
              have HA1 := Lib.hid (show a1 = ((Rs.take (i + 1)).map List.sum).sum by rw [sums_succ HR.out, e1, HA0.out, HA.out])
              by_cases hi1 : i + 1 < N
              · obtain ⟨r', hr'⟩ : ∃ r', Rs[i + 1]? = some r' := ⟨_, List.getElem?_eq_getElem (by rw [HM.out.len]; exact hi1)⟩
                obtain ⟨g1, hg, B', bc', d1, -⟩ := HM.out.at_ (i + 1) r' hr'
                cases hg
                have hkd : r'.length = kd := by rw [HS.out.nxt i r r' HR.out hr', e2]; omega
                rw [hkd] at d1
                have hi1z : (i : Int) + 1 < (N : Int) := by omega
                have HE := Lib.hid e2
                clear e1 e2 H hkd hr'
                go_wp2_with fail
                go_roundg (ko - 1)
                case measure => have := HK.out; have := HKO.out; omega
                case rel => exact ⟨i + 1, a1, rfl, rfl, by have := HK.out; have := HKO.out; omega, HA1, rfl⟩
              · have hi1z : ¬ ((i : Int) + 1 < (N : Int)) := by omega
                have HE := Lib.hid e2
                clear e1 e2 H
                go_wp2_with fail
                go_roundg (ko - 1)
                case measure => have := HK.out; have := HKO.out; omega
                case rel => exact ⟨i + 1, a1, rfl, rfl, by have := HK.out; have := HKO.out; omega, HA1, rfl⟩
        · have hiz : ¬ ((i : Int) < (N : Int)) := by omega
          have han : a = n := by
            have h := HA.out
            rw [List.take_of_length_le (by rw [HM.out.len]; omega), HS.out.sum] at h; exact h
          subst han
          clear HA
          go_wp2_with fail
          go_ret
          exact ⟨rfl, rfl⟩

end Go.Proofs.Ytcidmaeclonilaa
