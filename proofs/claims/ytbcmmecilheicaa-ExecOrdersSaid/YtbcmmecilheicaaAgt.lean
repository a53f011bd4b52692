/- The names of the aggregates: found. -/
import Derived.Test.YtbcmmecilheicaaSureA
namespace Go.Proofs.Ytbcmmecilheicaa
open Go Go.RowKit

set_option maxRecDepth 20000 in
set_option maxHeartbeats 2000000 in
/-- slices.Index, of a text that is there -/
theorem idx84y (w : World) (A : Option Addr) (n c : Nat) (l : List ByteArray) (h : StrsAt w A n l) (hn : n ≤ 1000000) (z : ByteArray) (k : Nat) (hkn : k < n) (hz : ∀ j y, l[j]? = some y → j < k → (z.toList == y.toList) = false) (hy : ∀ y, l[k]? = some y → (z.toList == y.toList) = true) :
    Calls Try.prog 84 #[.slice A n c, .string z] w fun e w' => e = .returned (.int .i64 k) ∧ w = w' := by
  have H := Lib.hid h
  have HZ := Lib.hid hz
  have HY := Lib.hid hy
  clear h hz hy
  go_enter Try.func84, Try.ntmps84
  go_wp2
  go_loopg [8] n (fun kx s8 wr => ∃ j : Nat, s8 = .int .i64 j ∧ kx + j = n ∧ j ≤ k ∧ w = wr)
  case atStart => exact ⟨0, rfl, rfl, Nat.zero_le _, rfl⟩
  case round =>
    obtain ⟨j, rfl, hk, hjk, rfl⟩ := hrel
    have hj : j < n := by omega
    obtain ⟨y, hy⟩ : ∃ y, l[j]? = some y := ⟨_, List.getElem?_eq_getElem (by rw [H.out.len]; exact hj)⟩
    obtain ⟨b, off, rfl, hb, hc⟩ := H.out.at_ j y hy
    have hjz : (j : Int) < (n : Int) := by omega
    have hj0 : (0 : Int) ≤ (j : Int) := by omega
    have hj1 : (j : Int) < 1000001 := by omega
    by_cases hjk2 : j < k
    · have hq := HZ.out j y hy hjk2
      clear hy hb
      go_wp2
      go_roundg (gk - 1)
      case measure => omega
      case rel => exact ⟨j + 1, by first | rfl | (simp; done), by omega, by omega, rfl⟩
    · obtain rfl : j = k := by omega
      have hq := HY.out y hy
      clear hy hb
      go_wp2
      go_ret
      exact ⟨rfl, rfl⟩
/-- is a text there? -/
def isIn (z : ByteArray) (l : List ByteArray) : Bool := l.any fun y => z.toList == y.toList
theorem isIn_first {z : ByteArray} : ∀ {l : List ByteArray}, isIn z l = true → ∃ k, k < l.length ∧ (∀ j y, l[j]? = some y → j < k → (z.toList == y.toList) = false) ∧ ∀ y, l[k]? = some y → (z.toList == y.toList) = true
  | [], h => by simp [isIn] at h
  | x :: l, h => by
    cases hx : z.toList == x.toList with
    | true => exact ⟨0, by simp, fun j y _ hj => absurd hj (Nat.not_lt_zero _), fun y hy => by
      have e : x = y := by simpa using hy
      rw [← e]; exact hx⟩
    | false =>
      have h' : isIn z l = true := by
        unfold isIn at h ⊢
        rw [List.any_cons, hx, Bool.false_or] at h
        exact h
      obtain ⟨k, h1, h2, h3⟩ := isIn_first h'
      refine ⟨k + 1, by simp; omega, fun j y hj hjk => ?_, fun y hy => h3 y (by simpa using hy)⟩
      match j, hj, hjk with
      | 0, hj, _ => obtain rfl : x = y := by simpa using hj
                    exact hx
      | j + 1, hj, hjk => exact h2 j y (by simpa using hj) (by omega)
theorem isIn_none {z : ByteArray} {l : List ByteArray} (h : isIn z l = false) : ∀ y ∈ l, (z.toList == y.toList) = false := fun y hy => by
  cases hx : z.toList == y.toList with
  | false => rfl
  | true =>
    have : isIn z l = true := List.any_eq_true.2 ⟨y, hy, hx⟩
    rw [h] at this
    cases this
set_option maxHeartbeats 2000000 in
theorem contains68g (w : World) (A : Option Addr) (n c : Nat) (l : List ByteArray) (h : StrsAt w A n l) (hn : n ≤ 1000000) (z : ByteArray) :
    Calls Try.prog 68 #[.slice A n c, .string z] w fun e w' => e = .returned (.bool (isIn z l)) ∧ w = w' := by
  cases hi : isIn z l with
  | false => exact contains68 w A n c l h hn z (isIn_none hi)
  | true =>
    obtain ⟨k, h1, h2, h3⟩ := isIn_first hi
    have hkn : k < n := by rw [← h.len]; exact h1
    have HC := Lib.hid (idx84y w A n c l h hn z k hkn h2 h3)
    have hk0 : (0 : Int) ≤ (k : Int) := by omega
    clear h h1 h2 h3 hi
    go_enter Try.func68, Try.ntmps68
    go_wp2_with (go_at_call 84; refine HC.out.mono ?_; rintro e w1 ⟨rfl, rfl⟩)
    go_ret
    exact ⟨rfl, rfl⟩
theorem aggs_at {w : World} {s : Nat} (zb : Blk w s 9 #[.string ⟨#[114, 111, 119, 115]⟩, .string ⟨#[99, 111, 117, 110, 116]⟩, .string ⟨#[115, 117, 109]⟩, .string ⟨#[109, 105, 110]⟩, .string ⟨#[109, 97, 120]⟩]) : StrsAt w (some ⟨s, 0, none⟩) 5 aggs := ⟨rfl, fun j y hj => by
    match j, hj with
    | 0, hj => obtain rfl : _ = y := Option.some.inj hj; exact ⟨_, _, rfl, zb.lt, zb.cell 0⟩
    | 1, hj => obtain rfl : _ = y := Option.some.inj hj; exact ⟨_, _, rfl, zb.lt, zb.cell 1⟩
    | 2, hj => obtain rfl : _ = y := Option.some.inj hj; exact ⟨_, _, rfl, zb.lt, zb.cell 2⟩
    | 3, hj => obtain rfl : _ = y := Option.some.inj hj; exact ⟨_, _, rfl, zb.lt, zb.cell 3⟩
    | 4, hj => obtain rfl : _ = y := Option.some.inj hj; exact ⟨_, _, rfl, zb.lt, zb.cell 4⟩
    | j + 5, hj => simp [aggs] at hj⟩
set_option maxHeartbeats 2000000 in
theorem agg47g (w : World) (z : ByteArray) : Calls Try.prog 47 #[.string z] w fun e w' => e = .returned (.bool (isIn z aggs)) ∧ Hid (Below w.heap.size w w') := by
  have HC := Lib.hid (contains68g (w.alloc (.cells #[.string ⟨#[114, 111, 119, 115]⟩, .string ⟨#[99, 111, 117, 110, 116]⟩, .string ⟨#[115, 117, 109]⟩, .string ⟨#[109, 105, 110]⟩, .string ⟨#[109, 97, 120]⟩] 9)) (some ⟨w.heap.size, 0, none⟩) 5 5 aggs (aggs_at (Blk.new w 9 _)) (by omega) z)
  go_enter Try.func47, Try.ntmps47
  go_wp2_with (go_at_call 68; refine HC.out.mono ?_; rintro e w1 ⟨rfl, rfl⟩)
  go_ret
  exact ⟨rfl, Lib.hid (below_alloc _ _)⟩
set_option maxHeartbeats 4000000 in
/-- an aggregate holds aggregates -/
theorem agg33t (w : World) (x : Ex) (A : Option Addr) (n c : Nat) (h : isIn x.op aggs = true) : Calls Try.prog 33 #[exAgg x A n c] w fun e w' => e = .returned (.bool true) ∧ Hid (Below w.heap.size w w') := by
  have HF := Lib.hid (fun (W : World) => agg47g W x.op)
  rw [h] at HF
  clear h
  go_enter Try.func33, Try.ntmps33
  go_wp2_with (go_at_call 47; refine (HF.out _).mono ?_; rintro e w1 ⟨rfl, h1⟩)
  go_ret
  exact ⟨rfl, Lib.hid h1.out.from1⟩

end Go.Proofs.Ytbcmmecilheicaa
