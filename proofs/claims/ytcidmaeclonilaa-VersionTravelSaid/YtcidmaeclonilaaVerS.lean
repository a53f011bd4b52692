/- chain.as, chain.row: the version as of a commit. -/
import Derived.Test.YtcidmaeclonilaaVerM
namespace Go.Proofs.Ytcidmaeclonilaa
open Go Go.RowKit

theorem wv1 {n : Nat} (h : n ≤ 1000000) : IntKind.i64.wrap ((n : Int) - 1) = (n : Int) - 1 := by rw [IntKind.wrap_i64]; omega
theorem wv3 {n : Nat} (h : n ≤ 1000000) : wrap64 ((n : Int) - 1) = (n : Int) - 1 := by unfold wrap64; omega

set_option maxHeartbeats 1000000 in
/-- the closure of chain.as: c[i].at > at -/
theorem closure111 (ba bx g n c i : Nat) (ai at_ : Int) (w : World) (hi : i < n) (ha : w.cell? ⟨ba, 0, none⟩ = some (.slice (some ⟨g, 0, none⟩) n c)) (hx : w.cell? ⟨bx, 0, none⟩ = some (.int .i64 at_)) (hs : w.cell? ⟨g, i * 3, none⟩ = some (.int .i64 ai)) :
    Calls Try.prog 111 #[.int .i64 i, .pointer (some ⟨ba, 0, none⟩), .pointer (some ⟨bx, 0, none⟩)] w fun e w' => e = .returned (.bool (decide (at_ < ai))) ∧ ∃ q, w' = w.drewN q := by
  have hiz : (i : Int) < (n : Int) := by omega
  go_enter Try.func111, Try.ntmps111
  go_wp2
  go_quiet (fail)
  go_wp2
  go_ret
  exact ⟨by simp, _, rfl⟩

set_option maxHeartbeats 1000000 in
/-- sort.Search over such a closure: the place up to which it says no -/
theorem search103v (ba bx n : Nat) (p : Nat → Bool) (w : World) (hn : n ≤ 100000) (hmono : ∀ a b, a ≤ b → b < n → p a = true → p b = true)
    (hf : ∀ (q i : Nat), i < n → Calls Try.prog 111 #[.int .i64 i, .pointer (some ⟨ba, 0, none⟩), .pointer (some ⟨bx, 0, none⟩)] (w.drewN q) fun e w' => e = .returned (.bool (p i)) ∧ ∃ q', w' = w.drewN q') :
    Calls Try.prog 103 #[.int .i64 n, .func (.func 111) #[] #[.pointer (some ⟨ba, 0, none⟩), .pointer (some ⟨bx, 0, none⟩)]] w fun e w' => ∃ i : Nat, (e = .returned (.int .i64 i) ∧ i ≤ n ∧ Hid ((∀ j, j < i → p j = false) ∧ ∀ j, i ≤ j → j < n → p j = true)) ∧ ∃ q, w' = w.drewN q := by
  have M := Lib.hid hmono
  have F := Lib.hid hf
  clear hf hmono
  go_enter Try.func103, Try.ntmps103
  go_wp2
  go_loopg [5, 6] n (fun kx s5 s6 wr => ∃ (lo hi q : Nat), s5 = .int .i64 lo ∧ s6 = .int .i64 hi ∧ lo ≤ hi ∧ hi ≤ n ∧ hi - lo ≤ kx ∧ wr = w.drewN q ∧ Hid ((∀ t, t < lo → p t = false) ∧ ∀ t, hi ≤ t → t < n → p t = true))
  case atStart => exact ⟨0, n, 0, rfl, rfl, Nat.zero_le _, Nat.le_refl _, by omega, rfl, Lib.hid ⟨fun t ht => absurd ht (Nat.not_lt_zero _), fun t h1 h2 => by omega⟩⟩
  case round =>
    obtain ⟨lo, hi, q, rfl, rfl, hlh, hin, hg, rfl, I⟩ := hrel
    by_cases hlt : lo < hi
    · have hc := F.out q ((lo + hi) / 2) (by omega)
      rw [show (((lo + hi) / 2 : Nat) : Int) = ((lo : Int) + (hi : Int)) / 2 by omega] at hc
      cases hp : p ((lo + hi) / 2) <;> rw [hp] at hc
      · have HP := Lib.hid hp
        clear hp
        go_wp2_with (go_at_call 111; refine hc.mono ?_; rintro e w' ⟨rfl, nq, rfl⟩)
        go_roundg (hi - ((lo + hi) / 2 + 1))
        case measure => omega
        case rel =>
          have I2 := Lib.hid (p := (∀ t, t < (lo + hi) / 2 + 1 → p t = false) ∧ (∀ t, hi ≤ t → t < n → p t = true)) ⟨fun t ht => (by
            cases h : p t with
            | false => rfl
            | true => have := M.out t ((lo + hi) / 2) (by omega) (by omega) h; rw [HP.out] at this; cases this), I.out.2⟩
          exact ⟨(lo + hi) / 2 + 1, hi, nq, by rw [show ((lo : Int) + (hi : Int)) / 2 + 1 = (((lo + hi) / 2 + 1 : Nat) : Int) by omega], rfl, by omega, hin, Nat.le_refl _, rfl, I2⟩
      · have HP := Lib.hid hp
        clear hp
        go_wp2_with (go_at_call 111; refine hc.mono ?_; rintro e w' ⟨rfl, nq, rfl⟩)
        go_roundg ((lo + hi) / 2 - lo)
        case measure => omega
        case rel =>
          have I2 := Lib.hid (p := (∀ t, t < lo → p t = false) ∧ (∀ t, (lo + hi) / 2 ≤ t → t < n → p t = true)) ⟨I.out.1, fun t ht htn => M.out ((lo + hi) / 2) t ht htn HP.out⟩
          exact ⟨lo, (lo + hi) / 2, nq, rfl, by rw [show ((lo : Int) + (hi : Int)) / 2 = (((lo + hi) / 2 : Nat) : Int) by omega], by omega, by omega, Nat.le_refl _, rfl, I2⟩
    · obtain rfl : hi = lo := by omega
      go_wp2
      go_ret
      exact ⟨hi, ⟨rfl, hin, I⟩, q, rfl⟩


/-- the first version behind a commit -/
structure AsP (vs : List Ver) (at_ : Int) (i : Nat) : Prop where
  le : i ≤ vs.length
  lo : ∀ (j : Nat) (v : Ver), j < i → vs[j]? = some v → v.at_ ≤ at_
  hi : ∀ (j : Nat) (v : Ver), i ≤ j → vs[j]? = some v → at_ < v.at_
/-- commits rise -/
def VSrt (vs : List Ver) : Prop := vs.Pairwise fun a b => a.at_ < b.at_

set_option maxHeartbeats 1000000 in
theorem as92 (w : World) (A : Option Addr) (n c : Nat) (vs : List Ver) (at_ : Int) (H : ChainAt w A n vs) (hn : n ≤ 100000) (hs : VSrt vs) :
    Calls Try.prog 92 #[.slice A n c, .int .i64 at_] w fun e w' => ∃ i : Nat, e = .returned (.int .i64 ((i : Int) - 1)) ∧ Hid (AsP vs at_ i) ∧ i ≤ n ∧ Hid (Below w.heap.size w w') := by
  have hS : Calls Try.prog 103 #[.int .i64 n, .func (.func 111) #[] #[.pointer (some ⟨w.heap.size, 0, none⟩), .pointer (some ⟨w.heap.size + 1, 0, none⟩)]] ((w.alloc (.cells #[.slice A n c] 113)).alloc (.cells #[.int .i64 at_] 3)) fun e w' => ∃ i : Nat, e = .returned (.int .i64 i) ∧ Hid (AsP vs at_ i) ∧ i ≤ n ∧ Hid (Below w.heap.size w w') := by
    refine (search103v w.heap.size (w.heap.size + 1) n (fun i => decide (at_ < ((vs[i]?.map Ver.at_).getD 0))) _ hn (fun a b hab hb ha => ?_) (fun q i hi => ?_)).mono ?_
    · rcases Nat.eq_or_lt_of_le hab with rfl | hlt
      · exact ha
      · have hla : a < vs.length := by rw [H.len]; omega
        have hlb : b < vs.length := by rw [H.len]; omega
        have := List.pairwise_iff_getElem.1 hs a b hla hlb hlt
        simp only [List.getElem?_eq_getElem hla, List.getElem?_eq_getElem hlb, Option.map_some, Option.getD_some, decide_eq_true_eq] at ha ⊢
        omega
    · obtain ⟨v, hv⟩ : ∃ v, vs[i]? = some v := ⟨_, List.getElem?_eq_getElem (by rw [H.len]; exact hi)⟩
      have hb : Below w.heap.size w (((w.alloc (.cells #[.slice A n c] 113)).alloc (.cells #[.int .i64 at_] 3)).drewN q) := below_drewN' (((Below.refl _ w).alloc (Nat.le_refl _) _).alloc (by simp) _) q
      obtain ⟨g, rfl, hg, c0, -, -⟩ := (H.below hb).at_ hv
      have hb1 := ((Blk.new w 113 #[.slice (some ⟨g, 0, none⟩) n c]).alloc (.cells #[.int .i64 at_] 3)).drewN q
      have hb2 := (Blk.new (w.alloc (.cells #[.slice (some ⟨g, 0, none⟩) n c] 113)) 3 #[.int .i64 at_]).drewN q
      rw [World.size_alloc] at hb2
      rw [hv]
      exact (closure111 _ _ g n c i v.at_ at_ _ hi ((hb1.cell 0).trans rfl) ((hb2.cell 0).trans rfl) c0).mono fun e w' ⟨he, q', hw⟩ => ⟨he, q + q', by rw [hw, World.drewN_drewN]⟩
    · rintro e w' ⟨i, ⟨rfl, hi, hh⟩, q, rfl⟩
      refine ⟨i, rfl, Lib.hid ⟨by rw [H.len]; exact hi, fun j v hj hv => ?_, fun j v hj hv => ?_⟩, hi, Lib.hid (below_drewN' (((Below.refl _ w).alloc (Nat.le_refl _) _).alloc (by simp) _) q)⟩
      · have := hh.out.1 j hj
        simp only [hv, Option.map_some, Option.getD_some, decide_eq_false_iff_not] at this
        omega
      · have := hh.out.2 j hj (by have := (List.getElem?_eq_some_iff.1 hv).1; rw [H.len] at this; exact this)
        simpa [hv] using this
  have HS := Lib.hid hS
  have hw := Lib.hid (fun (i : Nat) (hi : i ≤ n) => wv3 (n := i) (by omega))
  have hw2 := Lib.hid (fun (i : Nat) (hi : i ≤ n) => wv1 (n := i) (by omega))
  clear hS H hs
  go_enter Try.func92, Try.ntmps92
  go_wp2_with (go_at_call 103; refine HS.out.mono ?_; rintro e w' ⟨i, rfl, hp, hi, hb⟩; have h1 := hw.out i hi; have h2 := hw2.out i hi)
  go_ret
  exact ⟨i, rfl, hp, hi, hb⟩

end Go.Proofs.Ytcidmaeclonilaa
