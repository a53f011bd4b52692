/- sort.SearchStrings as the tree's find calls it. -/
import Derived.Test.YtcidmaeclonilaaMemA
import Derived.Test.YtcidmaeclonilaaProg
import Derived.WalkLawsBesides
import Derived.Deep.LoopGhost
import Derived.Deep.QuietTactic
import Derived.BigQuiet
import Derived.KernelRfl
import Derived.Lib.Hide
namespace Go.Proofs.Ytcidmaeclonilaa
open Go Go.RowKit

theorem getD_in {α : Type} {l : List α} {i : Nat} {d : α} (h : i < l.length) : l.getD i d = l[i] := by simp [List.getD_eq_getElem?_getD, h]

theorem below_drewN' {B : Nat} {a w : World} (h : Below B a w) (n : Nat) : Below B a (w.drewN n) := ⟨h.os, h.tape, h.output, h.size, h.block⟩

set_option maxHeartbeats 1000000 in
/-- the closure of sort.SearchStrings: a[i] >= x -/
theorem closure104 (ba bx g n c i : Nat) (s key : ByteArray) (w : World) (hi : i < n) (ha : w.cell? ⟨ba, 0, none⟩ = some (.slice (some ⟨g, 0, none⟩) n c)) (hx : w.cell? ⟨bx, 0, none⟩ = some (.string key)) (hs : w.cell? ⟨g, i, none⟩ = some (.string s)) :
    Calls Try.prog 104 #[.int .i64 i, .pointer (some ⟨ba, 0, none⟩), .pointer (some ⟨bx, 0, none⟩)] w fun e w' => e = .returned (.bool (!klt s key)) ∧ ∃ q, w' = w.drewN q := by
  have hiz : (i : Int) < (n : Int) := by omega
  go_enter Try.func104, Try.ntmps104
  go_wp2
  go_quiet (fail)
  go_wp2
  go_ret
  exact ⟨rfl, _, rfl⟩

set_option maxHeartbeats 1000000 in
/-- sort.Search over such a closure: the place up to which it says no -/
theorem search103 (ba bx n : Nat) (p : Nat → Bool) (w : World) (hn : n ≤ 4096) (hmono : ∀ a b, a ≤ b → b < n → p a = true → p b = true)
    (hf : ∀ (q i : Nat), i < n → Calls Try.prog 104 #[.int .i64 i, .pointer (some ⟨ba, 0, none⟩), .pointer (some ⟨bx, 0, none⟩)] (w.drewN q) fun e w' => e = .returned (.bool (p i)) ∧ ∃ q', w' = w.drewN q') :
    Calls Try.prog 103 #[.int .i64 n, .func (.func 104) #[] #[.pointer (some ⟨ba, 0, none⟩), .pointer (some ⟨bx, 0, none⟩)]] w fun e w' => ∃ i : Nat, (e = .returned (.int .i64 i) ∧ i ≤ n ∧ Hid ((∀ j, j < i → p j = false) ∧ ∀ j, i ≤ j → j < n → p j = true)) ∧ ∃ q, w' = w.drewN q := by
  have M := Lib.hid hmono
  have F := Lib.hid hf
  clear hf hmono
  go_enter Try.func103, Try.ntmps103
  go_wp2
  go_loopg [5, 6] n (fun kx s5 s6 wr => ∃ (lo hi q : Nat), s5 = .int .i64 lo ∧ s6 = .int .i64 hi ∧ lo ≤ hi ∧ hi ≤ n ∧ hi - lo ≤ kx ∧ wr = w.drewN q ∧ Hid ((∀ t, t < lo → p t = false) ∧ ∀ t, hi ≤ t → t < n → p t = true))
  case atStart => exact ⟨0, n, 0, rfl, rfl, Nat.zero_le _, Nat.le_refl _, by omega, rfl, Lib.hid ⟨fun t ht => absurd ht (Nat.not_lt_zero _), fun t h1 h2 => by omega⟩⟩
  case round =>
    obtain ⟨lo, hi, q, rfl, rfl, hlh, hin, hg, rfl, I⟩ := hrel
    by_cases hlt : lo < hi
    · have hc := F.out q ((lo + hi) / 2) (by omega)
      rw [show (((lo + hi) / 2 : Nat) : Int) = ((lo : Int) + (hi : Int)) / 2 by omega] at hc
      cases hp : p ((lo + hi) / 2) <;> rw [hp] at hc
      · have HP := Lib.hid hp
        clear hp
        go_wp2_with (go_at_call 104; refine hc.mono ?_; rintro e w' ⟨rfl, nq, rfl⟩)
        go_roundg (hi - ((lo + hi) / 2 + 1))
        case measure => omega
        case rel =>
          have I2 := Lib.hid (p := (∀ t, t < (lo + hi) / 2 + 1 → p t = false) ∧ (∀ t, hi ≤ t → t < n → p t = true)) ⟨fun t ht => (by
            cases h : p t with
            | false => rfl
            | true => have := M.out t ((lo + hi) / 2) (by omega) (by omega) h; rw [HP.out] at this; cases this), I.out.2⟩
          exact ⟨(lo + hi) / 2 + 1, hi, nq, by rw [show ((lo : Int) + (hi : Int)) / 2 + 1 = (((lo + hi) / 2 + 1 : Nat) : Int) by omega], rfl, by omega, hin, Nat.le_refl _, rfl, I2⟩
      · have HP := Lib.hid hp
        clear hp
        go_wp2_with (go_at_call 104; refine hc.mono ?_; rintro e w' ⟨rfl, nq, rfl⟩)
        go_roundg ((lo + hi) / 2 - lo)
        case measure => omega
        case rel =>
          have I2 := Lib.hid (p := (∀ t, t < lo → p t = false) ∧ (∀ t, (lo + hi) / 2 ≤ t → t < n → p t = true)) ⟨I.out.1, fun t ht htn => M.out ((lo + hi) / 2) t ht htn HP.out⟩
          exact ⟨lo, (lo + hi) / 2, nq, rfl, by rw [show ((lo : Int) + (hi : Int)) / 2 = (((lo + hi) / 2 : Nat) : Int) by omega], by omega, by omega, Nat.le_refl _, rfl, I2⟩
    · obtain rfl : hi = lo := by omega
      go_wp2
      go_ret
      exact ⟨hi, ⟨rfl, hin, I⟩, q, rfl⟩

/-- the place of a key is told; only new blocks have come -/
def PlcPost (w : World) (key : ByteArray) (ks : List ByteArray) (e : Ending) (w' : World) : Prop :=
  ∃ i : Nat, e = .returned (.int .i64 i) ∧ Plc key ks i ∧ Below w.heap.size w w'

def KSrt (ks : List ByteArray) : Prop := ks.Pairwise fun a b => klt a b = true

theorem KSrt.mono {ks : List ByteArray} (h : KSrt ks) (key : ByteArray) (a b : Nat) (hab : a ≤ b) (hb : b < ks.length) (ha : (!klt (ks.getD a default) key) = true) : (!klt (ks.getD b default) key) = true := by
  rcases Nat.eq_or_lt_of_le hab with rfl | hlt
  · exact ha
  · have h1 : klt (ks.getD a default) (ks.getD b default) = true := by
      rw [getD_in (by omega : a < ks.length), getD_in hb]
      exact (List.pairwise_iff_getElem.1 h) a b (by omega) hb hlt
    simp only [Bool.not_eq_true'] at ha ⊢
    cases h2 : klt (ks.getD b default) key
    · rfl
    · rw [klt_trans h1 h2] at ha; cases ha

theorem plc_of {ks : List ByteArray} {key : ByteArray} {i : Nat} (hi : i ≤ ks.length) (h1 : ∀ j, j < i → (!klt (ks.getD j default) key) = false) (h2 : ∀ j, i ≤ j → j < ks.length → (!klt (ks.getD j default) key) = true) : Plc key ks i := by
  refine ⟨hi, fun j x hj hx => ?_, fun j x hj hx => ?_⟩
  · have := h1 j hj
    rw [List.getD_eq_getElem?_getD, hx] at this
    simpa using this
  · have hl := (List.getElem?_eq_some_iff.1 hx).1
    have := h2 j hj hl
    rw [List.getD_eq_getElem?_getD, hx] at this
    simpa using this

set_option maxHeartbeats 1000000 in
/-- sort.SearchStrings of keys in order -/
theorem searchStrings (w : World) (v : Value) (ks : List ByteArray) (key : ByteArray) (hr : Row w 9 v (ks.map Value.string)) (hlen : ks.length ≤ 64) (hs : KSrt ks) :
    Calls Try.prog 88 #[v, .string key] w (PlcPost w key ks) := by
  obtain ⟨A, c, rfl, h1, h2, h⟩ := hr
  rw [List.length_map]
  obtain ⟨n, hn⟩ : ∃ n, n = ks.length := ⟨_, rfl⟩
  have hS : Calls Try.prog 103 #[.int .i64 n, .func (.func 104) #[] #[.pointer (some ⟨w.heap.size, 0, none⟩), .pointer (some ⟨w.heap.size + 1, 0, none⟩)]] ((w.alloc (.cells #[.slice A n c] 37)).alloc (.cells #[.string key] 9)) fun e w' => PlcPost w key ks e w' := by
    refine (search103 w.heap.size (w.heap.size + 1) n (fun i => !klt (ks.getD i default) key) _ (by omega) (fun a b hab hb ha => hs.mono key a b hab (by omega) ha) (fun q i hi => ?_)).mono ?_
    · rcases h with ⟨rfl, rfl⟩ | ⟨g, cur, rfl, hB, hcs, hxs⟩
      · rw [List.length_map] at h1; omega
      · have hc := ((hB.alloc (.cells #[.slice (some ⟨g, 0, none⟩) n c] 37)).alloc (.cells #[.string key] 9)).drewN q
        have hb1 := ((Blk.new w 37 #[.slice (some ⟨g, 0, none⟩) n c]).alloc (.cells #[.string key] 9)).drewN q
        have hb2 := (Blk.new (w.alloc (.cells #[.slice (some ⟨g, 0, none⟩) n c] 37)) 9 #[.string key]).drewN q
        rw [World.size_alloc] at hb2
        exact (closure104 _ _ g n c i (ks.getD i default) key _ hi ((hb1.cell 0).trans rfl) ((hb2.cell 0).trans rfl) ((hc.cell i).trans (hxs i _ (by rw [List.getElem?_map, List.getElem?_eq_getElem (by omega), getD_in (by omega)]; rfl)))).mono fun e w' ⟨he, q', hw⟩ => ⟨he, q + q', by rw [hw, World.drewN_drewN]⟩
    · rintro e w' ⟨i, ⟨rfl, hi, hh⟩, q, rfl⟩
      refine ⟨i, rfl, plc_of (by omega) hh.out.1 (fun j hj hl => hh.out.2 j hj (by omega)), ?_⟩
      exact below_drewN' (((Below.refl _ w).alloc (Nat.le_refl _) _).alloc (by simp) _) q
  rw [← hn]
  have HS := Lib.hid hS
  clear hS h h1 h2 hs hlen hn
  have h0 : w.heap.size + 0 = w.heap.size := rfl
  go_enter Try.func88, Try.ntmps88
  go_wp2_with (go_at_call 103; refine HS.out.mono ?_; rintro e w' ⟨i, rfl, hp, hb⟩)
  go_ret
  exact ⟨i, rfl, hp, hb⟩

/-- what find tells: the place of a key, and whether it is there -/
def FindPost (w : World) (key : ByteArray) (ks : List ByteArray) (e : Ending) (w' : World) : Prop :=
  ∃ i : Nat, e = .returned (.tuple #[.int .i64 i, .bool (decide (ks[i]? = some key))]) ∧ Plc key ks i ∧ Below w.heap.size w w'


end Go.Proofs.Ytcidmaeclonilaa
