/- slices.stableCmpFunc, SortStableFunc, at exec.part. -/
import Derived.Test.YtbcmmecilheicaaSrtEP
namespace Go.Proofs.Ytbcmmecilheicaa
open Go Go.RowKit

theorem re_ltP {a b n : Nat} {F G : Nat → Nat} (hb : b ≤ n) (hF : ∀ k, k < n → F k < n) (hr : Re a b F G) : ∀ k, k < n → G k < n := fun k hk => by
  by_cases c : a ≤ k ∧ k < b
  · obtain ⟨l, h5, h6, e5⟩ := hr.2 k c.1 c.2
    rw [e5]; exact hF l (by omega)
  · rw [hr.1 k (by omega)]; exact hF k hk

set_option maxRecDepth 100000 in
set_option maxHeartbeats 32000000 in
/-- slices.stableCmpFunc: behind it each rank lies in its own place -/
theorem stable46 (rv : Value) (w0 : World) (g cap n : Nat) (el : Nat → ElP) (o : Nat → Nat) (cf : Nat → Nat → Int) (HC : CmpP rv w0 g n el o cf) (hn : n ≤ 1000000) (f : Nat → Nat) (hf : ∀ k, k < n → f k < n) (W : World) (hW : SW w0 g 85 3 cap n (encP el) f W) (ho : ∀ k, k < n → o (f k) = k) :
    Calls Try.prog 46 #[.slice (some ⟨g, 0, none⟩) n cap, .int .i64 n, .func (.func 32) #[rv] #[]] W fun e w' => e = .returned (.tuple #[]) ∧ Hid (∃ F, SW w0 g 85 3 cap n (encP el) F w' ∧ ∀ k, k < n → F k = k) := by
  have HC := Lib.hid HC
  have HO := Lib.hid ho
  have HW := Lib.hid (And.intro hW (And.intro (First.zero (f0 := f) (bs := 20) ho) hf))
  have hn9 : (n : Int) < 1000001 := by omega
  clear hf hW ho
  go_enter Try.func46, Try.ntmps46
  go_wp2_with fail
  go_loopg [7, 8] n (fun kx s7 s8 wr => ∃ A B : Nat, s7 = .int .i64 A ∧ s8 = .int .i64 B ∧ B = A + 20 ∧ A ≤ n ∧ n ≤ kx + A ∧ Hid (∃ t F, A = t * 20 ∧ SW w0 g 85 3 cap n (encP el) F wr ∧ First o f F n 20 A ∧ ∀ k, k < n → F k < n))
  case atStart => exact ⟨0, 20, rfl, rfl, rfl, Nat.zero_le _, by omega, Lib.hid ⟨0, f, rfl, HW.out⟩⟩
  case round =>
    clear HW
    obtain ⟨A, B, rfl, rfl, hB, hA, hk, I⟩ := hrel
    obtain ⟨t, F, i1, i2, i3, i4⟩ := I.out
    clear I
    have hA9 : (A : Int) < 1000001 := by omega
    have hB9 : (B : Int) < 1000021 := by omega
    have hoo : ∀ b, b ≤ n → ∀ i j, A ≤ i → i < j → j < b → o (F i) < o (F j) := fun b hb i j h1 h2 h3 => by
      rw [i3.rest i h1, i3.rest j (by omega), HO.out i (by omega), HO.out j (by omega)]; exact h2
    by_cases c : B ≤ n
    · have cz : (B : Int) ≤ (n : Int) := by omega
      have RC := Lib.hid (insertion66 rv w0 g cap n el o cf HC.out F i4 _ i2 A B (by omega) c hn (hoo B c))
      have III := Lib.hid (And.intro i1 (And.intro i3 (And.intro i4 hB)))
      clear i1 i2 i3 i4 hoo hB
      go_wp2_with fail
      refine RC.out.mono ?_
      rintro ev w2 ⟨rfl, h5⟩
      have NX := Lib.hid (show ∃ t F, B = t * 20 ∧ SW w0 g 85 3 cap n (encP el) F w2 ∧ First o f F n 20 B ∧ ∀ k, k < n → F k < n by
        obtain ⟨G, k1, k2, k3⟩ := h5.out
        obtain ⟨i1, i3, i4, hB⟩ := III.out
        rw [hB, i1] at k2 k3
        rw [i1] at i3
        have := i3.step (by omega) (.inl ⟨rfl, by omega⟩) k2 k3
        exact ⟨t + 1, G, by rw [hB, i1]; omega, k1, by rw [hB, i1]; exact this, re_ltP (by omega) i4 k2⟩)
      have HBB := Lib.hid III.out.2.2.2
      clear h5 III
      go_wp2_with fail
      go_roundg (n - B)
      case measure => have := HBB.out; omega
      case rel => exact ⟨B, B + 20, by first | rfl | (simp; done), by first | rfl | (simp; done), rfl, c, by omega, NX⟩
    · have cz : (n : Int) < (B : Int) := by omega
      have czd : decide ((B : Int) ≤ (n : Int)) = false := decide_eq_false (by omega)
      have RC := Lib.hid (insertion66 rv w0 g cap n el o cf HC.out F i4 _ i2 A n hA (Nat.le_refl _) hn (hoo n (Nat.le_refl _)))
      have III := Lib.hid (And.intro i1 (And.intro i3 (And.intro i4 hB)))
      clear i1 i2 i3 i4 hoo hB
      go_wp2_with fail
      refine RC.out.mono ?_
      rintro ev w2 ⟨rfl, h5⟩
      have NX := Lib.hid (show ∃ F, SW w0 g 85 3 cap n (encP el) F w2 ∧ Runs o F n 20 ∧ ∀ k, k < n → F k < n by
        obtain ⟨G, k1, k2, k3⟩ := h5.out
        obtain ⟨i1, i3, i4, hB⟩ := III.out
        rw [i1] at k2 k3 i3
        have := i3.step (by omega) (.inr ⟨rfl, by omega⟩) k2 k3
        exact ⟨G, k1, this.runs (by omega), re_ltP (Nat.le_refl _) i4 k2⟩)
      clear h5 III hA hk hA9 hB9 c cz czd RC
      go_wp2_with fail
      go_loopg [6] n (fun kx s6 wr => ∃ bs : Nat, s6 = .int .i64 bs ∧ 0 < bs ∧ bs ≤ 2000020 ∧ n ≤ kx + bs ∧ Hid (∃ F, SW w0 g 85 3 cap n (encP el) F wr ∧ Runs o F n bs ∧ ∀ k, k < n → F k < n))
      case atStart => exact ⟨20, rfl, by omega, by omega, by omega, NX⟩
      case round =>
        clear NX
        obtain ⟨bs, rfl, hb0, hb9, hk, I⟩ := hrel
        have hb8 : (bs : Int) < 2000021 := by omega
        by_cases c : bs < n
        · have cz : (bs : Int) < (n : Int) := by omega
          obtain ⟨bb, hbb⟩ : ∃ bb, 2 * bs = bb := ⟨_, rfl⟩
          have e1 : (2 : Int) * (bs : Int) = (bb : Int) := by omega
          have e2 : (bs : Int) * 2 = (bb : Int) := by omega
          have hbb9 : (bb : Int) < 2000001 := by omega
          obtain ⟨ko, hko⟩ : ∃ ko, ko = gk := ⟨_, rfl⟩
          go_wp2_with fail
          go_loopg [7, 8] n (fun kx s7 s8 wr => ∃ A B : Nat, s7 = .int .i64 A ∧ s8 = .int .i64 B ∧ B = A + bb ∧ A ≤ n ∧ n ≤ kx + A ∧ Hid (∃ t F, A = t * (2 * bs) ∧ SW w0 g 85 3 cap n (encP el) F wr ∧ RunsM o F n bs t ∧ ∀ k, k < n → F k < n))
          case atStart => exact ⟨0, bb, rfl, rfl, by omega, Nat.zero_le _, by omega, Lib.hid (by obtain ⟨F, i1, i2, i3⟩ := I.out; exact ⟨0, F, by omega, i1, i2.begin, i3⟩)⟩
          case round =>
            clear I
            obtain ⟨A, B, rfl, rfl, hB, hA, hk2, I⟩ := hrel
            obtain ⟨t, F, i1, i2, i3, i4⟩ := I.out
            clear I
            have hA9 : (A : Int) < 1000001 := by omega
            have hB9 : (B : Int) < 3000001 := by omega
            obtain ⟨M, hM⟩ : ∃ M, A + bs = M := ⟨_, rfl⟩
            have eM : (A : Int) + (bs : Int) = (M : Int) := by omega
            have hM9 : (M : Int) < 2000001 := by omega
            by_cases c2 : B ≤ n
            · have cz2 : (B : Int) ≤ (n : Int) := by omega
              have hpre := i3.pre (b := B) hb0 (by rw [← i1]; omega) (by rw [← i1]; omega) c2
              rw [← i1, hM] at hpre
              have RC0 := sym67 (B - A) rv w0 g cap n el o cf HC.out hn F i4 _ i2 A M B (by omega) (by omega) c2 hpre.1 hpre.2.1 hpre.2.2 (Nat.le_refl _)
              unfold MergePostP at RC0
              have RC := Lib.hid RC0
              have III := Lib.hid (And.intro i1 (And.intro i3 (And.intro i4 (And.intro hB hbb))))
              obtain ⟨B2, hB2⟩ : ∃ B2, B + bb = B2 := ⟨_, rfl⟩
              have e5 : (B : Int) + (bb : Int) = (B2 : Int) := by omega
              have hB29 : (B2 : Int) < 5000001 := by omega
              have HB2 := Lib.hid hB2.symm
              have hms := Lib.hid (show n - B < gk by omega)
              clear i1 i2 i3 i4 hpre RC0 hB hM hbb hB2
              go_wp2_with fail
              refine RC.out.mono ?_
              rintro ev w3 ⟨rfl, h5⟩
              have NX := Lib.hid (show ∃ t F, B = t * (2 * bs) ∧ SW w0 g 85 3 cap n (encP el) F w3 ∧ RunsM o F n bs t ∧ ∀ k, k < n → F k < n by
                obtain ⟨G, k1, k2, k3⟩ := h5.out
                obtain ⟨i1, i3, i4, hB, hbb⟩ := III.out
                have e6 : B = (t + 1) * (2 * bs) := by rw [Nat.add_mul, Nat.one_mul, ← i1, hbb]; exact hB
                have e7 : B = t * (2 * bs) + 2 * bs := by rw [← i1, hbb]; exact hB
                have k4 := k2
                rw [i1] at k2 k3
                exact ⟨t + 1, G, e6, k1, i3.step hb0 (.inl ⟨e7, c2⟩) k2 k3, re_ltP c2 i4 k4⟩)
              clear h5 III
              go_wp2_with fail
              go_roundg (n - B)
              case measure => exact hms.out
              case rel => exact ⟨B, B2, by first | rfl | (simp; done), by first | rfl | (simp; done), HB2.out, c2, by omega, NX⟩
            · have cz2 : (n : Int) < (B : Int) := by omega
              have czd : decide ((B : Int) ≤ (n : Int)) = false := decide_eq_false (by omega)
              have hms := Lib.hid (show n - bb < ko by omega)
              by_cases c3 : M < n
              · have cz3 : (M : Int) < (n : Int) := by omega
                have hpre := i3.pre (b := n) hb0 (by rw [← i1]; omega) (by rw [← i1]; omega) (Nat.le_refl _)
                rw [← i1, hM] at hpre
                have RC0 := sym67 (n - A) rv w0 g cap n el o cf HC.out hn F i4 _ i2 A M n (by omega) c3 (Nat.le_refl _) hpre.1 hpre.2.1 hpre.2.2 (Nat.le_refl _)
                unfold MergePostP at RC0
                have RC := Lib.hid RC0
                have III := Lib.hid (And.intro i1 (And.intro i3 (And.intro i4 (And.intro hB (And.intro hbb c2)))))
                clear i1 i2 i3 i4 hpre RC0 hB hM hbb
                go_wp2_with fail
                refine RC.out.mono ?_
                rintro ev w3 ⟨rfl, h5⟩
                have NX := Lib.hid (show ∃ F, SW w0 g 85 3 cap n (encP el) F w3 ∧ Runs o F n bb ∧ ∀ k, k < n → F k < n by
                  obtain ⟨G, k1, k2, k3⟩ := h5.out
                  obtain ⟨i1, i3, i4, hB, hbb, c2⟩ := III.out
                  have k4 := k2
                  rw [i1] at k2 k3
                  have e8 : n < t * (2 * bs) + 2 * bs := by rw [← i1, hbb]; omega
                  have := i3.step hb0 (.inr ⟨rfl, e8⟩) k2 k3
                  exact ⟨G, k1, hbb ▸ this.all hb0 (by rw [Nat.add_mul, Nat.one_mul]; omega), re_ltP (Nat.le_refl _) i4 k4⟩)
                have hb := Lib.hid (show 0 < bb ∧ bb ≤ 2000020 by have := III.out.2.2.2.2.1; omega)
                clear h5 III
                go_wp2_with fail
                go_roundg (n - bb)
                case measure => have := hms.out; omega
                case rel => exact ⟨bb, by first | rfl | (simp; done), hb.out.1, hb.out.2, by omega, NX⟩
              · have cz3 : ¬ (M : Int) < (n : Int) := by omega
                have NX := Lib.hid (show ∃ F, SW w0 g 85 3 cap n (encP el) F wr ∧ Runs o F n bb ∧ ∀ k, k < n → F k < n from
                  ⟨F, i2, hbb ▸ i3.end_ hb0 (by rw [← i1]; omega), i4⟩)
                have hb := Lib.hid (show 0 < bb ∧ bb ≤ 2000020 by omega)
                clear i1 i2 i3 i4 hB hM hbb
                go_wp2_with fail
                go_roundg (n - bb)
                case measure => have := hms.out; omega
                case rel => exact ⟨bb, by first | rfl | (simp; done), hb.out.1, hb.out.2, by omega, NX⟩
        · have cz : ¬ (bs : Int) < (n : Int) := by omega
          have NX := Lib.hid (show ∃ F, SW w0 g 85 3 cap n (encP el) F wr ∧ ∀ k, k < n → F k = k by
            obtain ⟨F, i1, i2, i3⟩ := I.out
            exact ⟨F, i1, sor_id (i2.whole (by omega)) i3⟩)
          clear I
          go_wp2_with fail
          go_end0
          exact ⟨rfl, NX⟩

set_option maxRecDepth 100000 in
set_option maxHeartbeats 4000000 in
/-- slices.SortStableFunc -/
theorem sortStable31 (rv : Value) (w0 : World) (g cap n : Nat) (el : Nat → ElP) (o : Nat → Nat) (cf : Nat → Nat → Int) (HC : CmpP rv w0 g n el o cf) (hn : n ≤ 1000000) (f : Nat → Nat) (hf : ∀ k, k < n → f k < n) (W : World) (hW : SW w0 g 85 3 cap n (encP el) f W) (ho : ∀ k, k < n → o (f k) = k) :
    Calls Try.prog 31 #[.slice (some ⟨g, 0, none⟩) n cap, .func (.func 32) #[rv] #[]] W fun e w' => e = .returned (.tuple #[]) ∧ Hid (∃ F, SW w0 g 85 3 cap n (encP el) F w' ∧ ∀ k, k < n → F k = k) := by
  have RC := Lib.hid (stable46 rv w0 g cap n el o cf HC hn f hf W hW ho)
  clear hf hW ho
  go_enter Try.func31, Try.ntmps31
  go_wp2_with fail
  refine RC.out.mono ?_
  rintro ev w2 ⟨rfl, h5⟩
  go_wp2_with fail
  go_end0
  exact ⟨rfl, h5⟩

set_option maxRecDepth 100000 in
set_option maxHeartbeats 4000000 in
/-- of none -/
theorem sortStable31_nil (rv : Value) (W : World) : Calls Try.prog 31 #[.slice none 0 0, .func (.func 32) #[rv] #[]] W fun e w' => e = .returned (.tuple #[]) ∧ W = w' := by
  have h1 : Calls Try.prog 66 #[.slice none 0 0, .int .i64 0, .int .i64 0, .func (.func 32) #[rv] #[]] W fun e w' => e = .returned (.tuple #[]) ∧ W = w' := by
    go_enter Try.func66, Try.ntmps66
    go_wp2_with fail
    refine wp_loop_rounds 1 ?_
    rw [rounds_succ]
    go_wp2_with fail
    go_end0
    exact ⟨rfl, rfl⟩
  have H1 := Lib.hid h1
  clear h1
  have h2 : Calls Try.prog 46 #[.slice none 0 0, .int .i64 0, .func (.func 32) #[rv] #[]] W fun e w' => e = .returned (.tuple #[]) ∧ W = w' := by
    go_enter Try.func46, Try.ntmps46
    go_wp2_with fail
    refine wp_loop_rounds 1 ?_
    rw [rounds_succ]
    go_wp2_with fail
    refine H1.out.mono ?_
    rintro ev w2 ⟨rfl, rfl⟩
    go_wp2_with fail
    refine wp_loop_rounds 1 ?_
    rw [rounds_succ]
    go_wp2_with fail
    go_end0
    exact ⟨rfl, rfl⟩
  have H2 := Lib.hid h2
  clear h2
  go_enter Try.func31, Try.ntmps31
  go_wp2_with fail
  refine H2.out.mono ?_
  rintro ev w2 ⟨rfl, rfl⟩
  go_wp2_with fail
  go_end0
  exact ⟨rfl, rfl⟩

end Go.Proofs.Ytbcmmecilheicaa
