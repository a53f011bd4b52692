/- law 23's ExecGroups. -/
import Derived.Test.YtbcmmecilheicaaSurA
import Derived.Test.YtbcmmecilheicaaRefW
import Derived.Test.YtbcmmecilheicaaInts
import Derived.Test.YtbcmmecilheicaaOwn
namespace Go.Proofs.Ytbcmmecilheicaa
open Go Go.RowKit

theorem flat_take (gs : List (List Nat)) {i : Nat} {g : List Nat} (h : gs[i]? = some g) : (gs.take (i + 1)).flatten.length = (gs.take i).flatten.length + g.length := by
  rw [List.take_add_one, h]
  simp
theorem flat_le (gs : List (List Nat)) (i : Nat) : (gs.take i).flatten.length ≤ gs.flatten.length := by
  have h : gs.flatten = (gs.take i).flatten ++ (gs.drop i).flatten := by rw [← List.flatten_append, List.take_append_drop]
  rw [h, List.length_append]; omega

set_option maxRecDepth 100000 in
set_option maxHeartbeats 8000000 in
theorem execGroups4 (w : World) (A : Option Addr) (n c0 : Nat) (rs : List (Int × List Val)) (hr : RowsAt w A n rs) (hn : n ≤ 9223372036854775807) (CA : Option Addr) (cn cc : Nat) (cols : List Int) (hc : IntsAt w CA cn cols) (hcn : cn ≤ 9223372036854775807) :
    Calls Try.prog 4 #[.slice A n c0, .slice CA cn cc] w fun e w' => e = .returned (.bool true) ∧ Hid (Below w.heap.size w w') := by
  have HR := Lib.hid hr
  have HC := Lib.hid hc
  have SU := Lib.hid sure10
  clear hr hc
  by_cases hbig : 300 < n
  · have hz : (300 : Int) < (n : Int) := by omega
    go_enter Try.func4, Try.ntmps4
    go_wp2_with fail
    refine (SU.out _).mono ?_
    rintro e w1 ⟨rfl, h1⟩
    go_wp2_with fail
    go_ret
    exact ⟨rfl, h1⟩
  have hz : ¬ (300 : Int) < (n : Int) := by omega
  by_cases hbig2 : 20 < cn
  · have hz2 : (20 : Int) < (cn : Int) := by omega
    go_enter Try.func4, Try.ntmps4
    go_wp2_with fail
    refine (SU.out _).mono ?_
    rintro e w1 ⟨rfl, h1⟩
    go_wp2_with fail
    go_ret
    exact ⟨rfl, h1⟩
  have hz2 : ¬ (20 : Int) < (cn : Int) := by omega
  have C12 := Lib.hid (own12 w A n c0 rs HR.out (by omega))
  have GI := Lib.hid (ginv_ref (key := keyOf rs cols) totK n)
  obtain ⟨G, hG⟩ : ∃ G, G = refGroups keyCmp (keyOf rs cols) n := ⟨_, rfl⟩
  rw [← hG] at GI
  have HG := Lib.hid hG
  have hflat := GI.out.length totK
  have HF := Lib.hid hflat
  unfold OwnPost at C12
  clear hG hflat
  go_enter Try.func4, Try.ntmps4
  go_wp2_with fail
  refine C12.out.mono ?_
  clear C12
  rintro e w1 ⟨A1, c1, rfl, hr1, hb1⟩
  have C11 := Lib.hid (groups11 w1 A1 n c1 rs hr1.out (by omega) CA cn cc cols (HC.out.below hb1.out) (by omega))
  unfold GroupsPost at C11
  rw [← HG.out] at C11
  go_wp2_with fail
  refine C11.out.mono ?_
  clear C11
  rintro e w2 ⟨A2, m, c2, vs, rfl, hm2, hb2⟩
  have B2 := Lib.hid (bt hb2.out hb1.out)
  have C13 := Lib.hid (refGroups13 w2 A n c0 rs (HR.out.below B2.out) (by omega) CA cn cc cols (HC.out.below B2.out) (by omega))
  unfold GroupsPost at C13
  rw [← HG.out] at C13
  go_wp2_with fail
  refine C13.out.mono ?_
  clear C13
  rintro e w3 ⟨A3, m3, c3, vs3, rfl, hm3, hb3⟩
  obtain rfl : m = m3 := hm2.out.len.1.symm.trans hm3.out.len.1
  have B3 := Lib.hid (bt hb3.out B2.out)
  have HM2 := Lib.hid (hm2.out.below hb3.out)
  have HM3 := hm3
  have HLM := Lib.hid hm2.out.len.1
  have hml : m ≤ n := by
    rw [← hm2.out.len.1, HG.out, ← (ginv_ref (key := keyOf rs cols) totK n).grp totK]
    exact grpF_le _ _ _ (Nat.le_of_eq ((ginv_ref (key := keyOf rs cols) totK n).length totK))
  have hme : ((m : Int) != (m : Int)) = false := by simp
  have hmi : (m : Int) < 301 := by omega
  clear hr1 hb1 hm2 hb2 hm3 hb3
  go_wp2_with fail
  go_loopg [7, 8] m (fun kx s7 s8 wr => ∃ i t : Nat, s7 = .int .i64 t ∧ s8 = .int .i64 i ∧ kx + i = m ∧ t ≤ n ∧ Hid (t = (G.take i).flatten.length) ∧ Hid (Below w3.heap.size w3 wr))
  case atStart => exact ⟨0, 0, rfl, rfl, by omega, by omega, Lib.hid rfl, Lib.hid (Below.refl _ _)⟩
  case round =>
    obtain ⟨i, t, rfl, rfl, hk, ht, HT, I⟩ := hrel
    have hi9 : (i : Int) < 302 := by omega
    have ht9 : (t : Int) < 301 := by omega
    have hi0 : (0 : Int) ≤ (i : Int) := by omega
    by_cases hi : i < m
    · have hiz : (i : Int) < (m : Int) := by omega
      obtain ⟨g, hg⟩ : ∃ g, G[i]? = some g := ⟨_, List.getElem?_eq_getElem (by rw [HLM.out]; exact hi)⟩
      obtain ⟨k2, Ai2, ci2, rfl, hk2, x2, y2⟩ := (HM2.out.below I.out).ints hg
      obtain ⟨k3, Ai3, ci3, rfl, hk3, x3, y3⟩ := (HM3.out.below I.out).ints hg
      have hgl : t + g.length ≤ n := by
        have h1 := flat_take G hg
        have h2 := flat_le G (i + 1)
        rw [HF.out] at h2
        have := HT.out
        omega
      have q2 : ∀ p : BelowW wr, p.w.cell? ⟨k2, i, none⟩ = some (.slice Ai2 g.length ci2) := fun p => (p.h.cell (p := ⟨k2, i, none⟩) hk2).trans x2
      have q3 : ∀ p : BelowW wr, p.w.cell? ⟨k3, i, none⟩ = some (.slice Ai3 g.length ci3) := fun p => (p.h.cell (p := ⟨k3, i, none⟩) hk3).trans x3
      have CC : Hid (∀ p : BelowW wr, Calls Try.prog 14 #[.slice Ai2 g.length ci2, .slice Ai3 g.length ci3] p.w fun e w' => e = .returned (.bool true) ∧ Hid (Below p.w.heap.size p.w w')) := Lib.hid (fun p => ints14 p.w _ _ _ _ _ _ (y2.below p.h) (y3.below p.h) (by omega))
      have X2 := Lib.hid x2
      have HGL := Lib.hid (And.intro hg hgl)
      obtain ⟨gl, hgl2⟩ : ∃ x, x = g.length := ⟨_, rfl⟩
      rw [← hgl2] at CC X2 hgl
      simp only [← hgl2] at q2 q3
      have HGE := Lib.hid hgl2
      have hgl9 : (gl : Int) < 301 := by omega
      have hgl0 : (0 : Int) ≤ (gl : Int) := by omega
      clear hg x2 x3 y2 y3 hgl2
      go_wp2_with fail
      refine wp_region_quiet_below (by kernel_rfl) (by kernel_rfl) ?_
      repeat (quiet_step ((go_at_call 14; refine calls_below _ (CC.out _))))
      refine wpQuiet_nil ?_
      intro wq hw'
      have hq : Below wr.heap.size wr wq := by obtain ⟨p, rfl⟩ := hw'; exact p.h
      have x2 := (hq.cell (p := ⟨k2, i, none⟩) hk2).trans X2.out
      have BB := Lib.hid (bt hq I.out)
      clear q2 q3 CC hw' hq
      have NT := Lib.hid (show t + gl = (G.take (i + 1)).flatten.length by rw [flat_take G HGL.out.1, ← HGE.out, ← HT.out])
      go_wp2_with fail
      go_roundg (gk - 1)
      case measure => omega
      case rel => exact ⟨i + 1, t + gl, by first | rfl | (simp; done), by first | rfl | (simp; done), by omega, by omega, NT, BB⟩
    · obtain rfl : i = m := by omega
      have hiz : ¬ (i : Int) < (i : Int) := by omega
      obtain rfl : t = n := by
        rw [HT.out, List.take_of_length_le (by rw [HLM.out]; exact Nat.le_refl _)]; exact HF.out
      have BB := Lib.hid (bt I.out B3.out)
      have hte : ((t : Int) == (t : Int)) = true := by simp
      clear HT I
      go_wp2_with fail
      refine (SU.out _).mono ?_
      rintro e w4 ⟨rfl, h4⟩
      go_wp2_with fail
      go_ret
      exact ⟨rfl, Lib.hid (bt h4.out BB.out)⟩

end Go.Proofs.Ytbcmmecilheicaa
