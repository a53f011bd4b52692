/- law 23's ints. -/
import Derived.Test.YtbcmmecilheicaaMat
namespace Go.Proofs.Ytbcmmecilheicaa
open Go Go.RowKit

set_option maxRecDepth 100000 in
set_option maxHeartbeats 4000000 in
theorem ints14 (w : World) (A : Option Addr) (n c : Nat) (B : Option Addr) (d : Nat) (l : List Int) (hx : IntsAt w A n l) (hy : IntsAt w B n l) (hn : n ≤ 1000001) :
    Calls Try.prog 14 #[.slice A n c, .slice B n d] w fun e w' => e = .returned (.bool true) ∧ Hid (Below w.heap.size w w') := by
  have HX := Lib.hid hx
  have HY := Lib.hid hy
  clear hx hy
  go_enter Try.func14, Try.ntmps14
  go_wp2_with fail
  go_loopg [5] n (fun kx s5 wr => ∃ i : Nat, s5 = .int .i64 i ∧ kx + i = n ∧ Hid (Below w.heap.size w wr))
  case atStart => exact ⟨0, rfl, rfl, Lib.hid (Below.refl _ _)⟩
  case round =>
    obtain ⟨i, rfl, hk, I⟩ := hrel
    have hi9 : (i : Int) < 1000002 := by omega
    by_cases hi : i < n
    · have hiz : (i : Int) < (n : Int) := by omega
      have hi0 : (0 : Int) ≤ (i : Int) := by omega
      obtain ⟨z, hz⟩ : ∃ z, l[i]? = some z := ⟨_, List.getElem?_eq_getElem (by rw [HX.out.len]; exact hi)⟩
      obtain ⟨b, off, rfl, hb, c0⟩ := (HX.out.below I.out).at_ i z hz
      obtain ⟨b2, off2, rfl, hb2, d0⟩ := (HY.out.below I.out).at_ i z hz
      have BB := Lib.hid I.out
      clear hz I
      go_wp2_with fail
      go_quiet (fail)
      go_wp2_with fail
      go_roundg (gk - 1)
      case measure => omega
      case rel => exact ⟨i + 1, by first | rfl | (simp; done), by omega, Lib.hid (bt (below_drewN _ _) BB.out)⟩
    · have hiz : ¬ (i : Int) < (n : Int) := by omega
      go_wp2_with fail
      go_ret
      exact ⟨rfl, I⟩
/-- an inner row, as it is read -/
theorem Mat.ints {W : World} {B : Nat} {A : Option Addr} {n c : Nat} {vs : List Value} {gs : List (List Nat)} (h : Mat W B A n c vs gs) {i : Nat} {g : List Nat} (hg : gs[i]? = some g) :
    ∃ k Ai ci, A = some ⟨k, 0, none⟩ ∧ k < W.heap.size ∧ W.cell? ⟨k, i, none⟩ = some (.slice Ai g.length ci) ∧ IntsAt W Ai g.length (g.map fun (x : Nat) => (x : Int)) := by
  obtain ⟨u, hu⟩ : ∃ u, vs[i]? = some u := ⟨_, List.getElem?_eq_getElem (by rw [h.inn.len]; exact (List.getElem?_eq_some_iff.1 hg).1)⟩
  obtain ⟨hr, -⟩ := h.inn.row i u g hu hg
  obtain ⟨Ai, ci, rfl⟩ := own_slice hr
  obtain ⟨k, e, hk, -, hc, -⟩ := own_at h.outer hu
  refine ⟨k, Ai, ci, e, hk, hc, by simp, fun j z hj => ?_⟩
  rw [List.getElem?_map] at hj
  obtain ⟨x, hx, rfl⟩ := Option.map_eq_some_iff.1 hj
  have hv : (intsV g)[j]? = some (.int .i64 x) := by simp [intsV, hx]
  obtain ⟨b, e2, hb, -, hc2, -⟩ := own_at hr hv
  exact ⟨b, 0, e2, hb, by rw [Nat.zero_add]; exact hc2⟩

end Go.Proofs.Ytbcmmecilheicaa
