/- law13.grown: a tree of keys, and the same as a list. -/
import Derived.Test.YtcidmaeclonilaaRefM
import Derived.Test.YtcidmaeclonilaaTreeSame
namespace Go.Proofs.Ytcidmaeclonilaa
open Go Go.RowKit

theorem look_str' {l : List KV} (hv : ∀ p ∈ l, StrV p.2) (key : ByteArray) : ∃ zs, (look key l).getD (Value.string ⟨#[]⟩) = .string zs := by
  cases h : look key l with
  | none => exact ⟨_, rfl⟩
  | some v =>
    unfold look at h
    obtain ⟨p, hp, rfl⟩ := Option.map_eq_some_iff.1 h
    obtain ⟨s, hs⟩ := hv p (List.mem_of_find?_eq_some hp)
    exact ⟨s, hs⟩

set_option maxRecDepth 100000 in
set_option maxHeartbeats 8000000 in
theorem grown38 (w : World) (A : Option Addr) (n c : Nat) (zs : List ByteArray) (hA : ArgS w A n zs) (hz : ∀ z ∈ zs, z.size ≤ 140737488355328) :
    Calls Try.prog 38 #[.slice A n c] w fun e w' => ∃ (a : Nat) (B : Option Addr) (d : Nat) (l : List KV), e = .returned (.tuple #[.pointer (some ⟨a, 0, none⟩), .slice B l.length d]) ∧ Hid (TL w w' a l B l.length d l [] ∧ l.length ≤ 200) := by
  have hnew := Lib.hid (new_ownS w)
  have HA := Lib.hid hA
  have HZ := Lib.hid hz
  clear hA hz
  go_enter Try.func38, Try.ntmps38
  go_wp2_with fail
  refine hnew.out.mono ?_
  rintro e w1 ⟨a, rfl, h1⟩
  clear hnew
  have T0 := Lib.hid (TL.start h1.out)
  clear h1
  go_wp2_with fail
  go_loopg [5, 6] n (fun kx s5 s6 wr => ∃ (i : Nat) (l : List KV) (B : Option Addr) (d : Nat), s5 = .slice B l.length d ∧ s6 = .int .i64 i ∧ kx + i = n ∧ i ≤ 200 ∧ Hid (TL w wr a l B l.length d l [] ∧ l.length ≤ i))
  case atStart => exact ⟨0, [], none, 0, rfl, rfl, rfl, by omega, Lib.hid ⟨T0.out, Nat.le_refl _⟩⟩
  case round =>
    obtain ⟨i, l, B, d, rfl, rfl, hk, hi3, I⟩ := hrel
    clear T0
    by_cases hi : i < n ∧ i < 200
    · obtain ⟨hi1, hi20⟩ := hi
      have hiz : (i : Int) < (n : Int) := by omega
      have hi2z : (i : Int) < 200 := by omega
      obtain ⟨z, hzi⟩ : ∃ z, zs[i]? = some z := ⟨_, List.getElem?_eq_getElem (by rw [HA.out.len]; exact hi1)⟩
      obtain ⟨ba, off, rfl, hb, hcell⟩ := HA.out.at_ i z hzi
      have d0 : wr.cell? ⟨ba, off + i, none⟩ = some (.string z) := (I.out.1.world.cell (p := ⟨ba, off + i, none⟩) hb).trans hcell
      have hzs : ¬ (9223372036854775807 < z.size + 1) := by have := HZ.out z (List.mem_of_getElem? hzi); omega
      have hc := put_tl (I.out.1.below (below_drew1 wr)) z (z ++ ⟨#[118]⟩) (by have := I.out.2; omega)
      have hrc := Lib.hid (fun (w3 : World) (l4 : List KV) (T : TL w w3 a l4 B l.length d l []) => rput_tl (T.below (below_drew1 w3)) (by have := I.out.2; omega) I.out.1.tree.srt I.out.1.tree.isV z (z ++ ⟨#[118]⟩))
      obtain ⟨zv, hzv⟩ := look_str' I.out.1.tree.isV z
      rw [hzv] at hc
      have HV := Lib.hid hzv
      have HC := Lib.hid hc
      have HX := Lib.hid (And.intro hb hcell)
      have HL := Lib.hid (show (ins z (Value.string (z ++ ⟨#[118]⟩)) l).length ≤ i + 1 by have := ins_len_le' (k := z) (v := Value.string (z ++ ⟨#[118]⟩)) I.out.1.tree.srt; have := I.out.2; omega)
      clear hc hcell hb hzi I hzv
      go_wp2_with fail
      go_region_held3 (fun w' : World => w'.cell? ⟨ba, off + i, none⟩ = some (.string z)) (first | exact d0 | assumption)
        ((go_at_call 26; refine HC.out.mono ?_; rintro e w3 ⟨rfl, h3⟩; have d3 : w3.cell? ⟨ba, off + i, none⟩ = some (.string z) := (h3.out.1.world.cell (p := ⟨ba, off + i, none⟩) HX.out.1).trans HX.out.2))
      have HR := Lib.hid (hrc.out _ _ h3.out.1)
      clear HC d0 hrc
      go_wp2_with fail
      go_region_held3 (fun w' : World => w'.cell? ⟨ba, off + i, none⟩ = some (.string z)) (first | exact d3 | assumption)
        ((go_at_call 46; refine HR.out.mono ?_; rintro e w4 ⟨B4, m4, q4, rfl, h4⟩; have d4 : w4.cell? ⟨ba, off + i, none⟩ = some (.string z) := (h4.out.1.world.cell (p := ⟨ba, off + i, none⟩) HX.out.1).trans HX.out.2))
      obtain rfl : (ins z (Value.string (z ++ ⟨#[118]⟩)) l).length = m4 := h4.out.1.list.len
      have T4 := Lib.hid h4.out.1
      clear h4 h3 HR
      go_wp2_with fail
      go_roundg (gk - 1)
      case measure => omega
      case rel => exact ⟨i + 1, _, B4, q4, rfl, rfl, by omega, by omega, Lib.hid ⟨T4.out, HL.out⟩⟩
    · have hor : ¬ ((i : Int) < (n : Int)) ∨ ((i : Int) < (n : Int) ∧ ¬ ((i : Int) < 200)) := by omega
      have F := Lib.hid (And.intro I.out.1 (Nat.le_trans I.out.2 hi3))
      clear I hi hk
      rcases hor with hiz | ⟨hiz, hi3z⟩
      all_goals
        go_wp2_with fail
        go_ret2
        exact ⟨a, B, d, l, rfl, F⟩

end Go.Proofs.Ytcidmaeclonilaa
