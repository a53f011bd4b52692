/- What the document's check of an expression stands on: in, Aggregate, fit. -/
import Derived.Test.YtbcmmecilheicaaGreatDoorPe9
namespace Go.Proofs.YtbcmmecilheicaaGreatDoor
open Go Go.RowKit

def inP (s : ByteArray) (l : List ByteArray) : Bool := l.any fun z => z.toList == s.toList
theorem inP_take {s : ByteArray} {l : List ByteArray} {i : Nat} {z : ByteArray} (h : l[i]? = some z) : inP s (l.take (i + 1)) = (inP s (l.take i) || (z.toList == s.toList)) := by
  unfold inP
  rw [List.take_add_one, h, List.any_append]
  simp
set_option maxRecDepth 100000 in
set_option maxHeartbeats 8000000 in
theorem in77 (w : World) (s : ByteArray) (A : Option Addr) (n c : Nat) (l : List ByteArray) (hl : StrsAt w A n l) (hn : n ≤ 1000) : Calls Tryz.prog 77 #[.string s, .slice A n c] w fun e w' => e = .returned (.bool (inP s l)) ∧ w' = w := by
  have HL := Lib.hid hl
  clear hl
  go_enter Tryz.func77, Tryz.ntmps77
  go_wp2_with fail
  go_loopg [5] n (fun kx s5 wr => ∃ i : Nat, s5 = .int .i64 i ∧ kx + i = n ∧ Hid (inP s (l.take i) = false) ∧ wr = w)
  case atStart => exact ⟨0, rfl, by omega, Lib.hid rfl, rfl⟩
  case round =>
    obtain ⟨i, rfl, hki, HI, rfl⟩ := hrel
    have hi9 : (i : Int) ≤ 1000 := by omega
    have hi0 : (0 : Int) ≤ (i : Int) := by omega
    by_cases hi : i < n
    · have hiz : (i : Int) < (n : Int) := by omega
      obtain ⟨z, hz⟩ : ∃ z, l[i]? = some z := ⟨_, List.getElem?_eq_getElem (by rw [HL.out.len]; exact hi)⟩
      obtain ⟨b, off, rfl, hb, x0⟩ := HL.out.at_ i z hz
      obtain ⟨q, hq⟩ : ∃ q, (z.toList == s.toList) = q := ⟨_, rfl⟩
      have HT := Lib.hid (inP_take (s := s) hz)
      rw [HI.out, hq, Bool.false_or] at HT
      have HZ := Lib.hid (And.intro hz hq)
      clear hz
      cases q with
      | true =>
        have R := Lib.hid (show inP s l = true from List.any_eq_true.2 ⟨z, List.mem_of_getElem? HZ.out.1, HZ.out.2⟩)
        clear HT HZ
        go_wp2_with fail
        go_ret
        exact ⟨by rw [R.out]; rfl, rfl⟩
      | false =>
        clear HZ
        go_wp2_with fail
        go_roundg (gk - 1)
        case measure => omega
        case rel => exact ⟨i + 1, by first | rfl | (simp; done), by omega, HT, rfl⟩
    · have hiz : ¬ (i : Int) < (n : Int) := by omega
      have R := Lib.hid (show inP s l = false by
        have := HI.out
        rw [List.take_of_length_le (by rw [HL.out.len]; omega)] at this
        exact this)
      go_wp2_with fail
      go_ret
      exact ⟨by rw [R.out]; rfl, rfl⟩
def aggsR : List ByteArray := [⟨#[114, 111, 119, 115]⟩, ⟨#[99, 111, 117, 110, 116]⟩, ⟨#[115, 117, 109]⟩, ⟨#[109, 105, 110]⟩, ⟨#[109, 97, 120]⟩]
set_option maxRecDepth 100000 in
set_option maxHeartbeats 4000000 in
theorem aggregate76 (w : World) (s : ByteArray) : Calls Tryz.prog 76 #[.string s] w fun e w' => e = .returned (.bool (inP s aggsR)) ∧ Hid (Below w.heap.size w w') := by
  have C := Lib.hid (in77 (w.alloc (.cells (aggsR.map Value.string).toArray 9)) s (some ⟨w.heap.size, 0, none⟩) 5 5 aggsR (strs_at aggsR (Blk.new w 9 _)) (by omega))
  go_enter Tryz.func76, Tryz.ntmps76
  go_wp2_with fail
  refine C.out.mono ?_
  rintro e w1 ⟨rfl, rfl⟩
  go_wp2_with fail
  go_ret
  exact ⟨rfl, Lib.hid (below_alloc _ _)⟩
def fitP (a b : Int) : Bool := a == 0 || (b == 0 || a == b)
set_option maxRecDepth 100000 in
theorem fit62 (w : World) (a b : Int) : Calls Tryz.prog 62 #[.int .i64 a, .int .i64 b] w fun e w' => e = .returned (.bool (fitP a b)) ∧ w' = w := by
  obtain ⟨p, hp⟩ : ∃ p, (a == 0) = p := ⟨_, rfl⟩
  obtain ⟨q, hq⟩ : ∃ q, (b == 0) = q := ⟨_, rfl⟩
  obtain ⟨r, hr⟩ : ∃ r, (a == b) = r := ⟨_, rfl⟩
  have HE := Lib.hid (show fitP a b = (p || (q || r)) by rw [fitP, hp, hq, hr])
  cases p <;> cases q <;> cases r
  all_goals
    go_enter Tryz.func62, Tryz.ntmps62
    go_wp2_with fail
    go_ret
    exact ⟨by rw [HE.out]; rfl, rfl⟩

end Go.Proofs.YtbcmmecilheicaaGreatDoor
