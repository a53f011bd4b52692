/- A table's columns; the place of one. -/
import Derived.Test.YtbcmmecilheicaaGreatDoorOf1
namespace Go.Proofs.YtbcmmecilheicaaGreatDoor
open Go Go.RowKit

/-- a column -/
structure Col where
  name : ByteArray
  kind : Int
  key : Bool
  null : Bool
/-- columns, as they are read -/
structure ColsAt (W : World) (A : Option Addr) (n : Nat) (l : List Col) : Prop where
  len : l.length = n
  at_ : ∀ (j : Nat) (e : Col), l[j]? = some e → ∃ b off, A = some ⟨b, off, none⟩ ∧ b < W.heap.size ∧ W.cell? ⟨b, off + j * 4, none⟩ = some (.string e.name) ∧ W.cell? ⟨b, off + j * 4 + 1, none⟩ = some (.int .i64 e.kind) ∧ W.cell? ⟨b, off + j * 4 + 2, none⟩ = some (.bool e.key) ∧ W.cell? ⟨b, off + j * 4 + 3, none⟩ = some (.bool e.null)
theorem ColsAt.below {W W' : World} {A : Option Addr} {n : Nat} {l : List Col} (h : ColsAt W A n l) (hW : Below W.heap.size W W') : ColsAt W' A n l :=
  ⟨h.len, fun j e hj => by
    obtain ⟨b, off, e1, hb, c0, c1, c2, c3⟩ := h.at_ j e hj
    exact ⟨b, off, e1, Nat.lt_of_lt_of_le hb hW.size, (hW.cell (p := ⟨b, off + j * 4, none⟩) hb).trans c0, (hW.cell (p := ⟨b, off + j * 4 + 1, none⟩) hb).trans c1, (hW.cell (p := ⟨b, off + j * 4 + 2, none⟩) hb).trans c2, (hW.cell (p := ⟨b, off + j * 4 + 3, none⟩) hb).trans c3⟩⟩
/-- a column's place, or an error -/
def ColumnPost (n : Nat) (w : World) (e : Ending) (w' : World) : Prop := ∃ (i : Nat) (er : Int), e = .returned (.tuple #[.int .i64 i, .int .i64 er]) ∧ Hid (er = 0 → i < n) ∧ Hid (er = 0 ∨ er = 30) ∧ Hid (Below w.heap.size w w')
set_option maxRecDepth 100000 in
set_option maxHeartbeats 8000000 in
theorem column51 (w : World) (tn : ByteArray) (A : Option Addr) (n c : Nat) (cols : List Col) (hc : ColsAt w A n cols) (hn : n ≤ 1466015503701) (s : ByteArray) : Calls Tryz.prog 51 #[.agg #[.string tn, .slice A n c], .string s] w (ColumnPost n w) := by
  obtain ⟨w1, hw1⟩ : ∃ z, z = w.alloc (.cells #[.string tn, .slice A n c] 24) := ⟨_, rfl⟩
  have B1 := Lib.hid (show Below w.heap.size w w1 by rw [hw1]; exact below_alloc _ _)
  have Z1 := Lib.hid (show Blk w1 w.heap.size 24 #[.string tn, .slice A n c] by rw [hw1]; exact Blk.new w 24 _)
  have HC := Lib.hid (hc.below B1.out)
  have z1 := Z1.out.cell 1
  have hl := Z1.out.lt
  clear hc
  go_enter Tryz.func51, Tryz.ntmps51
  go_upto_region 1 with fail
  rw [← hw1]
  clear hw1
  go_wp2_with fail
  go_loopg [6] n (fun kx s6 wr => ∃ i : Nat, s6 = .int .i64 i ∧ kx + i = n ∧ wr = w1)
  case atStart => exact ⟨0, rfl, by omega, rfl⟩
  case round =>
    obtain ⟨i, rfl, hki, rfl⟩ := hrel
    have hi9 : (i : Int) ≤ 1466015503701 := by omega
    have hi0 : (0 : Int) ≤ (i : Int) := by omega
    by_cases hi : i < n
    · have hiz : (i : Int) < (n : Int) := by omega
      obtain ⟨z, hz⟩ : ∃ z, cols[i]? = some z := ⟨_, List.getElem?_eq_getElem (by rw [HC.out.len]; exact hi)⟩
      obtain ⟨b, off, rfl, hb, x0, -⟩ := HC.out.at_ i z hz
      obtain ⟨q, hq⟩ : ∃ q, (z.name.toList == s.toList) = q := ⟨_, rfl⟩
      clear hz
      cases q with
      | true =>
        go_wp2_with fail
        go_ret2
        exact ⟨i, 0, rfl, Lib.hid (fun _ => hi), Lib.hid (.inl rfl), B1⟩
      | false =>
        go_wp2_with fail
        go_roundg (gk - 1)
        case measure => omega
        case rel => exact ⟨i + 1, by first | rfl | (simp; done), by omega, rfl⟩
    · have hiz : ¬ (i : Int) < (n : Int) := by omega
      go_wp2_with fail
      go_ret2
      exact ⟨0, 30, rfl, Lib.hid (fun h => by omega), Lib.hid (.inr rfl), B1⟩

end Go.Proofs.YtbcmmecilheicaaGreatDoor
