/- Shape's answer is in shape; an argument of acts; a tree of the call's own. -/
import Derived.Test.YtcidmaeclonilaaShape
namespace Go.Proofs.Ytcidmaeclonilaa
open Go Go.RowKit

set_option maxHeartbeats 1000000 in
theorem shaped_nil (w : World) : Calls Try.prog 44 #[.slice none 0 0, .int .i64 0] w fun e w' => e = .returned (.bool true) ∧ w' = w := by
  go_enter Try.func44, Try.ntmps44
  go_wp2
  go_ret
  exact ⟨rfl, rfl⟩
theorem shaped_res {w : World} {A : Option Addr} {n c : Nat} {l : List KV} (h : ShapeRes w (.slice A n c) l) (hl : l.length ≤ 50000) :
    Calls Try.prog 44 #[.slice A n c, .int .i64 l.length] w fun e w' => e = .returned (.bool true) ∧ w' = w := by
  rcases h with ⟨rfl, h⟩ | ⟨-, R, hM, hS⟩
  · injection h with h1 h2 h3
    subst h1 h2 h3
    exact shaped_nil w
  · exact shaped44 w A n c l.length R hM.open_ hS (by omega)
theorem shape_own {w0 w : World} {a : Nat} {l : List KV} (H : TOwnS w0 w a l) (hl : l.length ≤ 50000) : Calls Try.prog 45 #[.pointer (some ⟨a, 0, none⟩)] w fun e w' =>
    ∃ A n c, e = .returned (.slice A n c) ∧ Hid (ShapeRes w' (.slice A n c) l) ∧ Hid (TOwnS w0 w' a l) := by
  have H' := H
  obtain ⟨L, h, -, -⟩ := H
  exact (shape45 h hl).mono fun e w' ⟨A, n, c, h1, h2, h3⟩ => ⟨A, n, c, h1, h2, Lib.hid (H'.below h3.out)⟩

/-- a slice of acts that came in -/
structure ArgA (W : World) (A : Option Addr) (n : Nat) (acts : List (Int × ByteArray × ByteArray)) : Prop where
  len : acts.length = n
  at_ : ∀ (j : Nat) (k : Int) (z v : ByteArray), acts[j]? = some (k, z, v) → ∃ b off, A = some ⟨b, off, none⟩ ∧ b < W.heap.size ∧ W.cell? ⟨b, off + j * 3, none⟩ = some (.int .i64 k) ∧ W.cell? ⟨b, off + j * 3 + 1, none⟩ = some (.string z) ∧ W.cell? ⟨b, off + j * 3 + 2, none⟩ = some (.string v)

end Go.Proofs.Ytcidmaeclonilaa
