/- A tree of the call's own: what the laws' functions keep. -/
import Derived.Test.YtcidmaeclonilaaCTree2
namespace Go.Proofs.Ytcidmaeclonilaa
open Go Go.RowKit

/-- a tree in blocks that have come since w0 -/
def TOwnC (w0 w : World) (a : Nat) (l : List KV) : Prop := ∃ L, IsTreeC w a l L ∧ (∀ k ∈ L, w0.heap.size ≤ k) ∧ Below w0.heap.size w0 w
theorem TOwnC.world {w0 w : World} {a : Nat} {l : List KV} (H : TOwnC w0 w a l) : Below w0.heap.size w0 w := by obtain ⟨L, -, -, h⟩ := H; exact h
theorem TOwnC.srt {w0 w : World} {a : Nat} {l : List KV} (H : TOwnC w0 w a l) : Srt l := by obtain ⟨L, h, -, -⟩ := H; exact h.srt
theorem TOwnC.isV {w0 w : World} {a : Nat} {l : List KV} (H : TOwnC w0 w a l) : ∀ p ∈ l, SlcV p.2 := by obtain ⟨L, h, -, -⟩ := H; exact h.isV
theorem TOwnC.below {w0 w w' : World} {a : Nat} {l : List KV} (H : TOwnC w0 w a l) (hb : Below w.heap.size w w') : TOwnC w0 w' a l := by
  obtain ⟨L, h, h1, h2⟩ := H; exact ⟨L, h.below hb, h1, h2.trans (hb.mono h2.size)⟩
/-- the other tree is left alone -/
def ApartC (L M : List Nat) : Prop := ∀ k ∈ L, k ∉ M
theorem new_ownC (w : World) : Calls Try.prog 66 #[] w fun e w' => ∃ a, e = .returned (.pointer (some ⟨a, 0, none⟩)) ∧ Hid (TOwnC w w' a []) :=
  (newC w).mono fun _ _ ⟨a, he, ha, ht, hb⟩ => ⟨a, he, Lib.hid ⟨_, ht, fun k hk => by
    rcases List.mem_cons.1 hk with rfl | hk
    · exact ha
    · obtain rfl : k = w.heap.size := by simpa using hk
      exact Nat.le_refl _, hb⟩⟩
theorem put_ownC {w0 w : World} {a : Nat} {l : List KV} (H : TOwnC w0 w a l) (key : ByteArray) (a3 : Option Addr) (n3 c3 : Nat) (hlen : l.length ≤ 1000000) :
    Calls Try.prog 69 #[.pointer (some ⟨a, 0, none⟩), .string key, Value.slice a3 n3 c3] w fun e w' => e = .returned (.tuple #[(look key l).getD (Value.slice none 0 0), .bool (look key l).isSome]) ∧ Hid (TOwnC w0 w' a (ins key (Value.slice a3 n3 c3) l)) := by
  obtain ⟨L, h, h1, h2⟩ := H
  refine (tputC w a l L key a3 n3 c3 h hlen).mono ?_
  rintro e w' ⟨L', q1, q2, q3, q4⟩
  exact ⟨q4, Lib.hid ⟨L', q1, fun k hk => (q3 k hk).elim (h1 k) (fun x => Nat.le_trans h2.size x), h2.trans (q2.below h1 h2.size)⟩⟩
theorem near_ownC {w0 w w' : World} {a : Nat} {l : List KV} (H : TOwnC w0 w a l) {o : Option KV} {e : Ending} (ho : ∀ p, o = some p → p ∈ l) (h : NearPostC w o e w') :
    ∃ (zk : ByteArray) (za : Option Addr) (zn zc : Nat) (b : Bool), e = .returned (.tuple #[.string zk, Value.slice za zn zc, .bool b]) ∧ Hid (rkC o = zk ∧ rvC o = Value.slice za zn zc ∧ o.isSome = b) ∧ Hid (Below w.heap.size w w' ∧ TOwnC w0 w' a l) := by
  obtain ⟨zk, za, zn, zc, b, he, h1, h2⟩ := h.form (fun p hp => H.isV p (ho p hp))
  exact ⟨zk, za, zn, zc, b, he, h1, Lib.hid ⟨h2.out, H.below h2.out⟩⟩
theorem first_ownC {w0 w : World} {a : Nat} {l : List KV} (H : TOwnC w0 w a l) : Calls Try.prog 113 #[.pointer (some ⟨a, 0, none⟩)] w fun e w' =>
    ∃ (zk : ByteArray) (za : Option Addr) (zn zc : Nat) (b : Bool), e = .returned (.tuple #[.string zk, Value.slice za zn zc, .bool b]) ∧ Hid (rkC l[0]? = zk ∧ rvC l[0]? = Value.slice za zn zc ∧ l[0]?.isSome = b) ∧ Hid (Below w.heap.size w w' ∧ TOwnC w0 w' a l) := by
  have H' := H
  obtain ⟨L, h, -, -⟩ := H
  have := (tfirstC h).mono fun e w' hh => near_ownC H' (fun p hp => List.mem_of_mem_head? hp) hh
  rwa [List.head?_eq_getElem?] at this

theorem from_ownC {w0 w : World} {a : Nat} {l : List KV} (H : TOwnC w0 w a l) (key : ByteArray) (b : Bool) : Calls Try.prog 89 #[.pointer (some ⟨a, 0, none⟩), .string key, .bool b] w fun e w' =>
    ∃ (zk : ByteArray) (za : Option Addr) (zn zc : Nat) (b' : Bool), e = .returned (.tuple #[.string zk, Value.slice za zn zc, .bool b']) ∧ Hid (rkC (fromL key b l) = zk ∧ rvC (fromL key b l) = Value.slice za zn zc ∧ (fromL key b l).isSome = b') ∧ Hid (Below w.heap.size w w' ∧ TOwnC w0 w' a l) := by
  have H' := H
  obtain ⟨L, h, -, -⟩ := H
  exact (tfromC h key b).mono fun e w' hh => near_ownC H' (fun p hp => fromL_memC hp) hh


theorem get_ownC {w0 w : World} {a : Nat} {l : List KV} (H : TOwnC w0 w a l) (key : ByteArray) : Calls Try.prog 67 #[.pointer (some ⟨a, 0, none⟩), .string key] w fun e w' =>
    e = .returned (.tuple #[(look key l).getD (Value.slice none 0 0), .bool (look key l).isSome]) ∧ Hid (Below w.heap.size w w' ∧ TOwnC w0 w' a l) := by
  have H' := H
  obtain ⟨L, h, -, -⟩ := H
  exact (tgetC h key).mono fun e w' hh => ⟨hh.1, Lib.hid ⟨hh.2, H'.below hh.2⟩⟩

end Go.Proofs.Ytcidmaeclonilaa
