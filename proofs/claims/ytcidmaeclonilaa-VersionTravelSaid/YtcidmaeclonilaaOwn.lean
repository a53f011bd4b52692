/- A tree of the call's own: what the laws' functions keep. -/
import Derived.Test.YtcidmaeclonilaaTree2
namespace Go.Proofs.Ytcidmaeclonilaa
open Go Go.RowKit

/-- a tree in blocks that have come since w0 -/
def TOwnS (w0 w : World) (a : Nat) (l : List KV) : Prop := ∃ L, IsTreeS w a l L ∧ (∀ k ∈ L, w0.heap.size ≤ k) ∧ Below w0.heap.size w0 w
theorem TOwnS.world {w0 w : World} {a : Nat} {l : List KV} (H : TOwnS w0 w a l) : Below w0.heap.size w0 w := by obtain ⟨L, -, -, h⟩ := H; exact h
theorem TOwnS.srt {w0 w : World} {a : Nat} {l : List KV} (H : TOwnS w0 w a l) : Srt l := by obtain ⟨L, h, -, -⟩ := H; exact h.srt
theorem TOwnS.isV {w0 w : World} {a : Nat} {l : List KV} (H : TOwnS w0 w a l) : ∀ p ∈ l, StrV p.2 := by obtain ⟨L, h, -, -⟩ := H; exact h.isV
theorem TOwnS.below {w0 w w' : World} {a : Nat} {l : List KV} (H : TOwnS w0 w a l) (hb : Below w.heap.size w w') : TOwnS w0 w' a l := by
  obtain ⟨L, h, h1, h2⟩ := H; exact ⟨L, h.below hb, h1, h2.trans (hb.mono h2.size)⟩
/-- the other tree is left alone -/
def Apart (L M : List Nat) : Prop := ∀ k ∈ L, k ∉ M
theorem new_ownS (w : World) : Calls Try.prog 24 #[] w fun e w' => ∃ a, e = .returned (.pointer (some ⟨a, 0, none⟩)) ∧ Hid (TOwnS w w' a []) :=
  (newS w).mono fun _ _ ⟨a, he, ha, ht, hb⟩ => ⟨a, he, Lib.hid ⟨_, ht, fun k hk => by
    rcases List.mem_cons.1 hk with rfl | hk
    · exact ha
    · obtain rfl : k = w.heap.size := by simpa using hk
      exact Nat.le_refl _, hb⟩⟩
theorem put_ownS {w0 w : World} {a : Nat} {l : List KV} (H : TOwnS w0 w a l) (key : ByteArray) (z3 : ByteArray) (hlen : l.length ≤ 1000000) :
    Calls Try.prog 26 #[.pointer (some ⟨a, 0, none⟩), .string key, Value.string z3] w fun e w' => e = .returned (.tuple #[(look key l).getD (Value.string ⟨#[]⟩), .bool (look key l).isSome]) ∧ Hid (TOwnS w0 w' a (ins key (Value.string z3) l)) := by
  obtain ⟨L, h, h1, h2⟩ := H
  refine (tputS w a l L key z3 h hlen).mono ?_
  rintro e w' ⟨L', q1, q2, q3, q4⟩
  exact ⟨q4, Lib.hid ⟨L', q1, fun k hk => (q3 k hk).elim (h1 k) (fun x => Nat.le_trans h2.size x), h2.trans (q2.below h1 h2.size)⟩⟩
theorem near_ownS {w0 w w' : World} {a : Nat} {l : List KV} (H : TOwnS w0 w a l) {o : Option KV} {e : Ending} (ho : ∀ p, o = some p → p ∈ l) (h : NearPostS w o e w') :
    ∃ (zk : ByteArray) (zv : ByteArray) (b : Bool), e = .returned (.tuple #[.string zk, Value.string zv, .bool b]) ∧ Hid (rk o = zk ∧ rvS o = Value.string zv ∧ o.isSome = b) ∧ Hid (Below w.heap.size w w' ∧ TOwnS w0 w' a l) := by
  obtain ⟨zk, zv, b, he, h1, h2⟩ := h.form (fun p hp => H.isV p (ho p hp))
  exact ⟨zk, zv, b, he, h1, Lib.hid ⟨h2.out, H.below h2.out⟩⟩
theorem first_ownS {w0 w : World} {a : Nat} {l : List KV} (H : TOwnS w0 w a l) : Calls Try.prog 28 #[.pointer (some ⟨a, 0, none⟩)] w fun e w' =>
    ∃ (zk : ByteArray) (zv : ByteArray) (b : Bool), e = .returned (.tuple #[.string zk, Value.string zv, .bool b]) ∧ Hid (rk l[0]? = zk ∧ rvS l[0]? = Value.string zv ∧ l[0]?.isSome = b) ∧ Hid (Below w.heap.size w w' ∧ TOwnS w0 w' a l) := by
  have H' := H
  obtain ⟨L, h, -, -⟩ := H
  have := (tfirstS h).mono fun e w' hh => near_ownS H' (fun p hp => List.mem_of_mem_head? hp) hh
  rwa [List.head?_eq_getElem?] at this
theorem last_ownS {w0 w : World} {a : Nat} {l : List KV} (H : TOwnS w0 w a l) : Calls Try.prog 30 #[.pointer (some ⟨a, 0, none⟩)] w fun e w' =>
    ∃ (zk : ByteArray) (zv : ByteArray) (b : Bool), e = .returned (.tuple #[.string zk, Value.string zv, .bool b]) ∧ Hid (rk l[l.length - 1]? = zk ∧ rvS l[l.length - 1]? = Value.string zv ∧ l[l.length - 1]?.isSome = b) ∧ Hid (Below w.heap.size w w' ∧ TOwnS w0 w' a l) := by
  have H' := H
  obtain ⟨L, h, -, -⟩ := H
  have := (tlastS h).mono fun e w' hh => near_ownS H' (fun p hp => List.mem_of_getLast? hp) hh
  rwa [List.getLast?_eq_getElem?] at this
theorem from_ownS {w0 w : World} {a : Nat} {l : List KV} (H : TOwnS w0 w a l) (key : ByteArray) (b : Bool) : Calls Try.prog 29 #[.pointer (some ⟨a, 0, none⟩), .string key, .bool b] w fun e w' =>
    ∃ (zk : ByteArray) (zv : ByteArray) (b' : Bool), e = .returned (.tuple #[.string zk, Value.string zv, .bool b']) ∧ Hid (rk (fromL key b l) = zk ∧ rvS (fromL key b l) = Value.string zv ∧ (fromL key b l).isSome = b') ∧ Hid (Below w.heap.size w w' ∧ TOwnS w0 w' a l) := by
  have H' := H
  obtain ⟨L, h, -, -⟩ := H
  exact (tfromS h key b).mono fun e w' hh => near_ownS H' (fun p hp => fromL_mem hp) hh
theorem to_ownS {w0 w : World} {a : Nat} {l : List KV} (H : TOwnS w0 w a l) (key : ByteArray) (b : Bool) : Calls Try.prog 31 #[.pointer (some ⟨a, 0, none⟩), .string key, .bool b] w fun e w' =>
    ∃ (zk : ByteArray) (zv : ByteArray) (b' : Bool), e = .returned (.tuple #[.string zk, Value.string zv, .bool b']) ∧ Hid (rk (toLst key b l) = zk ∧ rvS (toLst key b l) = Value.string zv ∧ (toLst key b l).isSome = b') ∧ Hid (Below w.heap.size w w' ∧ TOwnS w0 w' a l) := by
  have H' := H
  obtain ⟨L, h, -, -⟩ := H
  exact (ttoS h key b).mono fun e w' hh => near_ownS H' (fun p hp => toLst_mem hp) hh
theorem len_ownS {w0 w : World} {a : Nat} {l : List KV} (H : TOwnS w0 w a l) : Calls Try.prog 40 #[.pointer (some ⟨a, 0, none⟩)] w fun e w' => e = .returned (.int .i64 l.length) ∧ w = w' := by
  obtain ⟨L, h, -, -⟩ := H
  exact tlenS w a l L h
theorem get_ownS {w0 w : World} {a : Nat} {l : List KV} (H : TOwnS w0 w a l) (key : ByteArray) : Calls Try.prog 41 #[.pointer (some ⟨a, 0, none⟩), .string key] w fun e w' =>
    e = .returned (.tuple #[(look key l).getD (Value.string ⟨#[]⟩), .bool (look key l).isSome]) ∧ Hid (Below w.heap.size w w' ∧ TOwnS w0 w' a l) := by
  have H' := H
  obtain ⟨L, h, -, -⟩ := H
  exact (tgetS h key).mono fun e w' hh => ⟨hh.1, Lib.hid ⟨hh.2, H'.below hh.2⟩⟩
theorem keys_ownS {w0 w : World} {a : Nat} {l : List KV} (H : TOwnS w0 w a l) (hl : l.length ≤ 60000) : Calls Try.prog 27 #[.pointer (some ⟨a, 0, none⟩)] w fun e w' =>
    ∃ A c, e = .returned (.slice A l.length c) ∧ Hid (Row w' 9 (.slice A l.length c) (l.map fun p => .string p.1)) ∧ Hid (Below w.heap.size w w' ∧ TOwnS w0 w' a l) := by
  have H' := H
  obtain ⟨L, h, -, -⟩ := H
  exact (tkeysS h hl).mono fun e w' ⟨A, c, he, hr, hb, _⟩ => ⟨A, c, he, Lib.hid hr, Lib.hid ⟨hb, H'.below hb⟩⟩

end Go.Proofs.Ytcidmaeclonilaa
