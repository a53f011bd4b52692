/- Two trees of the call's own. -/
import Derived.Test.YtcidmaeclonilaaTDrop
namespace Go.Proofs.Ytcidmaeclonilaa
open Go Go.RowKit

/-- two trees apart, in blocks that have come since w0 -/
def Two (w0 w : World) (a : Nat) (l : List KV) (b : Nat) (m : List KV) : Prop :=
  ∃ L M, IsTreeS w a l L ∧ IsTreeS w b m M ∧ (∀ k ∈ L, k ∉ M) ∧ (∀ k ∈ L, w0.heap.size ≤ k) ∧ (∀ k ∈ M, w0.heap.size ≤ k) ∧ Below w0.heap.size w0 w
theorem Two.swap {w0 w : World} {a b : Nat} {l m : List KV} (H : Two w0 w a l b m) : Two w0 w b m a l := by
  obtain ⟨L, M, h1, h2, h3, h4, h5, h6⟩ := H
  exact ⟨M, L, h2, h1, fun k hk hl => h3 k hl hk, h5, h4, h6⟩
theorem Two.one {w0 w : World} {a b : Nat} {l m : List KV} (H : Two w0 w a l b m) : TOwnS w0 w a l := by
  obtain ⟨L, M, h1, h2, h3, h4, h5, h6⟩ := H
  exact ⟨L, h1, h4, h6⟩
theorem Two.world {w0 w : World} {a b : Nat} {l m : List KV} (H : Two w0 w a l b m) : Below w0.heap.size w0 w := H.one.world
theorem Two.below {w0 w w' : World} {a b : Nat} {l m : List KV} (H : Two w0 w a l b m) (hb : Below w.heap.size w w') : Two w0 w' a l b m := by
  obtain ⟨L, M, h1, h2, h3, h4, h5, h6⟩ := H
  exact ⟨L, M, h1.below hb, h2.below hb, h3, h4, h5, h6.trans (hb.mono h6.size)⟩
theorem Two.start {w0 w w' : World} {a b : Nat} {l : List KV} (H : TOwnS w0 w a l) (H' : TOwnS w w' b []) : Two w0 w' a l b [] := by
  obtain ⟨L, h1, h2, h3⟩ := H
  obtain ⟨M, k1, k2, k3⟩ := H'
  have h := h1.below k3
  exact ⟨L, M, h, k1, fun k hk hm => by have := h1.lt k hk; have := k2 k hm; omega, h2, fun k hk => Nat.le_trans h3.size (k2 k hk), h3.trans (k3.mono h3.size)⟩
theorem put_two {w0 w : World} {a b : Nat} {l m : List KV} (H : Two w0 w a l b m) (key z3 : ByteArray) (hlen : l.length ≤ 1000000) :
    Calls Try.prog 26 #[.pointer (some ⟨a, 0, none⟩), .string key, .string z3] w fun e w' => e = .returned (.tuple #[(look key l).getD (Value.string ⟨#[]⟩), .bool (look key l).isSome]) ∧ Hid (Two w0 w' a (ins key (.string z3) l) b m) := by
  obtain ⟨L, M, h1, h2, h3, h4, h5, h6⟩ := H
  refine (tputS w a l L key z3 h1 hlen).mono ?_
  rintro e w' ⟨L', q1, q2, q3, q4⟩
  exact ⟨q4, Lib.hid ⟨L', M, q1, h2.chg q2 fun k hk hl => h3 k hl hk, fun k hk hm => (q3 k hk).elim (fun hl => h3 k hl hm) (fun hh => by have := h2.lt k hm; omega), fun k hk => (q3 k hk).elim (h4 k) (fun x => Nat.le_trans h6.size x), h5, h6.trans (q2.below h4 h6.size)⟩⟩
theorem drop_two {w0 w : World} {a b : Nat} {l m : List KV} (H : Two w0 w a l b m) (key : ByteArray) (hlen : l.length ≤ 1000000) :
    Calls Try.prog 42 #[.pointer (some ⟨a, 0, none⟩), .string key] w fun e w' => e = .returned (.tuple #[(look key l).getD (Value.string ⟨#[]⟩), .bool (look key l).isSome]) ∧ Hid (Two w0 w' a (del key l) b m) := by
  obtain ⟨L, M, h1, h2, h3, h4, h5, h6⟩ := H
  refine (tdropS w a l L key h1 hlen).mono ?_
  rintro e w' ⟨L', q1, q2, q3, q4⟩
  exact ⟨q4, Lib.hid ⟨L', M, q1, h2.chg q2 fun k hk hl => h3 k hl hk, fun k hk hm => (q3 k hk).elim (fun hl => h3 k hl hm) (fun hh => by have := h2.lt k hm; omega), fun k hk => (q3 k hk).elim (h4 k) (fun x => Nat.le_trans h6.size x), h5, h6.trans (q2.below h4 h6.size)⟩⟩
theorem get_two {w0 w : World} {a b : Nat} {l m : List KV} (H : Two w0 w a l b m) (key : ByteArray) :
    Calls Try.prog 41 #[.pointer (some ⟨a, 0, none⟩), .string key] w fun e w' => e = .returned (.tuple #[(look key l).getD (Value.string ⟨#[]⟩), .bool (look key l).isSome]) ∧ Hid (Below w.heap.size w w' ∧ Two w0 w' a l b m) :=
  (get_ownS H.one key).mono fun _ _ h => ⟨h.1, Lib.hid ⟨h.2.out.1, H.below h.2.out.1⟩⟩
theorem keys_two {w0 w : World} {a b : Nat} {l m : List KV} (H : Two w0 w a l b m) (hl : l.length ≤ 60000) : Calls Try.prog 27 #[.pointer (some ⟨a, 0, none⟩)] w fun e w' =>
    ∃ A c, e = .returned (.slice A l.length c) ∧ Hid (Row w' 9 (.slice A l.length c) (l.map fun p => .string p.1)) ∧ Hid (Below w.heap.size w w' ∧ Two w0 w' a l b m) :=
  (keys_ownS H.one hl).mono fun _ _ ⟨A, c, h1, h2, h3⟩ => ⟨A, c, h1, h2, Lib.hid ⟨h3.out.1, H.below h3.out.1⟩⟩

end Go.Proofs.Ytcidmaeclonilaa
