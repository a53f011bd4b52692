/- What the iterator over chains stands on. -/
import Derived.Test.YtcidmaeclonilaaSeqM
import Derived.Test.YtcidmaeclonilaaCOwn
namespace Go.Proofs.Ytcidmaeclonilaa
open Go Go.RowKit

/-- a key and a slice -/
abbrev CK := ByteArray × (Option Addr × Nat × Nat)
def slcOf : Value → Option Addr × Nat × Nat
  | .slice A n c => (A, n, c)
  | _ => (none, 0, 0)
def kvC (p : KV) : CK := (p.1, slcOf p.2)
theorem kvC_of {p : KV} {A : Option Addr} {n c : Nat} (h : p.2 = .slice A n c) : kvC p = (p.1, (A, n, c)) := by unfold kvC slcOf; rw [h]
/-- a neighbour is told -/
def NearEC (W : World) (o : Option KV) (e : Ending) (W' : World) : Prop :=
  ∃ (zk : ByteArray) (za : Option Addr) (zn zc : Nat) (b : Bool), e = .returned (.tuple #[.string zk, .slice za zn zc, .bool b]) ∧ Hid (rkC o = zk ∧ rvC o = Value.slice za zn zc ∧ o.isSome = b) ∧ Hid (Below W.heap.size W W')
/-- the calls that an iterator makes: it goes along m -/
structure StepsC (w0 : World) (a : Nat) (m : List KV) (first nxt : Nat) (hf : Bool) (key : ByteArray) (op : Bool) : Prop where
  start0 : ∀ W, Below w0.heap.size w0 W → ∃ o : Option KV, (hf = false → o = m[0]?) ∧ Calls Try.prog first #[.pointer (some ⟨a, 0, none⟩)] W (NearEC W o)
  start1 : hf = true → ∀ W, Below w0.heap.size w0 W → Calls Try.prog nxt #[.pointer (some ⟨a, 0, none⟩), .string key, .bool op] W (NearEC W m[0]?)
  next : ∀ W, Below w0.heap.size w0 W → ∀ (i : Nat) (p : KV), m[i]? = some p → Calls Try.prog nxt #[.pointer (some ⟨a, 0, none⟩), .string p.1, .bool true] W (NearEC W m[i + 1]?)

end Go.Proofs.Ytcidmaeclonilaa
