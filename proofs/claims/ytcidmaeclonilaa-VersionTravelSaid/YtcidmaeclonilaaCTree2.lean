/- First, Last, Get, Keys of a tree. -/
import Derived.Test.YtcidmaeclonilaaCFrom
namespace Go.Proofs.Ytcidmaeclonilaa
open Go Go.RowKit

theorem tfromC {w : World} {a : Nat} {l : List KV} {L : List Nat} (H : IsTreeC w a l L) (key : ByteArray) (b : Bool) :
    Calls Try.prog 89 #[.pointer (some ⟨a, 0, none⟩), .string key, .bool b] w (NearPostC w (fromL key b l)) := by
  obtain ⟨h, t, hB, hT, hb, hs, rfl, ha, rfl, h0⟩ := H
  exact fromC w a h t key b (hB.cell 0) hT hb hs

theorem NearPostC.form {w w' : World} {o : Option KV} {e : Ending} (hv : ∀ p, o = some p → SlcV p.2) (h : NearPostC w o e w') : ∃ (zk : ByteArray) (za : Option Addr) (zn zc : Nat) (b : Bool), e = .returned (.tuple #[.string zk, Value.slice za zn zc, .bool b]) ∧ Hid (rkC o = zk ∧ rvC o = Value.slice za zn zc ∧ o.isSome = b) ∧ Hid (Below w.heap.size w w') := by
  obtain ⟨rfl, hb⟩ := h
  cases o with
  | none => exact ⟨_, _, _, _, _, rfl, Lib.hid ⟨rfl, rfl, rfl⟩, Lib.hid hb⟩
  | some p =>
    obtain ⟨k, v⟩ := p
    obtain ⟨au, nu, cu, rfl⟩ := hv _ rfl
    exact ⟨k, _, _, _, _, rfl, Lib.hid ⟨rfl, rfl, rfl⟩, Lib.hid hb⟩
theorem NearPostC.of {w w' : World} {o : Option KV} {zk : ByteArray} {v : Value} {b : Bool} (h : rkC o = zk ∧ rvC o = v ∧ o.isSome = b) (hb : Below w.heap.size w w') : NearPostC w o (.returned (.tuple #[.string zk, v, .bool b])) w' := by
  obtain ⟨rfl, rfl, rfl⟩ := h; exact ⟨rfl, hb⟩
theorem isV_ofC {w : World} {h : Nat} {t : GT} : ∀ (_ : Tre TC w h t) (_ : BT h t), ∀ p ∈ toL h t, SlcV p.2 := by
  induction h generalizing t with
  | zero =>
    intro H B p hp
    exact H.nod.v1 _ (List.of_mem_zip (show (p.1, p.2) ∈ t.ks.zip t.vs from hp)).2
  | succ h ih =>
    intro H B p hp
    rcases mem_weave hp with ⟨c, hc, hpc⟩ | hpp
    · obtain ⟨d, hd, rfl⟩ := List.mem_map.1 hc
      obtain ⟨i, hi⟩ := List.mem_iff_getElem?.1 hd
      exact ih (H.kid hi) (B.kid hd).1 p hpc
    · exact H.nod.v1 _ (List.of_mem_zip (show (p.1, p.2) ∈ t.ks.zip t.vs from hpp)).2

theorem IsTreeC.isV {w : World} {a : Nat} {l : List KV} {L : List Nat} (H : IsTreeC w a l L) : ∀ p ∈ l, SlcV p.2 := by
  obtain ⟨h, t, hB, hT, hb, hs, rfl, ha, rfl, h0⟩ := H
  exact isV_ofC hT hb
theorem fromL_memC {k : ByteArray} {b : Bool} {l : List KV} {p : KV} (h : fromL k b l = some p) : p ∈ l := List.mem_of_find?_eq_some h
theorem toLst_memC {k : ByteArray} {b : Bool} {l : List KV} {p : KV} (h : toLst k b l = some p) : p ∈ l := by
  have := List.mem_of_find?_eq_some h; simpa using this

set_option maxHeartbeats 1000000 in
theorem tfirstC {w : World} {a : Nat} {l : List KV} {L : List Nat} (H : IsTreeC w a l L) :
    Calls Try.prog 113 #[.pointer (some ⟨a, 0, none⟩)] w (NearPostC w l.head?) := by
  have hc := (tfromC H ⟨#[]⟩ false).mono fun e w' h => h.form (fun p hp => H.isV p (fromL_memC hp))
  rw [fromL_first] at hc
  have HC := Lib.hid hc
  clear hc H
  go_enter Try.func113, Try.ntmps113
  go_wp2_with fail
  refine HC.out.mono ?_
  rintro e w1 ⟨zk, za, zn, zc, b, rfl, h1, h2⟩
  go_wp2
  go_ret3
  exact .of h1.out h2.out

/-- what Get tells -/
def GetPostC (w : World) (l : List KV) (key : ByteArray) (e : Ending) (w' : World) : Prop :=
  e = .returned (.tuple #[(look key l).getD (Value.slice none 0 0), .bool (look key l).isSome]) ∧ Below w.heap.size w w'

set_option maxHeartbeats 1000000 in
theorem tgetC {w : World} {a : Nat} {l : List KV} {L : List Nat} (H : IsTreeC w a l L) (key : ByteArray) :
    Calls Try.prog 67 #[.pointer (some ⟨a, 0, none⟩), .string key] w (GetPostC w l key) := by
  have hc := (tfromC H key false).mono fun e w' h => h.form (fun p hp => H.isV p (fromL_memC hp))
  have hl := look_from H.srt key
  have HC := Lib.hid hc
  have HL := Lib.hid hl
  clear hc H hl
  generalize fromL key false l = o at *
  cases o with
  | none =>
    go_enter Try.func67, Try.ntmps67
    go_wp2_with fail
    refine HC.out.mono ?_
    clear HC
    rintro e w1 ⟨zk, za, zn, zc, b, rfl, h1, h2⟩
    have h3 := h1.out
    obtain ⟨-, -, rfl⟩ := h1.out
    clear h3 h1
    go_wp2
    go_ret2
    refine ⟨?_, h2.out⟩
    rw [HL.out]; rfl
  | some p =>
    obtain ⟨k, v⟩ := p
    by_cases hk : k = key
    · subst hk
      go_enter Try.func67, Try.ntmps67
      go_wp2_with fail
      refine HC.out.mono ?_
      clear HC
      rintro e w1 ⟨zk, za, zn, zc, b, rfl, h1, h2⟩
      obtain ⟨e1, e2, e3⟩ := h1.out
      have e1' : k = zk := e1
      have e3' : true = b := e3
      subst e1' e3'
      have E2 := Lib.hid e2
      clear h1 e1 e2 e3
      go_wp2
      go_ret2
      refine ⟨?_, h2.out⟩
      have e2 : v = Value.slice za zn zc := E2.out
      rw [HL.out, ← e2]; simp
    · have hne : (k.toList == key.toList) = false := by rw [beq_toList]; simpa using hk
      have HK := Lib.hid hk
      clear hk
      go_enter Try.func67, Try.ntmps67
      go_wp2_with fail
      refine HC.out.mono ?_
      clear HC
      rintro e w1 ⟨zk, za, zn, zc, b, rfl, h1, h2⟩
      obtain ⟨e1, e2, e3⟩ := h1.out
      have e1' : k = zk := e1
      have e3' : true = b := e3
      subst e1' e3'
      clear h1 e1 e2 e3
      go_wp2
      go_ret2
      refine ⟨?_, h2.out⟩
      rw [HL.out]; simp [HK.out]





end Go.Proofs.Ytcidmaeclonilaa
