/- The document's answer of chapter 12: a list of pairs in order: at, Get. -/
import Derived.Test.YtcidmaeclonilaaTDrop
import Derived.Laws.AppendOwn
import Derived.BigQuiet
import Derived.Handy
namespace Go.Proofs.Ytcidmaeclonilaa
open Go Go.RowKit

/-- a slice of pairs, as it is read -/
structure PArg (W : World) (A : Option Addr) (n : Nat) (l : List KV) : Prop where
  len : l.length = n
  at_ : ∀ (i : Nat) (p : KV), l[i]? = some p → ∃ g, A = some ⟨g, 0, none⟩ ∧ g < W.heap.size ∧ W.cell? ⟨g, i * 2, none⟩ = some (.string p.1) ∧ W.cell? ⟨g, i * 2 + 1, none⟩ = some p.2
theorem PArg.below {W W' : World} {A : Option Addr} {n : Nat} {l : List KV} (H : PArg W A n l) (hb : Below W.heap.size W W') : PArg W' A n l := by
  refine ⟨H.len, fun i p hi => ?_⟩
  obtain ⟨g, e, hg, h1, h2⟩ := H.at_ i p hi
  exact ⟨g, e, Nat.lt_of_lt_of_le hg hb.size, (hb.cell (p := ⟨g, i * 2, none⟩) hg).trans h1, (hb.cell (p := ⟨g, i * 2 + 1, none⟩) hg).trans h2⟩

/-- the place of a key, or where it belongs -/
structure AtP (key : ByteArray) (l : List KV) (i : Nat) (b : Bool) : Prop where
  le : i ≤ l.length
  lt : AllLt (l.take i) key
  ge : ∀ p, l[i]? = some p → klt p.1 key = false
  is : b = true ↔ ∃ p, l[i]? = some p ∧ p.1 = key
theorem AtP.here {key : ByteArray} {l : List KV} {i : Nat} (H : AtP key l i true) (hs : Srt l) : ∃ v, l[i]? = some (key, v) ∧ l = l.take i ++ (key, v) :: l.drop (i + 1) ∧ AllGt (l.drop (i + 1)) key := by
  obtain ⟨⟨k, v⟩, hp, hk⟩ := H.is.1 rfl
  have hk' : k = key := hk
  subst hk'
  obtain ⟨hlt, he⟩ := List.getElem?_eq_some_iff.1 hp
  have hsp : l = l.take i ++ (k, v) :: l.drop (i + 1) := by
    rw [← he, ← List.drop_eq_getElem_cons hlt, List.take_append_drop]
  refine ⟨v, hp, hsp, fun q hq => ?_⟩
  rw [hsp] at hs
  exact (List.pairwise_cons.1 (Srt.append_iff.1 hs).2.1).1 q hq
theorem AtP.none_ {key : ByteArray} {l : List KV} {i : Nat} (H : AtP key l i false) (hs : Srt l) : AllGt (l.drop i) key := by
  intro q hq
  have hlt : i < l.length := by
    have := List.length_pos_of_mem hq
    simp at this; omega
  have hge := H.ge _ (List.getElem?_eq_getElem hlt)
  have hne : l[i].1 ≠ key := fun e => by
    have := H.is.2 ⟨_, List.getElem?_eq_getElem hlt, e⟩
    cases this
  have h1 : klt key l[i].1 = true := by
    rcases klt_tri key l[i].1 with h | h | h
    · exact h
    · exact absurd h.symm hne
    · rw [h] at hge; cases hge
  rw [List.drop_eq_getElem_cons hlt] at hq
  rcases List.mem_cons.1 hq with rfl | hq
  · exact h1
  · have hs' : Srt (l.drop i) := hs.sublist (List.drop_sublist _ _)
    rw [List.drop_eq_getElem_cons hlt] at hs'
    exact klt_trans h1 ((List.pairwise_cons.1 hs').1 q hq)
/-- what at's answer means -/
theorem AtP.mean {key : ByteArray} {l : List KV} {i : Nat} {b : Bool} (H : AtP key l i b) (hs : Srt l) (u : Value) :
    (look key l).isSome = b ∧ ins key u l = l.take i ++ (key, u) :: l.drop (i + if b then 1 else 0) ∧ del key l = (if b then l.take i ++ l.drop (i + 1) else l) ∧ ∀ v, l[i]? = some (key, v) → look key l = some v := by
  cases b with
  | true =>
    obtain ⟨v, hp, hsp, hg⟩ := H.here hs
    have hl : look key l = some v := by rw [hsp]; exact look_here H.lt
    refine ⟨by rw [hl]; rfl, ?_, ?_, fun v' hv' => ?_⟩
    · have := ins_here (v := u) (u := v) H.lt hg
      rw [← hsp] at this
      simpa using this
    · have := del_here (u := v) H.lt hg
      rw [← hsp] at this
      simpa using this
    · rw [hp] at hv'; cases hv'; exact hl
  | false =>
    have hg := H.none_ hs
    have hl : look key l = none := by
      rw [← List.take_append_drop i l, look_append, look_lt H.lt, look_gt hg]; rfl
    refine ⟨by rw [hl]; rfl, ?_, ?_, fun v' hv' => ?_⟩
    · have := ins_new (v := u) H.lt hg
      rw [List.take_append_drop] at this
      simpa using this
    · have : del key l = l := by
        conv => lhs; rw [← List.take_append_drop i l]
        rw [del_append, del_lt H.lt, del_gt hg, List.take_append_drop]
      simpa using this
    · have := H.is.2 ⟨_, hv', rfl⟩; cases this

set_option maxHeartbeats 4000000 in
set_option maxRecDepth 100000 in
theorem at76 (w : World) (A : Option Addr) (n c : Nat) (l : List KV) (key : ByteArray) (hA : PArg w A n l) (hn : n ≤ 60000) :
    Calls Try.prog 76 #[.slice A n c, .string key] w fun e w' => ∃ (i : Nat) (b : Bool), e = .returned (.tuple #[.int .i64 i, .bool b]) ∧ Hid (AtP key l i b) ∧ ∃ q, w' = w.drewN q := by
  have HA := Lib.hid hA
  clear hA
  go_enter Try.func76, Try.ntmps76
  go_wp2_with fail
  go_loopg [6] n (fun kx s6 wr => ∃ (i : Nat), s6 = .int .i64 i ∧ kx + i = n ∧ Hid (AllLt (l.take i) key) ∧ w = wr)
  case atStart => exact ⟨0, rfl, rfl, Lib.hid (fun p hp => by simp at hp), rfl⟩
  case round =>
    obtain ⟨i, rfl, hk, I, rfl⟩ := hrel
    by_cases hi : i < n
    · obtain ⟨p, hp⟩ : ∃ p, l[i]? = some p := ⟨_, List.getElem?_eq_getElem (by rw [HA.out.len]; exact hi)⟩
      obtain ⟨g, rfl, hg, d0, d1⟩ := HA.out.at_ i p hp
      have hiz : (i : Int) < (n : Int) := by omega
      have hib : (i : Int) + 1 ≤ 9223372036854775807 := by omega
      cases hb : Op.bytesLess p.1.toList key.toList with
      | true =>
        have I2 := Lib.hid (show AllLt (l.take (i + 1)) key from fun q hq => by
          rw [List.take_add_one, hp] at hq
          rcases List.mem_append.1 hq with hq | hq
          · exact I.out q hq
          · obtain rfl : q = p := by simpa using hq
            exact hb)
        clear I hp d1
        generalize p.1 = z at *
        go_wp2_with fail
        go_roundg (gk - 1)
        case measure => omega
        case rel => exact ⟨i + 1, rfl, by omega, I2, rfl⟩
      | false =>
        have fin := Lib.hid (show ∀ b : Bool, (p.1.toList == key.toList) = b → AtP key l i b from fun b hbb => ⟨by rw [HA.out.len]; omega, I.out, fun q hq => by
          rw [hp] at hq; cases hq; exact hb, ⟨fun h => ⟨p, hp, by rw [h, beq_toList] at hbb; simpa using hbb⟩, fun ⟨q, hq, hqk⟩ => by
            rw [hp] at hq; cases hq
            rw [← hbb, beq_toList]; simpa using hqk⟩⟩)
        clear I hp d1
        generalize p.1 = z at *
        cases he : (z.toList == key.toList) with
        | true =>
          have F := Lib.hid (fin.out _ he)
          clear fin
          go_wp2_with fail
          go_quiet (fail)
          go_wp2_with fail
          go_ret2
          exact ⟨_, _, rfl, F, _, rfl⟩
        | false =>
          have F := Lib.hid (fin.out _ he)
          clear fin
          go_wp2_with fail
          go_quiet (fail)
          go_wp2_with fail
          go_ret2
          exact ⟨_, _, rfl, F, _, rfl⟩
    · have hiz : ¬ ((i : Int) < (n : Int)) := by omega
      have F := Lib.hid (show AtP key l i false from by
        have e : l[i]? = none := List.getElem?_eq_none (by rw [HA.out.len]; omega)
        exact ⟨by rw [HA.out.len]; omega, I.out, fun q hq => by (rw [e] at hq; cases hq), ⟨fun h => by (cases h), fun ⟨q, hq, _⟩ => by (rw [e] at hq; cases hq)⟩⟩)
      clear I
      go_wp2_with fail
      go_quiet (fail)
      go_wp2_with fail
      go_ret2
      exact ⟨_, _, rfl, F, _, rfl⟩

set_option maxHeartbeats 4000000 in
set_option maxRecDepth 100000 in
theorem get77 (w : World) (A : Option Addr) (n c : Nat) (l : List KV) (key : ByteArray) (hA : PArg w A n l) (hn : n ≤ 60000) (hs : Srt l) (hv : ∀ p ∈ l, StrV p.2) :
    Calls Try.prog 77 #[.slice A n c, .string key] w fun e w' => e = .returned (.tuple #[(look key l).getD (Value.string ⟨#[]⟩), .bool (look key l).isSome]) ∧ ∃ q, w' = w.drewN q := by
  have hat := Lib.hid (at76 w A n c l key hA hn)
  have HA := Lib.hid hA
  have HS := Lib.hid hs
  have HV := Lib.hid hv
  clear hA hs hv
  go_enter Try.func77, Try.ntmps77
  go_wp2_with fail
  refine hat.out.mono ?_
  clear hat
  rintro e w1 ⟨i, b, rfl, P, q, rfl⟩
  have hm := P.out.mean HS.out (.string ⟨#[]⟩)
  cases b with
  | false =>
    have hl : look key l = none := by
      cases h : look key l with
      | none => rfl
      | some v => rw [h] at hm; exact absurd hm.1 (by simp)
    have HL := Lib.hid hl
    clear hm hl
    go_wp2_with fail
    go_ret2
    exact ⟨by rw [HL.out]; rfl, _, rfl⟩
  | true =>
    obtain ⟨v, hp, -, -⟩ := P.out.here HS.out
    have hl := hm.2.2.2 v hp
    obtain ⟨zv, rfl⟩ := HV.out _ (List.mem_of_getElem? hp)
    obtain ⟨g, rfl, hg, d0, d1⟩ := HA.out.at_ i _ hp
    have hin : (i : Int) < (n : Int) := by
      have := (List.getElem?_eq_some_iff.1 hp).1
      have := HA.out.len
      omega
    have d1' : (w.drewN q).cell? ⟨g, i * 2 + 1, none⟩ = some (.string zv) := d1
    have HL := Lib.hid hl
    clear hm hl hp d0 d1
    go_wp2_with fail
    go_ret2
    exact ⟨by rw [HL.out]; rfl, _, rfl⟩

end Go.Proofs.Ytcidmaeclonilaa
