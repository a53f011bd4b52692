/- Several texts in one. -/
import Derived.Test.YtcidmaeclonilaaTDrop
import Derived.Laws.AppendOwn
import Derived.BigQuiet
import Derived.Handy
import Derived.Deep.RegionLaw

/- The document's answer of chapter 12: a list of pairs in order: at, Get. -/
namespace Go.Proofs.Ytcidmaeclonilaa
open Go Go.RowKit

/-- a slice of pairs, as it is read -/
structure PArg (W : World) (A : Option Addr) (n : Nat) (l : List KV) : Prop where
  len : l.length = n
  at_ : ∀ (i : Nat) (p : KV), l[i]? = some p → ∃ g, A = some ⟨g, 0, none⟩ ∧ g < W.heap.size ∧ W.cell? ⟨g, i * 2, none⟩ = some (.string p.1) ∧ W.cell? ⟨g, i * 2 + 1, none⟩ = some p.2
theorem PArg.below {W W' : World} {A : Option Addr} {n : Nat} {l : List KV} (H : PArg W A n l) (hb : Below W.heap.size W W') : PArg W' A n l := by
  refine ⟨H.len, fun i p hi => ?_⟩
  obtain ⟨g, e, hg, h1, h2⟩ := H.at_ i p hi
  exact ⟨g, e, Nat.lt_of_lt_of_le hg hb.size, (hb.cell (p := ⟨g, i * 2, none⟩) hg).trans h1, (hb.cell (p := ⟨g, i * 2 + 1, none⟩) hg).trans h2⟩

/-- the place of a key, or where it belongs -/
structure AtP (key : ByteArray) (l : List KV) (i : Nat) (b : Bool) : Prop where
  le : i ≤ l.length
  lt : AllLt (l.take i) key
  ge : ∀ p, l[i]? = some p → klt p.1 key = false
  is : b = true ↔ ∃ p, l[i]? = some p ∧ p.1 = key
theorem AtP.here {key : ByteArray} {l : List KV} {i : Nat} (H : AtP key l i true) (hs : Srt l) : ∃ v, l[i]? = some (key, v) ∧ l = l.take i ++ (key, v) :: l.drop (i + 1) ∧ AllGt (l.drop (i + 1)) key := by
  obtain ⟨⟨k, v⟩, hp, hk⟩ := H.is.1 rfl
  have hk' : k = key := hk
  subst hk'
  obtain ⟨hlt, he⟩ := List.getElem?_eq_some_iff.1 hp
  have hsp : l = l.take i ++ (k, v) :: l.drop (i + 1) := by
    rw [← he, ← List.drop_eq_getElem_cons hlt, List.take_append_drop]
  refine ⟨v, hp, hsp, fun q hq => ?_⟩
  rw [hsp] at hs
  exact (List.pairwise_cons.1 (Srt.append_iff.1 hs).2.1).1 q hq
theorem AtP.none_ {key : ByteArray} {l : List KV} {i : Nat} (H : AtP key l i false) (hs : Srt l) : AllGt (l.drop i) key := by
  intro q hq
  have hlt : i < l.length := by
    have := List.length_pos_of_mem hq
    simp at this; omega
  have hge := H.ge _ (List.getElem?_eq_getElem hlt)
  have hne : l[i].1 ≠ key := fun e => by
    have := H.is.2 ⟨_, List.getElem?_eq_getElem hlt, e⟩
    cases this
  have h1 : klt key l[i].1 = true := by
    rcases klt_tri key l[i].1 with h | h | h
    · exact h
    · exact absurd h.symm hne
    · rw [h] at hge; cases hge
  rw [List.drop_eq_getElem_cons hlt] at hq
  rcases List.mem_cons.1 hq with rfl | hq
  · exact h1
  · have hs' : Srt (l.drop i) := hs.sublist (List.drop_sublist _ _)
    rw [List.drop_eq_getElem_cons hlt] at hs'
    exact klt_trans h1 ((List.pairwise_cons.1 hs').1 q hq)
/-- what at's answer means -/
theorem AtP.mean {key : ByteArray} {l : List KV} {i : Nat} {b : Bool} (H : AtP key l i b) (hs : Srt l) (u : Value) :
    (look key l).isSome = b ∧ ins key u l = l.take i ++ (key, u) :: l.drop (i + if b then 1 else 0) ∧ del key l = (if b then l.take i ++ l.drop (i + 1) else l) ∧ ∀ v, l[i]? = some (key, v) → look key l = some v := by
  cases b with
  | true =>
    obtain ⟨v, hp, hsp, hg⟩ := H.here hs
    have hl : look key l = some v := by rw [hsp]; exact look_here H.lt
    refine ⟨by rw [hl]; rfl, ?_, ?_, fun v' hv' => ?_⟩
    · have := ins_here (v := u) (u := v) H.lt hg
      rw [← hsp] at this
      simpa using this
    · have := del_here (u := v) H.lt hg
      rw [← hsp] at this
      simpa using this
    · rw [hp] at hv'; cases hv'; exact hl
  | false =>
    have hg := H.none_ hs
    have hl : look key l = none := by
      rw [← List.take_append_drop i l, look_append, look_lt H.lt, look_gt hg]; rfl
    refine ⟨by rw [hl]; rfl, ?_, ?_, fun v' hv' => ?_⟩
    · have := ins_new (v := u) H.lt hg
      rw [List.take_append_drop] at this
      simpa using this
    · have : del key l = l := by
        conv => lhs; rw [← List.take_append_drop i l]
        rw [del_append, del_lt H.lt, del_gt hg, List.take_append_drop]
      simpa using this
    · have := H.is.2 ⟨_, hv', rfl⟩; cases this

set_option maxHeartbeats 4000000 in
set_option maxRecDepth 100000 in
theorem at76 (w : World) (A : Option Addr) (n c : Nat) (l : List KV) (key : ByteArray) (hA : PArg w A n l) (hn : n ≤ 60000) :
    Calls Try.prog 76 #[.slice A n c, .string key] w fun e w' => ∃ (i : Nat) (b : Bool), e = .returned (.tuple #[.int .i64 i, .bool b]) ∧ Hid (AtP key l i b) ∧ ∃ q, w' = w.drewN q := by
  have HA := Lib.hid hA
  clear hA
  go_enter Try.func76, Try.ntmps76
  go_wp2_with fail
  go_loopg [6] n (fun kx s6 wr => ∃ (i : Nat), s6 = .int .i64 i ∧ kx + i = n ∧ Hid (AllLt (l.take i) key) ∧ w = wr)
  case atStart => exact ⟨0, rfl, rfl, Lib.hid (fun p hp => by simp at hp), rfl⟩
  case round =>
    obtain ⟨i, rfl, hk, I, rfl⟩ := hrel
    by_cases hi : i < n
    · obtain ⟨p, hp⟩ : ∃ p, l[i]? = some p := ⟨_, List.getElem?_eq_getElem (by rw [HA.out.len]; exact hi)⟩
      obtain ⟨g, rfl, hg, d0, d1⟩ := HA.out.at_ i p hp
      have hiz : (i : Int) < (n : Int) := by omega
      have hib : (i : Int) + 1 ≤ 9223372036854775807 := by omega
      cases hb : Op.bytesLess p.1.toList key.toList with
      | true =>
        have I2 := Lib.hid (show AllLt (l.take (i + 1)) key from fun q hq => by
          rw [List.take_add_one, hp] at hq
          rcases List.mem_append.1 hq with hq | hq
          · exact I.out q hq
          · obtain rfl : q = p := by simpa using hq
            exact hb)
        clear I hp d1
        generalize p.1 = z at *
        go_wp2_with fail
        go_roundg (gk - 1)
        case measure => omega
        case rel => exact ⟨i + 1, rfl, by omega, I2, rfl⟩
      | false =>
        have fin := Lib.hid (show ∀ b : Bool, (p.1.toList == key.toList) = b → AtP key l i b from fun b hbb => ⟨by rw [HA.out.len]; omega, I.out, fun q hq => by
          rw [hp] at hq; cases hq; exact hb, ⟨fun h => ⟨p, hp, by rw [h, beq_toList] at hbb; simpa using hbb⟩, fun ⟨q, hq, hqk⟩ => by
            rw [hp] at hq; cases hq
            rw [← hbb, beq_toList]; simpa using hqk⟩⟩)
        clear I hp d1
        generalize p.1 = z at *
        cases he : (z.toList == key.toList) with
        | true =>
          have F := Lib.hid (fin.out _ he)
          clear fin
          go_wp2_with fail
          go_quiet (fail)
          go_wp2_with fail
          go_ret2
          exact ⟨_, _, rfl, F, _, rfl⟩
        | false =>
          have F := Lib.hid (fin.out _ he)
          clear fin
          go_wp2_with fail
          go_quiet (fail)
          go_wp2_with fail
          go_ret2
          exact ⟨_, _, rfl, F, _, rfl⟩
    · have hiz : ¬ ((i : Int) < (n : Int)) := by omega
      have F := Lib.hid (show AtP key l i false from by
        have e : l[i]? = none := List.getElem?_eq_none (by rw [HA.out.len]; omega)
        exact ⟨by rw [HA.out.len]; omega, I.out, fun q hq => by (rw [e] at hq; cases hq), ⟨fun h => by (cases h), fun ⟨q, hq, _⟩ => by (rw [e] at hq; cases hq)⟩⟩)
      clear I
      go_wp2_with fail
      go_quiet (fail)
      go_wp2_with fail
      go_ret2
      exact ⟨_, _, rfl, F, _, rfl⟩

set_option maxHeartbeats 4000000 in
set_option maxRecDepth 100000 in
theorem get77 (w : World) (A : Option Addr) (n c : Nat) (l : List KV) (key : ByteArray) (hA : PArg w A n l) (hn : n ≤ 60000) (hs : Srt l) (hv : ∀ p ∈ l, StrV p.2) :
    Calls Try.prog 77 #[.slice A n c, .string key] w fun e w' => e = .returned (.tuple #[(look key l).getD (Value.string ⟨#[]⟩), .bool (look key l).isSome]) ∧ ∃ q, w' = w.drewN q := by
  have hat := Lib.hid (at76 w A n c l key hA hn)
  have HA := Lib.hid hA
  have HS := Lib.hid hs
  have HV := Lib.hid hv
  clear hA hs hv
  go_enter Try.func77, Try.ntmps77
  go_wp2_with fail
  refine hat.out.mono ?_
  clear hat
  rintro e w1 ⟨i, b, rfl, P, q, rfl⟩
  have hm := P.out.mean HS.out (.string ⟨#[]⟩)
  cases b with
  | false =>
    have hl : look key l = none := by
      cases h : look key l with
      | none => rfl
      | some v => rw [h] at hm; exact absurd hm.1 (by simp)
    have HL := Lib.hid hl
    clear hm hl
    go_wp2_with fail
    go_ret2
    exact ⟨by rw [HL.out]; rfl, _, rfl⟩
  | true =>
    obtain ⟨v, hp, -, -⟩ := P.out.here HS.out
    have hl := hm.2.2.2 v hp
    obtain ⟨zv, rfl⟩ := HV.out _ (List.mem_of_getElem? hp)
    obtain ⟨g, rfl, hg, d0, d1⟩ := HA.out.at_ i _ hp
    have hin : (i : Int) < (n : Int) := by
      have := (List.getElem?_eq_some_iff.1 hp).1
      have := HA.out.len
      omega
    have d1' : (w.drewN q).cell? ⟨g, i * 2 + 1, none⟩ = some (.string zv) := d1
    have HL := Lib.hid hl
    clear hm hl hp d0 d1
    go_wp2_with fail
    go_ret2
    exact ⟨by rw [HL.out]; rfl, _, rfl⟩

end Go.Proofs.Ytcidmaeclonilaa

/- ref12.Put, Drop: a new list each time. -/
namespace Go.Proofs.Ytcidmaeclonilaa
open Go Go.RowKit

/-- the cells of pairs -/
def cellsP (l : List KV) : List Value := (l.map fun p => [Value.string p.1, p.2]).flatten
theorem cellsP_len (l : List KV) : (cellsP l).length = l.length * 2 := by
  induction l with
  | nil => rfl
  | cons p l ih => simp only [cellsP, List.map_cons, List.flatten_cons, List.length_append, List.length_cons, List.length_nil] at ih ⊢; omega
theorem cellsP_append (a b : List KV) : cellsP (a ++ b) = cellsP a ++ cellsP b := by simp [cellsP]
theorem cellsP_at : ∀ {l : List KV} {i : Nat} {p : KV}, l[i]? = some p → (cellsP l)[i * 2]? = some (.string p.1) ∧ (cellsP l)[i * 2 + 1]? = some p.2
  | [], _, _, h => by simp at h
  | q :: l, 0, p, h => by
    obtain rfl : q = p := by simpa using h
    exact ⟨rfl, rfl⟩
  | q :: l, i + 1, p, h => by
    have ih := cellsP_at (l := l) (i := i) (p := p) (by simpa using h)
    have e : cellsP (q :: l) = Value.string q.1 :: q.2 :: cellsP l := rfl
    rw [e, show (i + 1) * 2 = i * 2 + 1 + 1 by omega, show i * 2 + 1 + 1 + 1 = (i * 2 + 1) + 1 + 1 by omega]
    simp only [List.getElem?_cons_succ]
    exact ih
theorem cellsP_one {l : List KV} (hv : ∀ p ∈ l, StrV p.2) : ∀ u ∈ cellsP l, u.oneCell' = true := by
  intro u hu
  obtain ⟨c, hc, huc⟩ := List.mem_flatten.1 hu
  obtain ⟨p, hp, rfl⟩ := List.mem_map.1 hc
  obtain ⟨s, hs⟩ := hv p hp
  simp only [List.mem_cons, List.not_mem_nil, or_false] at huc
  rcases huc with rfl | rfl
  · rfl
  · rw [hs]; rfl

/-- a list of pairs in a block of its own, from base on -/
structure OwnR (W : World) (base : Nat) (A : Option Addr) (n c : Nat) (l : List KV) : Prop where
  len : l.length = n
  row : W.ownsRow base 81 2 (.slice A n c) n (cellsP l)
theorem OwnR.arg {W : World} {base : Nat} {A : Option Addr} {n c : Nat} {l : List KV} (H : OwnR W base A n c l) : PArg W A n l := by
  refine ⟨H.len, fun i p hi => ?_⟩
  have hlt := (List.getElem?_eq_some_iff.1 hi).1
  rcases H.row.2 with ⟨-, h0⟩ | ⟨g, cap, cur, he, hb, hg, -⟩
  · have := H.len; omega
  · injection he with e1 _ _
    subst e1
    have hc := H.row.cells (g := g) rfl
    obtain ⟨h1, h2⟩ := cellsP_at hi
    exact ⟨g, rfl, (Array.getElem?_eq_some_iff.1 hg).1, by have := hc _ _ h1; rwa [add_lit0] at this, by have := hc _ _ h2; rwa [add_lit0] at this⟩
theorem OwnR.form {W : World} {base : Nat} {A : Option Addr} {n c : Nat} {l : List KV} (H : OwnR W base A n c l) : (A = none ∧ n = 0 ∧ c = 0 ∧ l = []) ∨ ∃ g, A = some ⟨g, 0, none⟩ ∧ n ≤ c ∧ c ≤ 9223372036854775807 ∧ base ≤ g ∧ g < W.heap.size ∧ ∀ j u, (cellsP l)[j]? = some u → W.cell? ⟨g, j, none⟩ = some u := by
  rcases H.row.2 with ⟨he, h0⟩ | ⟨g, cap, cur, he, hb, hg, h1, h2, -⟩
  · injection he with e1 e2 e3
    exact .inl ⟨e1, e2, e3, List.length_eq_zero_iff.1 (H.len.trans h0)⟩
  · injection he with e1 e2 e3
    subst e1 e3
    refine .inr ⟨g, rfl, h1, h2, hb, (Array.getElem?_eq_some_iff.1 hg).1, fun j u hj => ?_⟩
    have := H.row.cells (g := g) rfl j u hj
    rwa [add_lit0] at this
theorem OwnR.kept {W W' : World} {base : Nat} {A : Option Addr} {n c : Nat} {l : List KV} (H : OwnR W base A n c l) (hb : Below W.heap.size W W') : OwnR W' base A n c l := by
  refine ⟨H.len, H.row.1, ?_⟩
  rcases H.row.2 with h | ⟨g, cap, cur, he, hbg, hg, rest⟩
  · exact .inl h
  · exact .inr ⟨g, cap, cur, he, hbg, (hb.block g (Array.getElem?_eq_some_iff.1 hg).1).trans hg, rest⟩
theorem OwnR.nil (W : World) (base : Nat) : OwnR W base none 0 0 [] := ⟨rfl, World.ownsRow_nil W base 81 2⟩

/-- the type's facts -/
theorem info81 : ∃ i, Try.prog.info? 81 = some i ∧ i.zero = some (.agg #[.string ⟨#[]⟩, .string ⟨#[]⟩]) ∧ i.size = 2 ∧ i.bytes = 32 := by
  have h : (Try.prog.info? 81).map (fun i => (i.zero, i.size, i.bytes)) = some (some (.agg #[.string ⟨#[]⟩, .string ⟨#[]⟩]), 2, 32) := by kernel_rfl
  obtain ⟨i0, hi, hz0, hz1, hz2⟩ := info_parts h
  exact ⟨i0, hi, hz0, hz1, hz2⟩

/-- append of a part of a list -/
theorem app_part {W : World} {base : Nat} {A : Option Addr} {n c : Nat} {l : List KV} (H : OwnR W base A n c l) (hbase : base ≤ W.heap.size) (a : Addr) (m d : Nat) (ys : List KV) (hm : ys.length = m) (hv : ∀ p ∈ ys, StrV p.2)
    (hc : ∀ j u, (cellsP ys)[j]? = some u → W.cell? (a.add j) = some u) (hs : n + m ≤ 1000000) :
    ∃ A' c' W', (Builtin.append_ #[61, 61] 61 #[.slice A n c, .slice (some a) m d]).run Try.prog W = .ok (.slice A' (n + m) c') W' ∧ OwnR W' base A' (n + m) c' (l ++ ys) ∧ W.grownBy W' (Value.ownBlock (.slice A n c)) := by
  obtain ⟨i, hi, hz, hsz, hby⟩ := info81
  obtain ⟨v', W', hr, hown, hg, -⟩ := run_append_own (P := Try.prog) W base 61 61 81 i _ 2 32 Try.underlying61 hi hz hsz hby rfl (by omega) (.slice A n c) n (cellsP l) H.row a m d (cellsP ys) (by rw [cellsP_len, hm]) hc (cellsP_one hv) (by unfold maxLen; omega) (by omega) hbase
  have hform : ∃ A' c', v' = .slice A' (n + m) c' := by
    rcases hown.2 with ⟨h, h0⟩ | ⟨g, cap, cur, h, -⟩
    · exact ⟨none, 0, by rw [h, h0]⟩
    · exact ⟨_, _, h⟩
  obtain ⟨A', c', rfl⟩ := hform
  exact ⟨A', c', W', hr, ⟨by rw [List.length_append, H.len, hm], by rw [cellsP_append]; exact hown⟩, hg⟩

/-- what Put, Drop leave -/
def PutPost (w : World) (base : Nat) (l l' : List KV) (key : ByteArray) (e : Ending) (w' : World) : Prop :=
  ∃ A' n' c', e = .returned (.tuple #[.slice A' n' c', (look key l).getD (Value.string ⟨#[]⟩), .bool (look key l).isSome]) ∧ Hid (OwnR w' base A' n' c' l') ∧ Hid (Below w.heap.size w w')
theorem grown_below {w W W' : World} {v : Value} (hb : Below w.heap.size w W) (hg : W.grownBy W' v.ownBlock) (ho : ∀ k, v.ownBlock = some k → w.heap.size ≤ k) : Below w.heap.size w W' :=
  ⟨hg.os.trans hb.os, hg.tape.trans hb.tape, hg.output.trans hb.output, Nat.le_trans hb.size hg.size, fun k hk => (hg.block k (Nat.lt_of_lt_of_le hk hb.size) (fun e => by have := ho k e.symm; omega)).trans (hb.block k hk)⟩
theorem OwnR.own {W : World} {base : Nat} {A : Option Addr} {n c : Nat} {l : List KV} (H : OwnR W base A n c l) : ∀ k, Value.ownBlock (.slice A n c) = some k → base ≤ k := fun k hk => (H.row.lt k hk).1
theorem none_of {key : ByteArray} {l : List KV} (h : (look key l).isSome = false) : look key l = none := by
  cases hl : look key l with
  | none => rfl
  | some v => rw [hl] at h; cases h
theorem part_cells {w : World} {g : Nat} {l : List KV} (hcell : ∀ j u, (cellsP l)[j]? = some u → w.cell? ⟨g, j, none⟩ = some u) (i : Nat) (hi : i ≤ l.length) : (∀ j u, (cellsP (l.take i))[j]? = some u → w.cell? ⟨g, j, none⟩ = some u) ∧ ∀ j u, (cellsP (l.drop i))[j]? = some u → w.cell? ⟨g, i * 2 + j, none⟩ = some u := by
  have e : cellsP l = cellsP (l.take i) ++ cellsP (l.drop i) := by rw [← cellsP_append, List.take_append_drop]
  have hlen : (cellsP (l.take i)).length = i * 2 := by rw [cellsP_len, List.length_take, Nat.min_eq_left hi]
  refine ⟨fun j u hj => hcell j u ?_, fun j u hj => hcell _ u ?_⟩
  · rw [e, List.getElem?_append_left (List.getElem?_eq_some_iff.1 hj).1]; exact hj
  · rw [e, List.getElem?_append_right (by omega), hlen, Nat.add_sub_cancel_left]; exact hj

/-- the first two appends of Put -/
theorem put_two_app {w : World} {g i c n : Nat} {l : List KV} (q : Nat) (hcell : ∀ j u, (cellsP l)[j]? = some u → w.cell? ⟨g, j, none⟩ = some u) (hn : n ≤ 60000) (hl : l.length = n) (hi : i ≤ n) (hv : ∀ p ∈ l, StrV p.2) (key z3 : ByteArray) :
    ∃ A1 c1 w2, (Builtin.append_ #[61, 61] 61 #[.slice none 0 0, .slice (some ⟨g, 0, none⟩) i c]).run Try.prog (w.drewN q) = .ok (.slice A1 i c1) w2 ∧
      ∃ A2 c2 w3, (Builtin.append_ #[61, 61] 61 #[.slice A1 i c1, .slice (some ⟨w2.heap.size, 0, none⟩) 1 1]).run Try.prog (w2.alloc (.cells #[.string key, .string z3] 81)) = .ok (.slice A2 (i + 1) c2) w3 ∧
      OwnR w3 w.heap.size A2 (i + 1) c2 (l.take i ++ [(key, .string z3)]) ∧ Below w.heap.size w w3 := by
  obtain ⟨A1, c1, w2, hr1, own1, gr1⟩ := app_part (W := w.drewN q) (OwnR.nil _ w.heap.size) (by show w.heap.size ≤ _; exact Nat.le_refl _) ⟨g, 0, none⟩ i c (l.take i) (by rw [List.length_take, hl]; omega) (fun p hp => hv p (List.mem_of_mem_take hp)) (fun j u hj => by
    rw [add_lit0]
    exact (part_cells hcell i (by omega)).1 j u hj) (by omega)
  rw [Nat.zero_add] at hr1 own1
  rw [List.nil_append] at own1
  have hb1 : Below w.heap.size w w2 := ⟨gr1.os, gr1.tape, gr1.output, gr1.size, fun k hk => gr1.block k hk (by simp [Value.ownBlock])⟩
  have hbE : Below w2.heap.size w2 (w2.alloc (.cells #[.string key, .string z3] 81)) := (Below.refl _ w2).alloc (Nat.le_refl _) _
  have hbw : Below w.heap.size w (w2.alloc (.cells #[.string key, .string z3] 81)) := hb1.trans (hbE.mono hb1.size)
  obtain ⟨A2, c2, w3, hr2, own2, gr2⟩ := app_part (own1.kept hbE) hbw.size ⟨w2.heap.size, 0, none⟩ 1 1 [(key, .string z3)] rfl (fun p hp => by
    obtain rfl : p = (key, .string z3) := by simpa using hp
    exact ⟨_, rfl⟩) (fun j u hj => by
    rw [add_lit0, (Blk.new w2 81 #[.string key, .string z3]).cell]
    simpa [cellsP] using hj) (by omega)
  exact ⟨A1, c1, w2, hr1, A2, c2, w3, hr2, own2, grown_below hbw gr2 own1.own⟩
/-- the last append -/
theorem put_last {w w3 : World} {g n k d : Nat} {l xs : List KV} {A2 : Option Addr} {n2 c2 : Nat} (hcell : ∀ j u, (cellsP l)[j]? = some u → w.cell? ⟨g, j, none⟩ = some u) (hg : g < w.heap.size) (hn : n ≤ 60000) (hn2 : n2 ≤ 1000 + n) (hl : l.length = n) (hv : ∀ p ∈ l, StrV p.2) (hk : k ≤ n)
    (own2 : OwnR w3 w.heap.size A2 n2 c2 xs) (hb3 : Below w.heap.size w w3) (a : Addr) (ha : a = ⟨g, k * 2, none⟩ ∨ k = n) :
    ∃ A3 c3 w4, (Builtin.append_ #[61, 61] 61 #[.slice A2 n2 c2, .slice (some a) (n - k) d]).run Try.prog w3 = .ok (.slice A3 (n2 + (n - k)) c3) w4 ∧ OwnR w4 w.heap.size A3 (n2 + (n - k)) c3 (xs ++ l.drop k) ∧ Below w.heap.size w w4 := by
  obtain ⟨A3, c3, w4, hr3, own3, gr3⟩ := app_part own2 hb3.size a (n - k) d (l.drop k) (by rw [List.length_drop, hl]) (fun p hp => hv p (List.mem_of_mem_drop hp)) (fun j u hj => by
    rcases ha with rfl | rfl
    · have := (part_cells hcell k (by omega)).2 j u hj
      have e : (⟨g, k * 2, none⟩ : Addr).add j = ⟨g, k * 2 + j, none⟩ := by unfold Addr.add; split <;> simp_all
      rw [e]
      exact (hb3.cell (p := ⟨g, k * 2 + j, none⟩) hg).trans this
    · rw [List.drop_of_length_le (by omega)] at hj
      simp [cellsP] at hj) (by omega)
  exact ⟨A3, c3, w4, hr3, own3, grown_below hb3 gr3 own2.own⟩

set_option maxHeartbeats 4000000 in
set_option maxRecDepth 100000 in
theorem put46_new (w : World) (g n i d c : Nat) (l : List KV) (key z3 : ByteArray) (hat : Calls Try.prog 76 #[.slice (some ⟨g, 0, none⟩) n c, .string key] w fun e w' => e = .returned (.tuple #[.int .i64 i, .bool false]) ∧ ∃ q, w' = w.drewN q)
    (hP : AtP key l i false) (hl : l.length = n) (hgw : g < w.heap.size) (hcell : ∀ j u, (cellsP l)[j]? = some u → w.cell? ⟨g, j, none⟩ = some u) (hn : n ≤ 60000) (hnc : n ≤ c) (hc63 : c ≤ 9223372036854775807) (hd : c = i ∨ c = i + d + 1) (hs : Srt l) (hv : ∀ p ∈ l, StrV p.2) :
    Calls Try.prog 46 #[.slice (some ⟨g, 0, none⟩) n c, .string key, .string z3] w (PutPost w w.heap.size l (ins key (.string z3) l) key) := by
  have hin : i ≤ n := by rw [← hl]; exact hP.le
  have hm := hP.mean hs (.string z3)
  have hnone := none_of hm.1
  have hins : ins key (.string z3) l = (l.take i ++ [(key, .string z3)]) ++ l.drop i := by rw [hm.2.1]; simp
  have HAT := Lib.hid hat
  have app := Lib.hid (fun q => put_two_app (c := c) q hcell hn hl hin hv key z3)
  have lst := Lib.hid (fun (w3 : World) (A2 : Option Addr) (c2 : Nat) (own2 : OwnR w3 w.heap.size A2 (i + 1) c2 (l.take i ++ [(key, .string z3)])) (hb3 : Below w.heap.size w w3) (a : Addr) (d : Nat) (ha : a = ⟨g, i * 2, none⟩ ∨ i = n) => put_last (d := d) hcell hgw hn (by omega) hl hv hin own2 hb3 a ha)
  have HI := Lib.hid hins
  have HN := Lib.hid hnone
  clear hat hP hl hcell hs hv hm hins hnone
  rcases hd with rfl | rfl
  · obtain rfl : n = c := by omega
    have hnz : (n : Int) ≤ (n : Int) := by omega
    have hnz0 : (0 : Int) ≤ (n : Int) := by omega
    go_enter Try.func46, Try.ntmps46
    go_wp2_with fail
    refine HAT.out.mono ?_
    rintro e w1 ⟨rfl, q, rfl⟩
    obtain ⟨A1, c1, w2, hr1, A2, c2, w3, hr2, own2, hb3⟩ := app.out q
    obtain ⟨A3, c3, w4, hr3, own3, hb4⟩ := lst.out w3 A2 c2 own2 hb3 ⟨g, 0, none⟩ 0 (.inr (by first | rfl | trivial))
    have F := Lib.hid own3
    have FB := Lib.hid hb4
    clear own2 hb3 own3 hb4 app lst HAT
    rw [Nat.sub_self] at hr3 F
    go_wp2_with (at_builtin; first | (refine wpList_append_runI _ rfl _ _ 61 61 rfl (.slice none 0 0) (.slice (some ⟨g, 0, none⟩) n n) rfl rfl hr1 ?_) | (refine wpList_append_runI _ rfl _ _ 61 61 rfl (.slice A1 n c1) (.slice (some ⟨w2.heap.size, 0, none⟩) 1 1) rfl rfl hr2 ?_) | (refine wpList_append_runI _ rfl _ _ 61 61 rfl (.slice A2 (n + 1) c2) (.slice (some ⟨g, 0, none⟩) 0 0) rfl rfl hr3 ?_))
    go_ret3
    exact ⟨_, _, _, by rw [HN.out]; rfl, Lib.hid (by rw [HI.out]; exact F.out), FB⟩
  · have hiz : (i : Int) ≤ (n : Int) := by omega
    have hiz0 : (0 : Int) ≤ (i : Int) := by omega
    have hicz : (i : Int) ≤ ((i + d + 1 : Nat) : Int) := by omega
    have hncz : (n : Int) ≤ ((i + d + 1 : Nat) : Int) := by omega
    go_enter Try.func46, Try.ntmps46
    go_wp2_with fail
    refine HAT.out.mono ?_
    rintro e w1 ⟨rfl, q, rfl⟩
    obtain ⟨A1, c1, w2, hr1, A2, c2, w3, hr2, own2, hb3⟩ := app.out q
    obtain ⟨A3, c3, w4, hr3, own3, hb4⟩ := lst.out w3 A2 c2 own2 hb3 ⟨g, i * 2, none⟩ (i + d + 1 - i) (.inl rfl)
    have F := Lib.hid own3
    have FB := Lib.hid hb4
    clear own2 hb3 own3 hb4 app lst HAT
    go_wp2_with (at_builtin; first | (refine wpList_append_runI _ rfl _ _ 61 61 rfl (.slice none 0 0) (.slice (some ⟨g, 0, none⟩) i (i + d + 1)) rfl rfl hr1 ?_) | (refine wpList_append_runI _ rfl _ _ 61 61 rfl (.slice A1 i c1) (.slice (some ⟨w2.heap.size, 0, none⟩) 1 1) rfl rfl hr2 ?_) | (refine wpList_append_runI _ rfl _ _ 61 61 rfl (.slice A2 (i + 1) c2) (.slice (some ⟨g, i * 2, none⟩) (n - i) (i + d + 1 - i)) rfl rfl hr3 ?_))
    go_ret3
    exact ⟨_, _, _, by rw [HN.out]; rfl, Lib.hid (by rw [HI.out]; exact F.out), FB⟩

end Go.Proofs.Ytcidmaeclonilaa

/- ref12.Put where the key is there. -/
namespace Go.Proofs.Ytcidmaeclonilaa
open Go Go.RowKit

set_option maxHeartbeats 4000000 in
set_option maxRecDepth 100000 in
theorem put46_old (w : World) (g n i d c : Nat) (l : List KV) (key z3 zv : ByteArray) (hat : Calls Try.prog 76 #[.slice (some ⟨g, 0, none⟩) n c, .string key] w fun e w' => e = .returned (.tuple #[.int .i64 i, .bool true]) ∧ ∃ q, w' = w.drewN q)
    (hP : AtP key l i true) (hzv : l[i]? = some (key, .string zv)) (hl : l.length = n) (hgw : g < w.heap.size) (hcell : ∀ j u, (cellsP l)[j]? = some u → w.cell? ⟨g, j, none⟩ = some u) (hn : n ≤ 60000) (hnc : n ≤ c) (hc63 : c ≤ 9223372036854775807) (hd : c = i + 1 ∨ c = i + 1 + d + 1) (hs : Srt l) (hv : ∀ p ∈ l, StrV p.2) :
    Calls Try.prog 46 #[.slice (some ⟨g, 0, none⟩) n c, .string key, .string z3] w (PutPost w w.heap.size l (ins key (.string z3) l) key) := by
  have hin : i + 1 ≤ n := by have := (List.getElem?_eq_some_iff.1 hzv).1; omega
  have hm := hP.mean hs (.string z3)
  have hlk := hm.2.2.2 _ hzv
  have hins : ins key (.string z3) l = (l.take i ++ [(key, .string z3)]) ++ l.drop (i + 1) := by rw [hm.2.1]; simp
  have HAT := Lib.hid hat
  have app := Lib.hid (fun q => put_two_app (c := c) q hcell hn hl (by omega : i ≤ n) hv key z3)
  have lst := Lib.hid (fun (w3 : World) (A2 : Option Addr) (c2 : Nat) (own2 : OwnR w3 w.heap.size A2 (i + 1) c2 (l.take i ++ [(key, .string z3)])) (hb3 : Below w.heap.size w w3) (a : Addr) (d : Nat) (ha : a = ⟨g, (i + 1) * 2, none⟩ ∨ i + 1 = n) => put_last (d := d) hcell hgw hn (by omega) hl hv hin own2 hb3 a ha)
  have HC := Lib.hid (And.intro hgw (hcell _ _ (cellsP_at hzv).2))
  have HI := Lib.hid hins
  have HN := Lib.hid hlk
  have hib : (i : Int) + 1 ≤ 9223372036854775807 := by omega
  clear hat hP hl hcell hs hv hm hins hlk hzv
  have hiz : (i : Int) + 1 ≤ (n : Int) := by omega
  have hilt : (i : Int) < (n : Int) := by omega
  have hiz1 : (0 : Int) ≤ (i : Int) + 1 := by omega
  have hiz0 : (0 : Int) ≤ (i : Int) := by omega
  have hwi : IntKind.i64.wrap ((i : Int) + 1) = (i : Int) + 1 := by rw [IntKind.wrap_i64]; omega
  have hne : ¬ (i + 1 + d = i) := by omega
  rcases hd with rfl | rfl
  · have hcn : (i : Int) ≤ ((i + 1 : Nat) : Int) := by omega
    have hcn2 : (n : Int) ≤ ((i + 1 : Nat) : Int) := by omega
    obtain rfl : n = i + 1 := by omega
    have hilt2 : (i : Int) < (i : Int) + 1 := by omega
    have hilt3 : i < i + 1 := by omega
    go_enter Try.func46, Try.ntmps46
    go_wp2_with fail
    refine HAT.out.mono ?_
    rintro e w1 ⟨rfl, q, rfl⟩
    obtain ⟨A1, c1, w2, hr1, A2, c2, w3, hr2, own2, hb3⟩ := app.out q
    have hbd : Below w3.heap.size w3 w3.drew := by have hb := Below.refl w3.heap.size w3; go_grown
    obtain ⟨A3, c3, w4, hr3, own3, hb4⟩ := lst.out w3.drew A2 c2 (own2.kept hbd) (hb3.trans (hbd.mono hb3.size)) ⟨g, 0, none⟩ (i + 1 - (i + 1)) (.inr (by first | trivial | omega))
    rw [Nat.sub_self] at hr3 own3
    have F := Lib.hid own3
    have FB := Lib.hid hb4
    have e3 : w3.drew.cell? ⟨g, i * 2 + 1, none⟩ = some (.string zv) := (hb3.cell (p := ⟨g, i * 2 + 1, none⟩) HC.out.1).trans HC.out.2
    have e4 : w4.cell? ⟨g, i * 2 + 1, none⟩ = some (.string zv) := (hb4.cell (p := ⟨g, i * 2 + 1, none⟩) HC.out.1).trans HC.out.2
    clear own2 hb3 own3 hb4 app lst HAT hbd
    go_wp2_with (at_builtin; first | (refine wpList_append_runI _ rfl _ _ 61 61 rfl (.slice none 0 0) (.slice (some ⟨g, 0, none⟩) i (i + 1)) rfl rfl hr1 ?_) | (refine wpList_append_runI _ rfl _ _ 61 61 rfl (.slice A1 i c1) (.slice (some ⟨w2.heap.size, 0, none⟩) 1 1) rfl rfl hr2 ?_))
    go_region_law (refine step_append_runI rfl _ _ 61 61 rfl (.slice A2 (i + 1) c2) (.slice (some ⟨g, 0, none⟩) 0 0) (by simp [Act.eval, Act.put]) (by simp [Act.eval, Act.put]) hr3 ?_)
    all_goals
      go_wp2_with fail
      go_ret3
      exact ⟨_, _, _, by rw [HN.out]; rfl, Lib.hid (by rw [HI.out]; exact F.out), FB⟩
  · have hcn : (i : Int) ≤ ((i + 1 + d + 1 : Nat) : Int) := by omega
    have hcn2 : (n : Int) ≤ ((i + 1 + d + 1 : Nat) : Int) := by omega
    clear hin hiz0
    have hiz0 : (0 : Int) ≤ (i : Int) := by omega
    go_enter Try.func46, Try.ntmps46
    go_wp2_with fail
    refine HAT.out.mono ?_
    rintro e w1 ⟨rfl, q, rfl⟩
    obtain ⟨A1, c1, w2, hr1, A2, c2, w3, hr2, own2, hb3⟩ := app.out q
    have hbd : Below w3.heap.size w3 w3.drew := by have hb := Below.refl w3.heap.size w3; go_grown
    obtain ⟨A3, c3, w4, hr3, own3, hb4⟩ := lst.out w3.drew A2 c2 (own2.kept hbd) (hb3.trans (hbd.mono hb3.size)) ⟨g, (i + 1) * 2, none⟩ (i + 1 + d + 1 - (i + 1)) (.inl rfl)
    have F := Lib.hid own3
    have FB := Lib.hid hb4
    have e3 : w3.drew.cell? ⟨g, i * 2 + 1, none⟩ = some (.string zv) := (hb3.cell (p := ⟨g, i * 2 + 1, none⟩) HC.out.1).trans HC.out.2
    have e4 : w4.cell? ⟨g, i * 2 + 1, none⟩ = some (.string zv) := (hb4.cell (p := ⟨g, i * 2 + 1, none⟩) HC.out.1).trans HC.out.2
    clear own2 hb3 own3 hb4 app lst HAT hbd
    go_wp2_with (at_builtin; first | (refine wpList_append_runI _ rfl _ _ 61 61 rfl (.slice none 0 0) (.slice (some ⟨g, 0, none⟩) i (i + 1 + d + 1)) rfl rfl hr1 ?_) | (refine wpList_append_runI _ rfl _ _ 61 61 rfl (.slice A1 i c1) (.slice (some ⟨w2.heap.size, 0, none⟩) 1 1) rfl rfl hr2 ?_))
    go_region_law (refine step_append_runI rfl _ _ 61 61 rfl (.slice A2 (i + 1) c2) (.slice (some ⟨g, (i + 1) * 2, none⟩) (n - (i + 1)) (i + 1 + d + 1 - (i + 1))) (by simp [Act.eval, Act.put]) (by simp [Act.eval, Act.put]) hr3 ?_)
    all_goals
      go_wp2_with fail
      go_ret3
      exact ⟨_, _, _, by rw [HN.out]; rfl, Lib.hid (by rw [HI.out]; exact F.out), FB⟩

end Go.Proofs.Ytcidmaeclonilaa

/- ref12.Put at the nil list. -/
namespace Go.Proofs.Ytcidmaeclonilaa
open Go Go.RowKit

theorem app_none (W : World) {A : Option Addr} {n c : Nat} (hn : n ≤ c) : (Builtin.append_ #[61, 61] 61 #[.slice A n c, .slice none 0 0]).run Try.prog W = .ok (.slice A n c) W := by
  obtain ⟨i, hi, hz, hsz, hby⟩ := info81
  cases A <;> simp [Builtin.append_, run_underlying Try.underlying61, sizeOf, typeInfo, hi, Builtin.lenOf, Builtin.firstCells, hn, storeCells, loadCells, loadCellsFrom]

set_option maxHeartbeats 4000000 in
set_option maxRecDepth 100000 in
theorem put46_nil (w : World) (key z3 : ByteArray) (hat : Calls Try.prog 76 #[.slice none 0 0, .string key] w fun e w' => e = .returned (.tuple #[.int .i64 0, .bool false]) ∧ ∃ q, w' = w.drewN q) :
    Calls Try.prog 46 #[.slice none 0 0, .string key, .string z3] w (PutPost w w.heap.size [] (ins key (.string z3) []) key) := by
  have HAT := Lib.hid hat
  clear hat
  go_enter Try.func46, Try.ntmps46
  go_wp2_with fail
  refine HAT.out.mono ?_
  clear HAT
  rintro e w1 ⟨rfl, q, rfl⟩
  have hr1 := app_none (w.drewN q) (A := none) (n := 0) (c := 0) (Nat.le_refl _)
  have hbw : Below w.heap.size w ((w.drewN q).alloc (.cells #[.string key, .string z3] 81)) := (below_drewN' (Below.refl _ w) q).alloc (Nat.le_refl _) _
  obtain ⟨A2, c2, w3, hr2, own2, gr2⟩ := app_part (OwnR.nil ((w.drewN q).alloc (.cells #[.string key, .string z3] 81)) w.heap.size) hbw.size ⟨w.heap.size, 0, none⟩ 1 1 [(key, .string z3)] rfl (fun p hp => by
    obtain rfl : p = (key, .string z3) := by simpa using hp
    exact ⟨_, rfl⟩) (fun j u hj => by
    rw [add_lit0, (show Blk ((w.drewN q).alloc (.cells #[.string key, .string z3] 81)) w.heap.size 81 #[.string key, .string z3] from Blk.new (w.drewN q) 81 _).cell]
    simpa [cellsP] using hj) (by omega)
  have hb3 := Lib.hid (grown_below hbw gr2 (fun k hk => by simp [Value.ownBlock] at hk))
  have hc2 : 1 ≤ c2 := by
    rcases own2.form with ⟨-, h, -⟩ | ⟨g, -, h, -⟩
    · simp at h
    · simpa using h
  have F := Lib.hid (show OwnR w3 w.heap.size A2 1 c2 (ins key (.string z3) []) from by simpa [ins] using own2)
  rw [Nat.zero_add] at hr2
  have hr3 := app_none w3 (A := A2) (n := 1) (c := c2) hc2
  clear own2 gr2 hbw
  go_wp2_with (at_builtin; first | (refine wpList_append_runI _ rfl _ _ 61 61 rfl (.slice none 0 0) (.slice none 0 0) rfl rfl hr1 ?_) | (refine wpList_append_runI _ rfl _ _ 61 61 rfl (.slice none 0 0) (.slice (some ⟨w.heap.size, 0, none⟩) 1 1) rfl rfl hr2 ?_) | (refine wpList_append_runI _ rfl _ _ 61 61 rfl (.slice A2 1 c2) (.slice none 0 0) rfl rfl hr3 ?_))
  go_ret3
  exact ⟨_, _, _, rfl, F, hb3⟩

end Go.Proofs.Ytcidmaeclonilaa

/- ref12.Put, Drop at every list; a tree beside a list. -/
namespace Go.Proofs.Ytcidmaeclonilaa
open Go Go.RowKit

theorem AtP.uniq {key : ByteArray} {l : List KV} {i i' : Nat} {b b' : Bool} (H : AtP key l i b) (H' : AtP key l i' b') : i = i' ∧ b = b' := by
  have one : ∀ {i i' : Nat} {b b' : Bool}, AtP key l i b → AtP key l i' b' → ¬ i < i' := by
    intro i i' b b' H H' h
    obtain ⟨p, hp⟩ : ∃ p, l[i]? = some p := ⟨_, List.getElem?_eq_getElem (by have := H'.le; omega)⟩
    have h1 := H.ge p hp
    have h2 := H'.lt p (List.mem_of_getElem? (i := i) (by rw [List.getElem?_take]; simp [h, hp]))
    rw [h1] at h2
    cases h2
  have hi : i = i' := by have := one H H'; have := one H' H; omega
  subst hi
  refine ⟨rfl, ?_⟩
  have := H.is.trans H'.is.symm
  cases b <;> cases b' <;> simp_all
theorem AtP.exists (key : ByteArray) : ∀ l : List KV, ∃ i b, AtP key l i b
  | [] => ⟨0, false, by simp, fun p hp => by simp at hp, fun p hp => by simp at hp, by simp⟩
  | p :: l => by
    cases h : klt p.1 key with
    | true =>
      obtain ⟨i, b, H⟩ := AtP.exists key l
      refine ⟨i + 1, b, by simpa using H.le, fun q hq => ?_, fun q hq => H.ge q (by simpa using hq), by simpa using H.is⟩
      rw [List.take_succ_cons] at hq
      rcases List.mem_cons.1 hq with rfl | hq
      · exact h
      · exact H.lt q hq
    | false =>
      refine ⟨0, decide (p.1 = key), by simp, fun q hq => by simp at hq, fun q hq => ?_, ?_⟩
      · obtain rfl : p = q := by simpa using hq
        exact h
      · simp
theorem at_fix (w : World) (A : Option Addr) (n c : Nat) (l : List KV) (key : ByteArray) (hA : PArg w A n l) (hn : n ≤ 60000) :
    ∃ i b, AtP key l i b ∧ Calls Try.prog 76 #[.slice A n c, .string key] w fun e w' => e = .returned (.tuple #[.int .i64 i, .bool b]) ∧ ∃ q, w' = w.drewN q := by
  obtain ⟨i, b, H⟩ := AtP.exists key l
  refine ⟨i, b, H, (at76 w A n c l key hA hn).mono ?_⟩
  rintro e w' ⟨i', b', rfl, H', q, rfl⟩
  obtain ⟨rfl, rfl⟩ := H.uniq H'.out
  exact ⟨rfl, q, rfl⟩

theorem put46 {w : World} {base : Nat} {A : Option Addr} {n c : Nat} {l : List KV} (H : OwnR w base A n c l) (hn : n ≤ 60000) (hs : Srt l) (hv : ∀ p ∈ l, StrV p.2) (key z3 : ByteArray) :
    Calls Try.prog 46 #[.slice A n c, .string key, .string z3] w (PutPost w w.heap.size l (ins key (.string z3) l) key) := by
  obtain ⟨i, b, hP, hat⟩ := at_fix w A n c l key H.arg hn
  rcases H.form with ⟨rfl, rfl, rfl, rfl⟩ | ⟨g, rfl, hnc, hc63, -, hg, hcell⟩
  · have hP0 : AtP key [] 0 false := ⟨by simp, fun p hp => by simp at hp, fun p hp => by simp at hp, by simp⟩
    obtain ⟨rfl, rfl⟩ := hP.uniq hP0
    exact put46_nil w key z3 hat
  · have hl := H.len
    cases b with
    | false =>
      have hi := hP.le
      exact put46_new w g n i (c - i - 1) c l key z3 hat hP hl hg hcell hn hnc hc63 (by omega) hs hv
    | true =>
      obtain ⟨v, hp, -, -⟩ := hP.here hs
      obtain ⟨zv, rfl⟩ := hv _ (List.mem_of_getElem? hp)
      have hi := (List.getElem?_eq_some_iff.1 hp).1
      exact put46_old w g n i (c - i - 1 - 1) c l key z3 zv hat hP hp hl hg hcell hn hnc hc63 (by omega) hs hv

/-- the two appends of Drop -/
theorem drop_two_app {w : World} {g i c n d : Nat} {l : List KV} (q : Nat) (hcell : ∀ j u, (cellsP l)[j]? = some u → w.cell? ⟨g, j, none⟩ = some u) (hg : g < w.heap.size) (hn : n ≤ 60000) (hl : l.length = n) (hi : i + 1 ≤ n) (hv : ∀ p ∈ l, StrV p.2) (a : Addr) (ha : a = ⟨g, (i + 1) * 2, none⟩ ∨ i + 1 = n) :
    ∃ A1 c1 w2, (Builtin.append_ #[61, 61] 61 #[.slice none 0 0, .slice (some ⟨g, 0, none⟩) i c]).run Try.prog (w.drewN q).drew = .ok (.slice A1 i c1) w2 ∧ Below w.heap.size w w2 ∧
      ∃ A2 c2 w3, (Builtin.append_ #[61, 61] 61 #[.slice A1 i c1, .slice (some a) (n - (i + 1)) d]).run Try.prog w2 = .ok (.slice A2 (i + (n - (i + 1))) c2) w3 ∧
      OwnR w3 w.heap.size A2 (i + (n - (i + 1))) c2 (l.take i ++ l.drop (i + 1)) ∧ Below w.heap.size w w3 := by
  have hbd : Below w.heap.size w (w.drewN q).drew := below_drewN' (Below.refl _ w) (q + 1)
  obtain ⟨A1, c1, w2, hr1, own1, gr1⟩ := app_part (W := (w.drewN q).drew) (OwnR.nil _ w.heap.size) (by show w.heap.size ≤ _; exact Nat.le_refl _) ⟨g, 0, none⟩ i c (l.take i) (by rw [List.length_take, hl]; omega) (fun p hp => hv p (List.mem_of_mem_take hp)) (fun j u hj => by
    rw [add_lit0]
    exact (part_cells hcell i (by omega)).1 j u hj) (by omega)
  rw [Nat.zero_add] at hr1 own1
  rw [List.nil_append] at own1
  have hb1 : Below w.heap.size w w2 := grown_below hbd gr1 (fun k hk => by simp [Value.ownBlock] at hk)
  obtain ⟨A2, c2, w3, hr2, own2, hb2⟩ := put_last (d := d) hcell hg hn (by omega) hl hv hi own1 hb1 a ha
  exact ⟨A1, c1, w2, hr1, hb1, A2, c2, w3, hr2, own2, hb2⟩

set_option maxHeartbeats 4000000 in
set_option maxRecDepth 100000 in
theorem drop47_none (w : World) (A : Option Addr) (n c i : Nat) (key : ByteArray) (hat : Calls Try.prog 76 #[.slice A n c, .string key] w fun e w' => e = .returned (.tuple #[.int .i64 i, .bool false]) ∧ ∃ q, w' = w.drewN q) :
    Calls Try.prog 47 #[.slice A n c, .string key] w fun e w' => e = .returned (.tuple #[.slice A n c, .string ⟨#[]⟩, .bool false]) ∧ ∃ q, w' = w.drewN q := by
  have HAT := Lib.hid hat
  clear hat
  go_enter Try.func47, Try.ntmps47
  go_wp2_with fail
  refine HAT.out.mono ?_
  clear HAT
  rintro e w1 ⟨rfl, q, rfl⟩
  go_wp2_with fail
  go_ret3
  exact ⟨rfl, _, rfl⟩

set_option maxHeartbeats 4000000 in
set_option maxRecDepth 100000 in
theorem drop47_old (w : World) (g n i d c : Nat) (l : List KV) (key zv : ByteArray) (hat : Calls Try.prog 76 #[.slice (some ⟨g, 0, none⟩) n c, .string key] w fun e w' => e = .returned (.tuple #[.int .i64 i, .bool true]) ∧ ∃ q, w' = w.drewN q)
    (hP : AtP key l i true) (hzv : l[i]? = some (key, .string zv)) (hl : l.length = n) (hgw : g < w.heap.size) (hcell : ∀ j u, (cellsP l)[j]? = some u → w.cell? ⟨g, j, none⟩ = some u) (hn : n ≤ 60000) (hnc : n ≤ c) (hc63 : c ≤ 9223372036854775807) (hd : c = i + 1 ∨ c = i + 1 + d + 1) (hs : Srt l) (hv : ∀ p ∈ l, StrV p.2) :
    Calls Try.prog 47 #[.slice (some ⟨g, 0, none⟩) n c, .string key] w (PutPost w w.heap.size l (del key l) key) := by
  have hin : i + 1 ≤ n := by have := (List.getElem?_eq_some_iff.1 hzv).1; omega
  have hm := hP.mean hs (.string zv)
  have hlk := hm.2.2.2 _ hzv
  have hdel : del key l = l.take i ++ l.drop (i + 1) := by rw [hm.2.2.1]; simp
  have HAT := Lib.hid hat
  have app := Lib.hid (fun (q : Nat) (a : Addr) (d : Nat) (ha : a = ⟨g, (i + 1) * 2, none⟩ ∨ i + 1 = n) => drop_two_app (c := c) (d := d) q hcell hgw hn hl hin hv a ha)
  have HC := Lib.hid (And.intro hgw (hcell _ _ (cellsP_at hzv).2))
  have HI := Lib.hid hdel
  have HN := Lib.hid hlk
  have hib : (i : Int) + 1 ≤ 9223372036854775807 := by omega
  clear hat hP hl hcell hs hv hm hdel hlk hzv
  have hiz : (i : Int) + 1 ≤ (n : Int) := by omega
  have hilt : (i : Int) < (n : Int) := by omega
  have hiz1 : (0 : Int) ≤ (i : Int) + 1 := by omega
  have hiz0 : (0 : Int) ≤ (i : Int) := by omega
  have hwi : IntKind.i64.wrap ((i : Int) + 1) = (i : Int) + 1 := by rw [IntKind.wrap_i64]; omega
  have hne : ¬ (i + 1 + d = i) := by omega
  rcases hd with rfl | rfl
  · have hcn : (i : Int) ≤ ((i + 1 : Nat) : Int) := by omega
    have hcn2 : (n : Int) ≤ ((i + 1 : Nat) : Int) := by omega
    obtain rfl : n = i + 1 := by omega
    have hilt2 : (i : Int) < (i : Int) + 1 := by omega
    have hile2 : (i : Int) ≤ (i : Int) + 1 := by omega
    have hilt3 : i < i + 1 := by omega
    go_enter Try.func47, Try.ntmps47
    go_wp2_with fail
    refine HAT.out.mono ?_
    rintro e w1 ⟨rfl, q, rfl⟩
    obtain ⟨A1, c1, w2, hr1, hb2, A2, c2, w3, hr2, own2, hb3⟩ := app.out q ⟨g, 0, none⟩ (i + 1 - (i + 1)) (.inr (by first | trivial | omega))
    rw [Nat.sub_self] at hr2 own2
    have F := Lib.hid own2
    have FB := Lib.hid hb3
    have e1 : w.cell? ⟨g, i * 2 + 1, none⟩ = some (.string zv) := HC.out.2
    have e2 : w2.cell? ⟨g, i * 2 + 1, none⟩ = some (.string zv) := (hb2.cell (p := ⟨g, i * 2 + 1, none⟩) HC.out.1).trans HC.out.2
    have e3 : w3.cell? ⟨g, i * 2 + 1, none⟩ = some (.string zv) := (hb3.cell (p := ⟨g, i * 2 + 1, none⟩) HC.out.1).trans HC.out.2
    clear own2 hb3 hb2 app HAT
    go_wp2_with fail
    go_region_law (first | (refine step_append_runI rfl _ _ 61 61 rfl (.slice none 0 0) (.slice (some ⟨g, 0, none⟩) i (i + 1)) (by simp [Act.eval, Act.put]) (by simp [Act.eval, Act.put]) hr1 ?_) | (refine step_append_runI rfl _ _ 61 61 rfl (.slice A1 i c1) (.slice (some ⟨g, 0, none⟩) 0 0) (by simp [Act.eval]) (by simp [Act.eval]) hr2 ?_))
    all_goals
      go_wp2_with fail
      go_ret3
      exact ⟨_, _, _, by rw [HN.out]; rfl, Lib.hid (by rw [HI.out]; exact F.out), FB⟩
  · have hcn : (i : Int) ≤ ((i + 1 + d + 1 : Nat) : Int) := by omega
    have hcn2 : (n : Int) ≤ ((i + 1 + d + 1 : Nat) : Int) := by omega
    have hile2 : (i : Int) ≤ (i : Int) + 1 + (d : Int) + 1 := by omega
    clear hin hiz0
    have hiz0 : (0 : Int) ≤ (i : Int) := by omega
    go_enter Try.func47, Try.ntmps47
    go_wp2_with fail
    refine HAT.out.mono ?_
    rintro e w1 ⟨rfl, q, rfl⟩
    obtain ⟨A1, c1, w2, hr1, hb2, A2, c2, w3, hr2, own2, hb3⟩ := app.out q ⟨g, (i + 1) * 2, none⟩ (i + 1 + d + 1 - (i + 1)) (.inl rfl)
    have F := Lib.hid own2
    have FB := Lib.hid hb3
    have e1 : w.cell? ⟨g, i * 2 + 1, none⟩ = some (.string zv) := HC.out.2
    have e2 : w2.cell? ⟨g, i * 2 + 1, none⟩ = some (.string zv) := (hb2.cell (p := ⟨g, i * 2 + 1, none⟩) HC.out.1).trans HC.out.2
    have e3 : w3.cell? ⟨g, i * 2 + 1, none⟩ = some (.string zv) := (hb3.cell (p := ⟨g, i * 2 + 1, none⟩) HC.out.1).trans HC.out.2
    clear own2 hb3 hb2 app HAT
    go_wp2_with fail
    go_region_law (first | (refine step_append_runI rfl _ _ 61 61 rfl (.slice none 0 0) (.slice (some ⟨g, 0, none⟩) i (i + 1 + d + 1)) (by simp [Act.eval, Act.put]) (by simp [Act.eval, Act.put]) hr1 ?_) | (refine step_append_runI rfl _ _ 61 61 rfl (.slice A1 i c1) (.slice (some ⟨g, (i + 1) * 2, none⟩) (n - (i + 1)) (i + 1 + d + 1 - (i + 1))) (by simp [Act.eval]) (by simp [Act.eval]) hr2 ?_))
    all_goals
      go_wp2_with fail
      go_ret3
      exact ⟨_, _, _, by rw [HN.out]; rfl, Lib.hid (by rw [HI.out]; exact F.out), FB⟩

/-- Drop at every list: what is left is a list in a new block, or, where the key was not there, the same -/
theorem drop47 {w : World} {base : Nat} {A : Option Addr} {n c : Nat} {l : List KV} (H : OwnR w base A n c l) (hn : n ≤ 60000) (hs : Srt l) (hv : ∀ p ∈ l, StrV p.2) (key : ByteArray) :
    Calls Try.prog 47 #[.slice A n c, .string key] w fun e w' => PutPost w w.heap.size l (del key l) key e w' ∨ (e = .returned (.tuple #[.slice A n c, (look key l).getD (Value.string ⟨#[]⟩), .bool (look key l).isSome]) ∧ del key l = l ∧ Below w.heap.size w w') := by
  obtain ⟨i, b, hP, hat⟩ := at_fix w A n c l key H.arg hn
  have hm := hP.mean hs (.string ⟨#[]⟩)
  cases b with
  | false =>
    refine (drop47_none w A n c i key hat).mono ?_
    rintro e w' ⟨rfl, q, rfl⟩
    refine .inr ⟨?_, by rw [hm.2.2.1]; simp, below_drewN' (Below.refl _ w) q⟩
    rw [none_of hm.1]; rfl
  | true =>
    obtain ⟨v, hp, -, -⟩ := hP.here hs
    obtain ⟨zv, rfl⟩ := hv _ (List.mem_of_getElem? hp)
    have hi := (List.getElem?_eq_some_iff.1 hp).1
    rcases H.form with ⟨rfl, rfl, rfl, rfl⟩ | ⟨g, rfl, hnc, hc63, -, hg, hcell⟩
    · simp at hi
    · have hl := H.len
      exact (drop47_old w g n i (c - i - 1 - 1) c l key zv hat hP hp hl hg hcell hn hnc hc63 (by omega) hs hv).mono fun e w' h => .inl h

end Go.Proofs.Ytcidmaeclonilaa

/- A tree of the call's own beside a list of pairs and an act in a box. -/
namespace Go.Proofs.Ytcidmaeclonilaa
open Go Go.RowKit

theorem OwnR.weak {W : World} {base base' : Nat} {A : Option Addr} {n c : Nat} {l : List KV} (H : OwnR W base A n c l) (hb : base' ≤ base) : OwnR W base' A n c l := by
  refine ⟨H.len, H.row.1, ?_⟩
  rcases H.row.2 with h | ⟨g, cap, cur, he, hbg, rest⟩
  · exact .inl h
  · exact .inr ⟨g, cap, cur, he, Nat.le_trans hb hbg, rest⟩
theorem OwnR.chg {W W' : World} {base : Nat} {A : Option Addr} {n c : Nat} {l : List KV} {L : List Nat} (H : OwnR W base A n c l) (hb : Chg L W W') (hL : ∀ k, Value.ownBlock (.slice A n c) = some k → k ∉ L) : OwnR W' base A n c l := by
  refine ⟨H.len, H.row.1, ?_⟩
  rcases H.row.2 with h | ⟨g, cap, cur, he, hbg, hg, rest⟩
  · exact .inl h
  · exact .inr ⟨g, cap, cur, he, hbg, (hb.block g (Array.getElem?_eq_some_iff.1 hg).1 (hL g (by rw [he]; rfl))).trans hg, rest⟩
/-- a tree, a list, a box: apart -/
def TL (w0 w : World) (a : Nat) (l : List KV) (A : Option Addr) (n c : Nat) (r : List KV) (X : List Nat) : Prop :=
  ∃ L, IsTreeS w a l L ∧ (∀ k ∈ L, w0.heap.size ≤ k) ∧ Below w0.heap.size w0 w ∧ OwnR w w0.heap.size A n c r ∧ (∀ k, Value.ownBlock (.slice A n c) = some k → k ∉ L) ∧ (∀ k ∈ X, k < w.heap.size ∧ k ∉ L)
section
variable {w0 w : World} {a : Nat} {l r : List KV} {A : Option Addr} {n c : Nat} {X : List Nat}
theorem TL.tree (H : TL w0 w a l A n c r X) : TOwnS w0 w a l := by obtain ⟨L, h1, h2, h3, -⟩ := H; exact ⟨L, h1, h2, h3⟩
theorem TL.list (H : TL w0 w a l A n c r X) : OwnR w w0.heap.size A n c r := by obtain ⟨L, h1, h2, h3, h4, -⟩ := H; exact h4
theorem TL.world (H : TL w0 w a l A n c r X) : Below w0.heap.size w0 w := H.tree.world
theorem TL.below (H : TL w0 w a l A n c r X) {w' : World} (hb : Below w.heap.size w w') : TL w0 w' a l A n c r X := by
  obtain ⟨L, h1, h2, h3, h4, h5, h6⟩ := H
  exact ⟨L, h1.below hb, h2, h3.trans (hb.mono h3.size), h4.kept hb, h5, fun k hk => ⟨Nat.lt_of_lt_of_le (h6 k hk).1 hb.size, (h6 k hk).2⟩⟩
theorem TL.less (H : TL w0 w a l A n c r X) {Y : List Nat} (h : ∀ k ∈ Y, k ∈ X) : TL w0 w a l A n c r Y := by
  obtain ⟨L, h1, h2, h3, h4, h5, h6⟩ := H
  exact ⟨L, h1, h2, h3, h4, h5, fun k hk => h6 k (h k hk)⟩
theorem TL.box (H : TL w0 w a l A n c r X) {w' : World} (hb : Below w.heap.size w w') (hlt : w.heap.size < w'.heap.size) : TL w0 w' a l A n c r (w.heap.size :: X) := by
  have hlt' : ∀ L, IsTreeS w a l L → w.heap.size ∉ L := fun L h hm => by have := h.lt _ hm; omega
  have H' := H.below hb
  obtain ⟨L, h1, h2, h3, h4, h5, h6⟩ := H
  exact ⟨L, h1.below hb, h2, h3.trans (hb.mono h3.size), h4.kept hb, h5, fun k hk => by
    rcases List.mem_cons.1 hk with rfl | hk
    · exact ⟨hlt, hlt' L h1⟩
    · exact ⟨Nat.lt_of_lt_of_le (h6 k hk).1 hb.size, (h6 k hk).2⟩⟩
theorem TL.start {w' : World} (H : TOwnS w w' a []) : TL w w' a [] none 0 0 [] [] := by
  obtain ⟨L, h1, h2, h3⟩ := H
  exact ⟨L, h1, h2, h3, OwnR.nil _ _, fun k hk => by simp [Value.ownBlock] at hk, fun k hk => by cases hk⟩
/-- the blocks of X keep -/
def Kept (X : List Nat) (w w' : World) : Prop := ∀ k ∈ X, w'.heap[k]? = w.heap[k]?
theorem tl_change {w' : World} {l' : List KV} {L : List Nat} (_ : IsTreeS w a l L) (h2 : ∀ k ∈ L, w0.heap.size ≤ k) (h3 : Below w0.heap.size w0 w) (h4 : OwnR w w0.heap.size A n c r) (h5 : ∀ k, Value.ownBlock (.slice A n c) = some k → k ∉ L) (h6 : ∀ k ∈ X, k < w.heap.size ∧ k ∉ L)
    {L' : List Nat} (q1 : IsTreeS w' a l' L') (q2 : Chg L w w') (q3 : Sub w L' L) : TL w0 w' a l' A n c r X ∧ Kept X w w' :=
  ⟨⟨L', q1, fun k hk => (q3 k hk).elim (h2 k) (fun x => Nat.le_trans h3.size x), h3.trans (q2.below h2 h3.size), h4.chg q2 h5, fun k hk hm => (q3 k hm).elim (h5 k hk) (fun x => by have := (h4.row.lt k hk).2; omega), fun k hk => ⟨Nat.lt_of_lt_of_le (h6 k hk).1 q2.size, fun hm => (q3 k hm).elim (h6 k hk).2 (fun x => by have := (h6 k hk).1; omega)⟩⟩,
    fun k hk => q2.block k (h6 k hk).1 (h6 k hk).2⟩
theorem put_tl (H : TL w0 w a l A n c r X) (key z3 : ByteArray) (hlen : l.length ≤ 1000000) :
    Calls Try.prog 26 #[.pointer (some ⟨a, 0, none⟩), .string key, .string z3] w fun e w' => e = .returned (.tuple #[(look key l).getD (Value.string ⟨#[]⟩), .bool (look key l).isSome]) ∧ Hid (TL w0 w' a (ins key (.string z3) l) A n c r X ∧ Kept X w w') := by
  obtain ⟨L, h1, h2, h3, h4, h5, h6⟩ := H
  refine (tputS w a l L key z3 h1 hlen).mono ?_
  rintro e w' ⟨L', q1, q2, q3, q4⟩
  exact ⟨q4, Lib.hid (tl_change h1 h2 h3 h4 h5 h6 q1 q2 q3)⟩
theorem drop_tl (H : TL w0 w a l A n c r X) (key : ByteArray) (hlen : l.length ≤ 1000000) :
    Calls Try.prog 42 #[.pointer (some ⟨a, 0, none⟩), .string key] w fun e w' => e = .returned (.tuple #[(look key l).getD (Value.string ⟨#[]⟩), .bool (look key l).isSome]) ∧ Hid (TL w0 w' a (del key l) A n c r X ∧ Kept X w w') := by
  obtain ⟨L, h1, h2, h3, h4, h5, h6⟩ := H
  refine (tdropS w a l L key h1 hlen).mono ?_
  rintro e w' ⟨L', q1, q2, q3, q4⟩
  exact ⟨q4, Lib.hid (tl_change h1 h2 h3 h4 h5 h6 q1 q2 q3)⟩
theorem tl_list {w' : World} {A' : Option Addr} {n' c' : Nat} {r' : List KV} (H : TL w0 w a l A n c r X) (hb : Below w.heap.size w w') (own : OwnR w' w.heap.size A' n' c' r') : TL w0 w' a l A' n' c' r' X ∧ Kept X w w' := by
  have hlt : ∀ L, IsTreeS w a l L → ∀ k, w.heap.size ≤ k → k ∉ L := fun L h k hk hm => by have := h.lt _ hm; omega
  obtain ⟨L, h1, h2, h3, h4, h5, h6⟩ := H
  exact ⟨⟨L, h1.below hb, h2, h3.trans (hb.mono h3.size), own.weak h3.size, fun k hk => hlt L h1 k (own.own k hk), fun k hk => ⟨Nat.lt_of_lt_of_le (h6 k hk).1 hb.size, (h6 k hk).2⟩⟩, fun k hk => hb.block k (h6 k hk).1⟩
theorem rput_tl (H : TL w0 w a l A n c r X) (hn : n ≤ 60000) (hs : Srt r) (hv : ∀ p ∈ r, StrV p.2) (key z3 : ByteArray) :
    Calls Try.prog 46 #[.slice A n c, .string key, .string z3] w fun e w' => ∃ A' n' c', e = .returned (.tuple #[.slice A' n' c', (look key r).getD (Value.string ⟨#[]⟩), .bool (look key r).isSome]) ∧ Hid (TL w0 w' a l A' n' c' (ins key (.string z3) r) X ∧ Kept X w w') :=
  (put46 H.list hn hs hv key z3).mono fun _ _ ⟨A', n', c', he, h1, h2⟩ => ⟨A', n', c', he, Lib.hid (tl_list H h2.out h1.out)⟩
theorem rdrop_tl (H : TL w0 w a l A n c r X) (hn : n ≤ 60000) (hs : Srt r) (hv : ∀ p ∈ r, StrV p.2) (key : ByteArray) :
    Calls Try.prog 47 #[.slice A n c, .string key] w fun e w' => ∃ A' n' c', e = .returned (.tuple #[.slice A' n' c', (look key r).getD (Value.string ⟨#[]⟩), .bool (look key r).isSome]) ∧ Hid (TL w0 w' a l A' n' c' (del key r) X ∧ Kept X w w') :=
  (drop47 H.list hn hs hv key).mono fun _ w' h => by
    rcases h with ⟨A', n', c', he, h1, h2⟩ | ⟨he, h1, h2⟩
    · exact ⟨A', n', c', he, Lib.hid (tl_list H h2.out h1.out)⟩
    · have hk : Kept X w w' := by
        obtain ⟨L, -, -, -, -, -, h6⟩ := H
        exact fun k hk => h2.block k (h6 k hk).1
      exact ⟨A, n, c, he, Lib.hid ⟨by rw [h1]; exact H.below h2, hk⟩⟩
end

end Go.Proofs.Ytcidmaeclonilaa
