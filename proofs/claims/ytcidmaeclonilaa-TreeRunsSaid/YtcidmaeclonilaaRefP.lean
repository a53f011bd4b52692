/- ref12.Put, Drop: a new list each time. -/
import Derived.Test.YtcidmaeclonilaaRefT
namespace Go.Proofs.Ytcidmaeclonilaa
open Go Go.RowKit

/-- the cells of pairs -/
def cellsP (l : List KV) : List Value := (l.map fun p => [Value.string p.1, p.2]).flatten
theorem cellsP_len (l : List KV) : (cellsP l).length = l.length * 2 := by
  induction l with
  | nil => rfl
  | cons p l ih => simp only [cellsP, List.map_cons, List.flatten_cons, List.length_append, List.length_cons, List.length_nil] at ih ⊢; omega
theorem cellsP_append (a b : List KV) : cellsP (a ++ b) = cellsP a ++ cellsP b := by simp [cellsP]
theorem cellsP_at : ∀ {l : List KV} {i : Nat} {p : KV}, l[i]? = some p → (cellsP l)[i * 2]? = some (.string p.1) ∧ (cellsP l)[i * 2 + 1]? = some p.2
  | [], _, _, h => by simp at h
  | q :: l, 0, p, h => by
    obtain rfl : q = p := by simpa using h
    exact ⟨rfl, rfl⟩
  | q :: l, i + 1, p, h => by
    have ih := cellsP_at (l := l) (i := i) (p := p) (by simpa using h)
    have e : cellsP (q :: l) = Value.string q.1 :: q.2 :: cellsP l := rfl
    rw [e, show (i + 1) * 2 = i * 2 + 1 + 1 by omega, show i * 2 + 1 + 1 + 1 = (i * 2 + 1) + 1 + 1 by omega]
    simp only [List.getElem?_cons_succ]
    exact ih
theorem cellsP_one {l : List KV} (hv : ∀ p ∈ l, StrV p.2) : ∀ u ∈ cellsP l, u.oneCell' = true := by
  intro u hu
  obtain ⟨c, hc, huc⟩ := List.mem_flatten.1 hu
  obtain ⟨p, hp, rfl⟩ := List.mem_map.1 hc
  obtain ⟨s, hs⟩ := hv p hp
  simp only [List.mem_cons, List.not_mem_nil, or_false] at huc
  rcases huc with rfl | rfl
  · rfl
  · rw [hs]; rfl

/-- a list of pairs in a block of its own, from base on -/
structure OwnR (W : World) (base : Nat) (A : Option Addr) (n c : Nat) (l : List KV) : Prop where
  len : l.length = n
  row : W.ownsRow base 81 2 (.slice A n c) n (cellsP l)
theorem OwnR.arg {W : World} {base : Nat} {A : Option Addr} {n c : Nat} {l : List KV} (H : OwnR W base A n c l) : PArg W A n l := by
  refine ⟨H.len, fun i p hi => ?_⟩
  have hlt := (List.getElem?_eq_some_iff.1 hi).1
  rcases H.row.2 with ⟨-, h0⟩ | ⟨g, cap, cur, he, hb, hg, -⟩
  · have := H.len; omega
  · injection he with e1 _ _
    subst e1
    have hc := H.row.cells (g := g) rfl
    obtain ⟨h1, h2⟩ := cellsP_at hi
    exact ⟨g, rfl, (Array.getElem?_eq_some_iff.1 hg).1, by have := hc _ _ h1; rwa [add_lit0] at this, by have := hc _ _ h2; rwa [add_lit0] at this⟩
theorem OwnR.form {W : World} {base : Nat} {A : Option Addr} {n c : Nat} {l : List KV} (H : OwnR W base A n c l) : (A = none ∧ n = 0 ∧ c = 0 ∧ l = []) ∨ ∃ g, A = some ⟨g, 0, none⟩ ∧ n ≤ c ∧ c ≤ 9223372036854775807 ∧ base ≤ g ∧ g < W.heap.size ∧ ∀ j u, (cellsP l)[j]? = some u → W.cell? ⟨g, j, none⟩ = some u := by
  rcases H.row.2 with ⟨he, h0⟩ | ⟨g, cap, cur, he, hb, hg, h1, h2, -⟩
  · injection he with e1 e2 e3
    exact .inl ⟨e1, e2, e3, List.length_eq_zero_iff.1 (H.len.trans h0)⟩
  · injection he with e1 e2 e3
    subst e1 e3
    refine .inr ⟨g, rfl, h1, h2, hb, (Array.getElem?_eq_some_iff.1 hg).1, fun j u hj => ?_⟩
    have := H.row.cells (g := g) rfl j u hj
    rwa [add_lit0] at this
theorem OwnR.kept {W W' : World} {base : Nat} {A : Option Addr} {n c : Nat} {l : List KV} (H : OwnR W base A n c l) (hb : Below W.heap.size W W') : OwnR W' base A n c l := by
  refine ⟨H.len, H.row.1, ?_⟩
  rcases H.row.2 with h | ⟨g, cap, cur, he, hbg, hg, rest⟩
  · exact .inl h
  · exact .inr ⟨g, cap, cur, he, hbg, (hb.block g (Array.getElem?_eq_some_iff.1 hg).1).trans hg, rest⟩
theorem OwnR.nil (W : World) (base : Nat) : OwnR W base none 0 0 [] := ⟨rfl, World.ownsRow_nil W base 81 2⟩

/-- the type's facts -/
theorem info81 : ∃ i, Try.prog.info? 81 = some i ∧ i.zero = some (.agg #[.string ⟨#[]⟩, .string ⟨#[]⟩]) ∧ i.size = 2 ∧ i.bytes = 32 := by
  have h : (Try.prog.info? 81).map (fun i => (i.zero, i.size, i.bytes)) = some (some (.agg #[.string ⟨#[]⟩, .string ⟨#[]⟩]), 2, 32) := by kernel_rfl
  obtain ⟨i0, hi, hz0, hz1, hz2⟩ := info_parts h
  exact ⟨i0, hi, hz0, hz1, hz2⟩

/-- append of a part of a list -/
theorem app_part {W : World} {base : Nat} {A : Option Addr} {n c : Nat} {l : List KV} (H : OwnR W base A n c l) (hbase : base ≤ W.heap.size) (a : Addr) (m d : Nat) (ys : List KV) (hm : ys.length = m) (hv : ∀ p ∈ ys, StrV p.2)
    (hc : ∀ j u, (cellsP ys)[j]? = some u → W.cell? (a.add j) = some u) (hs : n + m ≤ 1000000) :
    ∃ A' c' W', (Builtin.append_ #[61, 61] 61 #[.slice A n c, .slice (some a) m d]).run Try.prog W = .ok (.slice A' (n + m) c') W' ∧ OwnR W' base A' (n + m) c' (l ++ ys) ∧ W.grownBy W' (Value.ownBlock (.slice A n c)) := by
  obtain ⟨i, hi, hz, hsz, hby⟩ := info81
  obtain ⟨v', W', hr, hown, hg, -⟩ := run_append_own (P := Try.prog) W base 61 61 81 i _ 2 32 Try.underlying61 hi hz hsz hby rfl (by omega) (.slice A n c) n (cellsP l) H.row a m d (cellsP ys) (by rw [cellsP_len, hm]) hc (cellsP_one hv) (by unfold maxLen; omega) (by omega) hbase
  have hform : ∃ A' c', v' = .slice A' (n + m) c' := by
    rcases hown.2 with ⟨h, h0⟩ | ⟨g, cap, cur, h, -⟩
    · exact ⟨none, 0, by rw [h, h0]⟩
    · exact ⟨_, _, h⟩
  obtain ⟨A', c', rfl⟩ := hform
  exact ⟨A', c', W', hr, ⟨by rw [List.length_append, H.len, hm], by rw [cellsP_append]; exact hown⟩, hg⟩

/-- what Put, Drop leave -/
def PutPost (w : World) (base : Nat) (l l' : List KV) (key : ByteArray) (e : Ending) (w' : World) : Prop :=
  ∃ A' n' c', e = .returned (.tuple #[.slice A' n' c', (look key l).getD (Value.string ⟨#[]⟩), .bool (look key l).isSome]) ∧ Hid (OwnR w' base A' n' c' l') ∧ Hid (Below w.heap.size w w')
theorem grown_below {w W W' : World} {v : Value} (hb : Below w.heap.size w W) (hg : W.grownBy W' v.ownBlock) (ho : ∀ k, v.ownBlock = some k → w.heap.size ≤ k) : Below w.heap.size w W' :=
  ⟨hg.os.trans hb.os, hg.tape.trans hb.tape, hg.output.trans hb.output, Nat.le_trans hb.size hg.size, fun k hk => (hg.block k (Nat.lt_of_lt_of_le hk hb.size) (fun e => by have := ho k e.symm; omega)).trans (hb.block k hk)⟩
theorem OwnR.own {W : World} {base : Nat} {A : Option Addr} {n c : Nat} {l : List KV} (H : OwnR W base A n c l) : ∀ k, Value.ownBlock (.slice A n c) = some k → base ≤ k := fun k hk => (H.row.lt k hk).1
theorem none_of {key : ByteArray} {l : List KV} (h : (look key l).isSome = false) : look key l = none := by
  cases hl : look key l with
  | none => rfl
  | some v => rw [hl] at h; cases h
theorem part_cells {w : World} {g : Nat} {l : List KV} (hcell : ∀ j u, (cellsP l)[j]? = some u → w.cell? ⟨g, j, none⟩ = some u) (i : Nat) (hi : i ≤ l.length) : (∀ j u, (cellsP (l.take i))[j]? = some u → w.cell? ⟨g, j, none⟩ = some u) ∧ ∀ j u, (cellsP (l.drop i))[j]? = some u → w.cell? ⟨g, i * 2 + j, none⟩ = some u := by
  have e : cellsP l = cellsP (l.take i) ++ cellsP (l.drop i) := by rw [← cellsP_append, List.take_append_drop]
  have hlen : (cellsP (l.take i)).length = i * 2 := by rw [cellsP_len, List.length_take, Nat.min_eq_left hi]
  refine ⟨fun j u hj => hcell j u ?_, fun j u hj => hcell _ u ?_⟩
  · rw [e, List.getElem?_append_left (List.getElem?_eq_some_iff.1 hj).1]; exact hj
  · rw [e, List.getElem?_append_right (by omega), hlen, Nat.add_sub_cancel_left]; exact hj

/-- the first two appends of Put -/
theorem put_two_app {w : World} {g i c n : Nat} {l : List KV} (q : Nat) (hcell : ∀ j u, (cellsP l)[j]? = some u → w.cell? ⟨g, j, none⟩ = some u) (hn : n ≤ 60000) (hl : l.length = n) (hi : i ≤ n) (hv : ∀ p ∈ l, StrV p.2) (key z3 : ByteArray) :
    ∃ A1 c1 w2, (Builtin.append_ #[61, 61] 61 #[.slice none 0 0, .slice (some ⟨g, 0, none⟩) i c]).run Try.prog (w.drewN q) = .ok (.slice A1 i c1) w2 ∧
      ∃ A2 c2 w3, (Builtin.append_ #[61, 61] 61 #[.slice A1 i c1, .slice (some ⟨w2.heap.size, 0, none⟩) 1 1]).run Try.prog (w2.alloc (.cells #[.string key, .string z3] 81)) = .ok (.slice A2 (i + 1) c2) w3 ∧
      OwnR w3 w.heap.size A2 (i + 1) c2 (l.take i ++ [(key, .string z3)]) ∧ Below w.heap.size w w3 := by
  obtain ⟨A1, c1, w2, hr1, own1, gr1⟩ := app_part (W := w.drewN q) (OwnR.nil _ w.heap.size) (by show w.heap.size ≤ _; exact Nat.le_refl _) ⟨g, 0, none⟩ i c (l.take i) (by rw [List.length_take, hl]; omega) (fun p hp => hv p (List.mem_of_mem_take hp)) (fun j u hj => by
    rw [add_lit0]
    exact (part_cells hcell i (by omega)).1 j u hj) (by omega)
  rw [Nat.zero_add] at hr1 own1
  rw [List.nil_append] at own1
  have hb1 : Below w.heap.size w w2 := ⟨gr1.os, gr1.tape, gr1.output, gr1.size, fun k hk => gr1.block k hk (by simp [Value.ownBlock])⟩
  have hbE : Below w2.heap.size w2 (w2.alloc (.cells #[.string key, .string z3] 81)) := (Below.refl _ w2).alloc (Nat.le_refl _) _
  have hbw : Below w.heap.size w (w2.alloc (.cells #[.string key, .string z3] 81)) := hb1.trans (hbE.mono hb1.size)
  obtain ⟨A2, c2, w3, hr2, own2, gr2⟩ := app_part (own1.kept hbE) hbw.size ⟨w2.heap.size, 0, none⟩ 1 1 [(key, .string z3)] rfl (fun p hp => by
    obtain rfl : p = (key, .string z3) := by simpa using hp
    exact ⟨_, rfl⟩) (fun j u hj => by
    rw [add_lit0, (Blk.new w2 81 #[.string key, .string z3]).cell]
    simpa [cellsP] using hj) (by omega)
  exact ⟨A1, c1, w2, hr1, A2, c2, w3, hr2, own2, grown_below hbw gr2 own1.own⟩
/-- the last append -/
theorem put_last {w w3 : World} {g n k d : Nat} {l xs : List KV} {A2 : Option Addr} {n2 c2 : Nat} (hcell : ∀ j u, (cellsP l)[j]? = some u → w.cell? ⟨g, j, none⟩ = some u) (hg : g < w.heap.size) (hn : n ≤ 60000) (hn2 : n2 ≤ 1000 + n) (hl : l.length = n) (hv : ∀ p ∈ l, StrV p.2) (hk : k ≤ n)
    (own2 : OwnR w3 w.heap.size A2 n2 c2 xs) (hb3 : Below w.heap.size w w3) (a : Addr) (ha : a = ⟨g, k * 2, none⟩ ∨ k = n) :
    ∃ A3 c3 w4, (Builtin.append_ #[61, 61] 61 #[.slice A2 n2 c2, .slice (some a) (n - k) d]).run Try.prog w3 = .ok (.slice A3 (n2 + (n - k)) c3) w4 ∧ OwnR w4 w.heap.size A3 (n2 + (n - k)) c3 (xs ++ l.drop k) ∧ Below w.heap.size w w4 := by
  obtain ⟨A3, c3, w4, hr3, own3, gr3⟩ := app_part own2 hb3.size a (n - k) d (l.drop k) (by rw [List.length_drop, hl]) (fun p hp => hv p (List.mem_of_mem_drop hp)) (fun j u hj => by
    rcases ha with rfl | rfl
    · have := (part_cells hcell k (by omega)).2 j u hj
      have e : (⟨g, k * 2, none⟩ : Addr).add j = ⟨g, k * 2 + j, none⟩ := by unfold Addr.add; split <;> simp_all
      rw [e]
      exact (hb3.cell (p := ⟨g, k * 2 + j, none⟩) hg).trans this
    · rw [List.drop_of_length_le (by omega)] at hj
      simp [cellsP] at hj) (by omega)
  exact ⟨A3, c3, w4, hr3, own3, grown_below hb3 gr3 own2.own⟩

set_option maxHeartbeats 4000000 in
set_option maxRecDepth 100000 in
theorem put46_new (w : World) (g n i d c : Nat) (l : List KV) (key z3 : ByteArray) (hat : Calls Try.prog 76 #[.slice (some ⟨g, 0, none⟩) n c, .string key] w fun e w' => e = .returned (.tuple #[.int .i64 i, .bool false]) ∧ ∃ q, w' = w.drewN q)
    (hP : AtP key l i false) (hl : l.length = n) (hgw : g < w.heap.size) (hcell : ∀ j u, (cellsP l)[j]? = some u → w.cell? ⟨g, j, none⟩ = some u) (hn : n ≤ 60000) (hnc : n ≤ c) (hc63 : c ≤ 9223372036854775807) (hd : c = i ∨ c = i + d + 1) (hs : Srt l) (hv : ∀ p ∈ l, StrV p.2) :
    Calls Try.prog 46 #[.slice (some ⟨g, 0, none⟩) n c, .string key, .string z3] w (PutPost w w.heap.size l (ins key (.string z3) l) key) := by
  have hin : i ≤ n := by rw [← hl]; exact hP.le
  have hm := hP.mean hs (.string z3)
  have hnone := none_of hm.1
  have hins : ins key (.string z3) l = (l.take i ++ [(key, .string z3)]) ++ l.drop i := by rw [hm.2.1]; simp
  have HAT := Lib.hid hat
  have app := Lib.hid (fun q => put_two_app (c := c) q hcell hn hl hin hv key z3)
  have lst := Lib.hid (fun (w3 : World) (A2 : Option Addr) (c2 : Nat) (own2 : OwnR w3 w.heap.size A2 (i + 1) c2 (l.take i ++ [(key, .string z3)])) (hb3 : Below w.heap.size w w3) (a : Addr) (d : Nat) (ha : a = ⟨g, i * 2, none⟩ ∨ i = n) => put_last (d := d) hcell hgw hn (by omega) hl hv hin own2 hb3 a ha)
  have HI := Lib.hid hins
  have HN := Lib.hid hnone
  clear hat hP hl hcell hs hv hm hins hnone
  rcases hd with rfl | rfl
  · obtain rfl : n = c := by omega
    have hnz : (n : Int) ≤ (n : Int) := by omega
    have hnz0 : (0 : Int) ≤ (n : Int) := by omega
    go_enter Try.func46, Try.ntmps46
    go_wp2_with fail
    refine HAT.out.mono ?_
    rintro e w1 ⟨rfl, q, rfl⟩
    obtain ⟨A1, c1, w2, hr1, A2, c2, w3, hr2, own2, hb3⟩ := app.out q
    obtain ⟨A3, c3, w4, hr3, own3, hb4⟩ := lst.out w3 A2 c2 own2 hb3 ⟨g, 0, none⟩ 0 (.inr (by first | rfl | trivial))
    have F := Lib.hid own3
    have FB := Lib.hid hb4
    clear own2 hb3 own3 hb4 app lst HAT
    rw [Nat.sub_self] at hr3 F
    go_wp2_with (at_builtin; first | (refine wpList_append_runI _ rfl _ _ 61 61 rfl (.slice none 0 0) (.slice (some ⟨g, 0, none⟩) n n) rfl rfl hr1 ?_) | (refine wpList_append_runI _ rfl _ _ 61 61 rfl (.slice A1 n c1) (.slice (some ⟨w2.heap.size, 0, none⟩) 1 1) rfl rfl hr2 ?_) | (refine wpList_append_runI _ rfl _ _ 61 61 rfl (.slice A2 (n + 1) c2) (.slice (some ⟨g, 0, none⟩) 0 0) rfl rfl hr3 ?_))
    go_ret3
    exact ⟨_, _, _, by rw [HN.out]; rfl, Lib.hid (by rw [HI.out]; exact F.out), FB⟩
  · have hiz : (i : Int) ≤ (n : Int) := by omega
    have hiz0 : (0 : Int) ≤ (i : Int) := by omega
    have hicz : (i : Int) ≤ ((i + d + 1 : Nat) : Int) := by omega
    have hncz : (n : Int) ≤ ((i + d + 1 : Nat) : Int) := by omega
    go_enter Try.func46, Try.ntmps46
    go_wp2_with fail
    refine HAT.out.mono ?_
    rintro e w1 ⟨rfl, q, rfl⟩
    obtain ⟨A1, c1, w2, hr1, A2, c2, w3, hr2, own2, hb3⟩ := app.out q
    obtain ⟨A3, c3, w4, hr3, own3, hb4⟩ := lst.out w3 A2 c2 own2 hb3 ⟨g, i * 2, none⟩ (i + d + 1 - i) (.inl rfl)
    have F := Lib.hid own3
    have FB := Lib.hid hb4
    clear own2 hb3 own3 hb4 app lst HAT
    go_wp2_with (at_builtin; first | (refine wpList_append_runI _ rfl _ _ 61 61 rfl (.slice none 0 0) (.slice (some ⟨g, 0, none⟩) i (i + d + 1)) rfl rfl hr1 ?_) | (refine wpList_append_runI _ rfl _ _ 61 61 rfl (.slice A1 i c1) (.slice (some ⟨w2.heap.size, 0, none⟩) 1 1) rfl rfl hr2 ?_) | (refine wpList_append_runI _ rfl _ _ 61 61 rfl (.slice A2 (i + 1) c2) (.slice (some ⟨g, i * 2, none⟩) (n - i) (i + d + 1 - i)) rfl rfl hr3 ?_))
    go_ret3
    exact ⟨_, _, _, by rw [HN.out]; rfl, Lib.hid (by rw [HI.out]; exact F.out), FB⟩

end Go.Proofs.Ytcidmaeclonilaa
