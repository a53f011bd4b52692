/- ref12.Put, Drop at every list; a tree beside a list. -/
import Derived.Test.YtcidmaeclonilaaRefQ
import Derived.Test.YtcidmaeclonilaaRefR
namespace Go.Proofs.Ytcidmaeclonilaa
open Go Go.RowKit

theorem AtP.uniq {key : ByteArray} {l : List KV} {i i' : Nat} {b b' : Bool} (H : AtP key l i b) (H' : AtP key l i' b') : i = i' ∧ b = b' := by
  have one : ∀ {i i' : Nat} {b b' : Bool}, AtP key l i b → AtP key l i' b' → ¬ i < i' := by
    intro i i' b b' H H' h
    obtain ⟨p, hp⟩ : ∃ p, l[i]? = some p := ⟨_, List.getElem?_eq_getElem (by have := H'.le; omega)⟩
    have h1 := H.ge p hp
    have h2 := H'.lt p (List.mem_of_getElem? (i := i) (by rw [List.getElem?_take]; simp [h, hp]))
    rw [h1] at h2
    cases h2
  have hi : i = i' := by have := one H H'; have := one H' H; omega
  subst hi
  refine ⟨rfl, ?_⟩
  have := H.is.trans H'.is.symm
  cases b <;> cases b' <;> simp_all
theorem AtP.exists (key : ByteArray) : ∀ l : List KV, ∃ i b, AtP key l i b
  | [] => ⟨0, false, by simp, fun p hp => by simp at hp, fun p hp => by simp at hp, by simp⟩
  | p :: l => by
    cases h : klt p.1 key with
    | true =>
      obtain ⟨i, b, H⟩ := AtP.exists key l
      refine ⟨i + 1, b, by simpa using H.le, fun q hq => ?_, fun q hq => H.ge q (by simpa using hq), by simpa using H.is⟩
      rw [List.take_succ_cons] at hq
      rcases List.mem_cons.1 hq with rfl | hq
      · exact h
      · exact H.lt q hq
    | false =>
      refine ⟨0, decide (p.1 = key), by simp, fun q hq => by simp at hq, fun q hq => ?_, ?_⟩
      · obtain rfl : p = q := by simpa using hq
        exact h
      · simp
theorem at_fix (w : World) (A : Option Addr) (n c : Nat) (l : List KV) (key : ByteArray) (hA : PArg w A n l) (hn : n ≤ 60000) :
    ∃ i b, AtP key l i b ∧ Calls Try.prog 76 #[.slice A n c, .string key] w fun e w' => e = .returned (.tuple #[.int .i64 i, .bool b]) ∧ ∃ q, w' = w.drewN q := by
  obtain ⟨i, b, H⟩ := AtP.exists key l
  refine ⟨i, b, H, (at76 w A n c l key hA hn).mono ?_⟩
  rintro e w' ⟨i', b', rfl, H', q, rfl⟩
  obtain ⟨rfl, rfl⟩ := H.uniq H'.out
  exact ⟨rfl, q, rfl⟩

theorem put46 {w : World} {base : Nat} {A : Option Addr} {n c : Nat} {l : List KV} (H : OwnR w base A n c l) (hn : n ≤ 60000) (hs : Srt l) (hv : ∀ p ∈ l, StrV p.2) (key z3 : ByteArray) :
    Calls Try.prog 46 #[.slice A n c, .string key, .string z3] w (PutPost w w.heap.size l (ins key (.string z3) l) key) := by
  obtain ⟨i, b, hP, hat⟩ := at_fix w A n c l key H.arg hn
  rcases H.form with ⟨rfl, rfl, rfl, rfl⟩ | ⟨g, rfl, hnc, hc63, -, hg, hcell⟩
  · have hP0 : AtP key [] 0 false := ⟨by simp, fun p hp => by simp at hp, fun p hp => by simp at hp, by simp⟩
    obtain ⟨rfl, rfl⟩ := hP.uniq hP0
    exact put46_nil w key z3 hat
  · have hl := H.len
    cases b with
    | false =>
      have hi := hP.le
      exact put46_new w g n i (c - i - 1) c l key z3 hat hP hl hg hcell hn hnc hc63 (by omega) hs hv
    | true =>
      obtain ⟨v, hp, -, -⟩ := hP.here hs
      obtain ⟨zv, rfl⟩ := hv _ (List.mem_of_getElem? hp)
      have hi := (List.getElem?_eq_some_iff.1 hp).1
      exact put46_old w g n i (c - i - 1 - 1) c l key z3 zv hat hP hp hl hg hcell hn hnc hc63 (by omega) hs hv

/-- the two appends of Drop -/
theorem drop_two_app {w : World} {g i c n d : Nat} {l : List KV} (q : Nat) (hcell : ∀ j u, (cellsP l)[j]? = some u → w.cell? ⟨g, j, none⟩ = some u) (hg : g < w.heap.size) (hn : n ≤ 60000) (hl : l.length = n) (hi : i + 1 ≤ n) (hv : ∀ p ∈ l, StrV p.2) (a : Addr) (ha : a = ⟨g, (i + 1) * 2, none⟩ ∨ i + 1 = n) :
    ∃ A1 c1 w2, (Builtin.append_ #[61, 61] 61 #[.slice none 0 0, .slice (some ⟨g, 0, none⟩) i c]).run Try.prog (w.drewN q).drew = .ok (.slice A1 i c1) w2 ∧ Below w.heap.size w w2 ∧
      ∃ A2 c2 w3, (Builtin.append_ #[61, 61] 61 #[.slice A1 i c1, .slice (some a) (n - (i + 1)) d]).run Try.prog w2 = .ok (.slice A2 (i + (n - (i + 1))) c2) w3 ∧
      OwnR w3 w.heap.size A2 (i + (n - (i + 1))) c2 (l.take i ++ l.drop (i + 1)) ∧ Below w.heap.size w w3 := by
  have hbd : Below w.heap.size w (w.drewN q).drew := below_drewN' (Below.refl _ w) (q + 1)
  obtain ⟨A1, c1, w2, hr1, own1, gr1⟩ := app_part (W := (w.drewN q).drew) (OwnR.nil _ w.heap.size) (by show w.heap.size ≤ _; exact Nat.le_refl _) ⟨g, 0, none⟩ i c (l.take i) (by rw [List.length_take, hl]; omega) (fun p hp => hv p (List.mem_of_mem_take hp)) (fun j u hj => by
    rw [add_lit0]
    exact (part_cells hcell i (by omega)).1 j u hj) (by omega)
  rw [Nat.zero_add] at hr1 own1
  rw [List.nil_append] at own1
  have hb1 : Below w.heap.size w w2 := grown_below hbd gr1 (fun k hk => by simp [Value.ownBlock] at hk)
  obtain ⟨A2, c2, w3, hr2, own2, hb2⟩ := put_last (d := d) hcell hg hn (by omega) hl hv hi own1 hb1 a ha
  exact ⟨A1, c1, w2, hr1, hb1, A2, c2, w3, hr2, own2, hb2⟩

set_option maxHeartbeats 4000000 in
set_option maxRecDepth 100000 in
theorem drop47_none (w : World) (A : Option Addr) (n c i : Nat) (key : ByteArray) (hat : Calls Try.prog 76 #[.slice A n c, .string key] w fun e w' => e = .returned (.tuple #[.int .i64 i, .bool false]) ∧ ∃ q, w' = w.drewN q) :
    Calls Try.prog 47 #[.slice A n c, .string key] w fun e w' => e = .returned (.tuple #[.slice A n c, .string ⟨#[]⟩, .bool false]) ∧ ∃ q, w' = w.drewN q := by
  have HAT := Lib.hid hat
  clear hat
  go_enter Try.func47, Try.ntmps47
  go_wp2_with fail
  refine HAT.out.mono ?_
  clear HAT
  rintro e w1 ⟨rfl, q, rfl⟩
  go_wp2_with fail
  go_ret3
  exact ⟨rfl, _, rfl⟩

set_option maxHeartbeats 4000000 in
set_option maxRecDepth 100000 in
theorem drop47_old (w : World) (g n i d c : Nat) (l : List KV) (key zv : ByteArray) (hat : Calls Try.prog 76 #[.slice (some ⟨g, 0, none⟩) n c, .string key] w fun e w' => e = .returned (.tuple #[.int .i64 i, .bool true]) ∧ ∃ q, w' = w.drewN q)
    (hP : AtP key l i true) (hzv : l[i]? = some (key, .string zv)) (hl : l.length = n) (hgw : g < w.heap.size) (hcell : ∀ j u, (cellsP l)[j]? = some u → w.cell? ⟨g, j, none⟩ = some u) (hn : n ≤ 60000) (hnc : n ≤ c) (hc63 : c ≤ 9223372036854775807) (hd : c = i + 1 ∨ c = i + 1 + d + 1) (hs : Srt l) (hv : ∀ p ∈ l, StrV p.2) :
    Calls Try.prog 47 #[.slice (some ⟨g, 0, none⟩) n c, .string key] w (PutPost w w.heap.size l (del key l) key) := by
  have hin : i + 1 ≤ n := by have := (List.getElem?_eq_some_iff.1 hzv).1; omega
  have hm := hP.mean hs (.string zv)
  have hlk := hm.2.2.2 _ hzv
  have hdel : del key l = l.take i ++ l.drop (i + 1) := by rw [hm.2.2.1]; simp
  have HAT := Lib.hid hat
  have app := Lib.hid (fun (q : Nat) (a : Addr) (d : Nat) (ha : a = ⟨g, (i + 1) * 2, none⟩ ∨ i + 1 = n) => drop_two_app (c := c) (d := d) q hcell hgw hn hl hin hv a ha)
  have HC := Lib.hid (And.intro hgw (hcell _ _ (cellsP_at hzv).2))
  have HI := Lib.hid hdel
  have HN := Lib.hid hlk
  have hib : (i : Int) + 1 ≤ 9223372036854775807 := by omega
  clear hat hP hl hcell hs hv hm hdel hlk hzv
  have hiz : (i : Int) + 1 ≤ (n : Int) := by omega
  have hilt : (i : Int) < (n : Int) := by omega
  have hiz1 : (0 : Int) ≤ (i : Int) + 1 := by omega
  have hiz0 : (0 : Int) ≤ (i : Int) := by omega
  have hwi : IntKind.i64.wrap ((i : Int) + 1) = (i : Int) + 1 := by rw [IntKind.wrap_i64]; omega
  have hne : ¬ (i + 1 + d = i) := by omega
  rcases hd with rfl | rfl
  · have hcn : (i : Int) ≤ ((i + 1 : Nat) : Int) := by omega
    have hcn2 : (n : Int) ≤ ((i + 1 : Nat) : Int) := by omega
    obtain rfl : n = i + 1 := by omega
    have hilt2 : (i : Int) < (i : Int) + 1 := by omega
    have hile2 : (i : Int) ≤ (i : Int) + 1 := by omega
    have hilt3 : i < i + 1 := by omega
    go_enter Try.func47, Try.ntmps47
    go_wp2_with fail
    refine HAT.out.mono ?_
    rintro e w1 ⟨rfl, q, rfl⟩
    obtain ⟨A1, c1, w2, hr1, hb2, A2, c2, w3, hr2, own2, hb3⟩ := app.out q ⟨g, 0, none⟩ (i + 1 - (i + 1)) (.inr (by first | trivial | omega))
    rw [Nat.sub_self] at hr2 own2
    have F := Lib.hid own2
    have FB := Lib.hid hb3
    have e1 : w.cell? ⟨g, i * 2 + 1, none⟩ = some (.string zv) := HC.out.2
    have e2 : w2.cell? ⟨g, i * 2 + 1, none⟩ = some (.string zv) := (hb2.cell (p := ⟨g, i * 2 + 1, none⟩) HC.out.1).trans HC.out.2
    have e3 : w3.cell? ⟨g, i * 2 + 1, none⟩ = some (.string zv) := (hb3.cell (p := ⟨g, i * 2 + 1, none⟩) HC.out.1).trans HC.out.2
    clear own2 hb3 hb2 app HAT
    go_wp2_with fail
    go_region_law (first | (refine step_append_runI rfl _ _ 61 61 rfl (.slice none 0 0) (.slice (some ⟨g, 0, none⟩) i (i + 1)) (by simp [Act.eval, Act.put]) (by simp [Act.eval, Act.put]) hr1 ?_) | (refine step_append_runI rfl _ _ 61 61 rfl (.slice A1 i c1) (.slice (some ⟨g, 0, none⟩) 0 0) (by simp [Act.eval]) (by simp [Act.eval]) hr2 ?_))
    all_goals
      go_wp2_with fail
      go_ret3
      exact ⟨_, _, _, by rw [HN.out]; rfl, Lib.hid (by rw [HI.out]; exact F.out), FB⟩
  · have hcn : (i : Int) ≤ ((i + 1 + d + 1 : Nat) : Int) := by omega
    have hcn2 : (n : Int) ≤ ((i + 1 + d + 1 : Nat) : Int) := by omega
    have hile2 : (i : Int) ≤ (i : Int) + 1 + (d : Int) + 1 := by omega
    clear hin hiz0
    have hiz0 : (0 : Int) ≤ (i : Int) := by omega
    go_enter Try.func47, Try.ntmps47
    go_wp2_with fail
    refine HAT.out.mono ?_
    rintro e w1 ⟨rfl, q, rfl⟩
    obtain ⟨A1, c1, w2, hr1, hb2, A2, c2, w3, hr2, own2, hb3⟩ := app.out q ⟨g, (i + 1) * 2, none⟩ (i + 1 + d + 1 - (i + 1)) (.inl rfl)
    have F := Lib.hid own2
    have FB := Lib.hid hb3
    have e1 : w.cell? ⟨g, i * 2 + 1, none⟩ = some (.string zv) := HC.out.2
    have e2 : w2.cell? ⟨g, i * 2 + 1, none⟩ = some (.string zv) := (hb2.cell (p := ⟨g, i * 2 + 1, none⟩) HC.out.1).trans HC.out.2
    have e3 : w3.cell? ⟨g, i * 2 + 1, none⟩ = some (.string zv) := (hb3.cell (p := ⟨g, i * 2 + 1, none⟩) HC.out.1).trans HC.out.2
    clear own2 hb3 hb2 app HAT
    go_wp2_with fail
    go_region_law (first | (refine step_append_runI rfl _ _ 61 61 rfl (.slice none 0 0) (.slice (some ⟨g, 0, none⟩) i (i + 1 + d + 1)) (by simp [Act.eval, Act.put]) (by simp [Act.eval, Act.put]) hr1 ?_) | (refine step_append_runI rfl _ _ 61 61 rfl (.slice A1 i c1) (.slice (some ⟨g, (i + 1) * 2, none⟩) (n - (i + 1)) (i + 1 + d + 1 - (i + 1))) (by simp [Act.eval]) (by simp [Act.eval]) hr2 ?_))
    all_goals
      go_wp2_with fail
      go_ret3
      exact ⟨_, _, _, by rw [HN.out]; rfl, Lib.hid (by rw [HI.out]; exact F.out), FB⟩

/-- Drop at every list: what is left is a list in a new block, or, where the key was not there, the same -/
theorem drop47 {w : World} {base : Nat} {A : Option Addr} {n c : Nat} {l : List KV} (H : OwnR w base A n c l) (hn : n ≤ 60000) (hs : Srt l) (hv : ∀ p ∈ l, StrV p.2) (key : ByteArray) :
    Calls Try.prog 47 #[.slice A n c, .string key] w fun e w' => PutPost w w.heap.size l (del key l) key e w' ∨ (e = .returned (.tuple #[.slice A n c, (look key l).getD (Value.string ⟨#[]⟩), .bool (look key l).isSome]) ∧ del key l = l ∧ Below w.heap.size w w') := by
  obtain ⟨i, b, hP, hat⟩ := at_fix w A n c l key H.arg hn
  have hm := hP.mean hs (.string ⟨#[]⟩)
  cases b with
  | false =>
    refine (drop47_none w A n c i key hat).mono ?_
    rintro e w' ⟨rfl, q, rfl⟩
    refine .inr ⟨?_, by rw [hm.2.2.1]; simp, below_drewN' (Below.refl _ w) q⟩
    rw [none_of hm.1]; rfl
  | true =>
    obtain ⟨v, hp, -, -⟩ := hP.here hs
    obtain ⟨zv, rfl⟩ := hv _ (List.mem_of_getElem? hp)
    have hi := (List.getElem?_eq_some_iff.1 hp).1
    rcases H.form with ⟨rfl, rfl, rfl, rfl⟩ | ⟨g, rfl, hnc, hc63, -, hg, hcell⟩
    · simp at hi
    · have hl := H.len
      exact (drop47_old w g n i (c - i - 1 - 1) c l key zv hat hP hp hl hg hcell hn hnc hc63 (by omega) hs hv).mono fun e w' h => .inl h

end Go.Proofs.Ytcidmaeclonilaa
