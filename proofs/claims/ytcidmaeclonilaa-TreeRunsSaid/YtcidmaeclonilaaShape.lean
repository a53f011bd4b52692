/- The walk of (*Tree).Shape. -/
import Derived.Test.YtcidmaeclonilaaShapeP
namespace Go.Proofs.Ytcidmaeclonilaa
open Go Go.RowKit

theorem slTyL : SlTy Try.prog 127 3 (Value.int .i64 0) 8 := by
  refine ⟨Try.underlying127, ?_, rfl, rfl, by decide⟩
  have h : (Try.prog.info? 3).map (fun i => (i.zero, i.size, i.bytes)) = some (some (Value.int .i64 0), 1, 8) := by kernel_rfl
  obtain ⟨i0, hi, hz0, hz1, hz2⟩ := info_parts h
  exact ⟨i0, hi, hz0, hz1, hz2⟩
theorem slTyM : SlTy Try.prog 73 127 (Value.slice none 0 0) 24 := by
  refine ⟨Try.underlying73, ?_, rfl, rfl, by decide⟩
  have h : (Try.prog.info? 127).map (fun i => (i.zero, i.size, i.bytes)) = some (some (Value.slice none 0 0), 1, 24) := by kernel_rfl
  obtain ⟨i0, hi, hz0, hz1, hz2⟩ := info_parts h
  exact ⟨i0, hi, hz0, hz1, hz2⟩

theorem row_apart {w : World} {e e' : TypeId} {v v' : Value} {xs xs' : List Value} (h : Row w e v xs) (h' : Row w e' v' xs') (hne : e ≠ e') : ∀ k ∈ ob v, k ∉ ob v' := by
  intro k hk hk'
  obtain ⟨A, c, rfl, -, -, h⟩ := h
  obtain ⟨B, d, rfl, -, -, h'⟩ := h'
  rcases h with ⟨rfl, -⟩ | ⟨g, cur, rfl, hB, -⟩
  · simp at hk
  · rcases h' with ⟨rfl, -⟩ | ⟨g', cur', rfl, hB', -⟩
    · simp at hk'
    · simp only [ob_some, List.mem_singleton] at hk hk'
      exact hB.eq_ hB' hne (by omega)
theorem own_new {w w1 : World} {v v' : Value} {B : Nat} (h : OwnNew w v v') (hB : B ≤ w.heap.size) (ho : ∀ k ∈ ob v, B ≤ k) : ∀ k ∈ ob v', B ≤ k := by
  intro k hk
  rcases h with h | ⟨k', h, h2⟩
  · exact ho k (h ▸ hk)
  · rw [h] at hk
    obtain rfl : k = k' := by simpa using hk
    omega
theorem row_len {w : World} {e : TypeId} {A : Option Addr} {n c : Nat} {xs : List Value} (h : Row w e (.slice A n c) xs) : xs.length = n := by
  obtain ⟨_, _, he, _⟩ := h; injection he with _ e2 _; exact e2.symm

theorem kidsOf_append (a b : List GT) : kidsOf (a ++ b) = kidsOf a ++ kidsOf b := by simp [kidsOf]
theorem one_one {x : Value} (h : x.oneCell' = true) : ∀ u ∈ [x], u.oneCell' = true := fun u hu => by
  obtain rfl : u = x := by simpa using hu
  exact h

/-- in a level: lens and next so far -/
structure ShI (w0 wr : World) (ts : List GT) (j : Nat) (A5 : Option Addr) (c5 : Nat) (A6 : Option Addr) (n6 c6 : Nat) : Prop where
  below : Below w0.heap.size w0 wr
  lens : Row wr 3 (.slice A5 j c5) (rowV (klens (ts.take j)))
  own5 : ∀ k ∈ ob (.slice A5 j c5), w0.heap.size ≤ k
  nxt : Row wr 99 (.slice A6 n6 c6) ((kidsOf (ts.take j)).map ptr)
  own6 : ∀ k ∈ ob (.slice A6 n6 c6), w0.heap.size ≤ k
theorem ShI.start (w0 : World) (ts : List GT) : ShI w0 w0 ts 0 none 0 none 0 0 :=
  ⟨Below.refl _ _, by simpa [klens, rowV] using Row.nil w0 3, fun k hk => by simp at hk, by simpa [kidsOf] using Row.nil w0 99, fun k hk => by simp at hk⟩
theorem ShI.step {w w0 wr : World} {ts : List GT} {j : Nat} {A5 : Option Addr} {c5 : Nat} {A6 : Option Addr} {n6 c6 : Nat} (I : ShI w0 wr ts j A5 c5 A6 n6 c6) (hw : Below w.heap.size w w0) {h : Nat} {t : GT} (ht : ts[j]? = some t) (hrep : Rep TS w h t) (hb : BT h t)
    (hs1 : j ≤ 60000) (hs2 : n6 ≤ 60000) :
    ∃ KA kc CA cc, wr.cell? ⟨t.b, 0, none⟩ = some (.slice KA t.ks.length kc) ∧ ∃ A5' c5' w1, (Builtin.append_ #[127, 127] 127 #[.slice A5 j c5, .slice (some ⟨wr.heap.size, 0, none⟩) 1 1]).run Try.prog (wr.alloc (.cells #[.int .i64 t.ks.length] 3)) = .ok (.slice A5' (j + 1) c5') w1 ∧
      w1.cell? ⟨t.b, 2, none⟩ = some (.slice CA t.cs.length cc) ∧ ∃ A6' c6' w2, (Builtin.append_ #[100, 100] 100 #[.slice A6 n6 c6, .slice CA t.cs.length cc]).run Try.prog w1 = .ok (.slice A6' (n6 + t.cs.length) c6') w2 ∧
      ShI w0 w2 ts (j + 1) A5' c5' A6' (n6 + t.cs.length) c6' := by
  have hsz := I.below.size
  have hwr : Below w.heap.size w wr := hw.trans (I.below.mono hw.size)
  obtain ⟨A5', c5', w1, hr1, row1, chg1, own1⟩ := run_append_N (P := Try.prog) slTyL 127 (I.lens.alloc (.cells #[.int .i64 t.ks.length] 3)) (Row.new1 wr 3 (.int .i64 t.ks.length)) (one_one rfl) (by omega)
  have hwa : Below w0.heap.size w0 (wr.alloc (.cells #[.int .i64 t.ks.length] 3)) := I.below.alloc hsz _
  have hw1 : Below w0.heap.size w0 w1 := hwa.trans (chg1.below I.own5 hwa.size)
  have hww1 : Below w.heap.size w w1 := hw.trans (hw1.mono hw.size)
  have n1 := (hrep.below hwr).nod
  have n2 := (hrep.below hww1).nod
  obtain ⟨KA, kc, hkv, -⟩ := n1.kr.formN (n := t.ks.length) (by simp)
  obtain ⟨CA, cc, hcv, -⟩ := n2.cr.formN (n := t.cs.length) (by simp)
  have ap := row_apart (I.nxt.alloc (.cells #[.int .i64 t.ks.length] 3)) (I.lens.alloc (.cells #[.int .i64 t.ks.length] 3)) (by decide)
  have nx1 := (I.nxt.alloc (.cells #[.int .i64 t.ks.length] 3)).chg chg1 ap
  obtain ⟨A6', c6', w2, hr2, row2, chg2, own2⟩ := run_append_N (P := Try.prog) slTyN 100 nx1 (show Row w1 99 (.slice CA t.cs.length cc) (t.cs.map ptr) from hcv ▸ n2.cr) (fun u hu => by
    obtain ⟨d, -, rfl⟩ := List.mem_map.1 hu; rfl) (by have := hb.ks; have : t.cs.length ≤ 8 := by
                                                        cases h with
                                                        | zero => rw [hb.1]; simp
                                                        | succ h => rw [hb.1]; omega
                                                      omega)
  have ap2 := row_apart row1 nx1 (by decide)
  have e1 : rowV (klens (ts.take j)) ++ [Value.int .i64 t.ks.length] = rowV (klens (ts.take (j + 1))) := by
    rw [List.take_add_one, ht]; simp [rowV, klens]
  have e2 : (kidsOf (ts.take j)).map ptr ++ t.cs.map ptr = (kidsOf (ts.take (j + 1))).map ptr := by
    rw [List.take_add_one, ht]; simp [kidsOf]
  rw [e1] at row1
  rw [e2] at row2
  exact ⟨KA, kc, CA, cc, (n1.blk.cell 0).trans (congrArg some hkv), A5', c5', w1, hr1, (n2.blk.cell 2).trans (congrArg some hcv), A6', c6', w2, hr2,
    ⟨hw1.trans (chg2.below I.own6 hw1.size), row1.chg chg2 ap2, own_new (w1 := w1) own1 hwa.size I.own5, row2, own_new (w1 := w1) own2 hw1.size I.own6⟩⟩

/-- at the head of a level -/
structure ShO (w wr : World) (ts : List GT) (Rs : List (List Nat)) (A : Option Addr) (n c : Nat) (B : Option Addr) (m d : Nat) : Prop where
  below : Below w.heap.size w wr
  mat : Mat wr (.slice A n c) Rs
  own : ∀ k ∈ ob (.slice A n c), w.heap.size ≤ k
  row : Row wr 99 (.slice B m d) (ts.map ptr)
theorem ShO.len {w wr : World} {ts : List GT} {Rs : List (List Nat)} {A : Option Addr} {n c : Nat} {B : Option Addr} {m d : Nat} (H : ShO w wr ts Rs A n c B m d) : ts.length = m ∧ Rs.length = n := by
  refine ⟨by have := row_len H.row; simpa using this, ?_⟩
  obtain ⟨vs, hl, hr, -⟩ := H.mat
  rw [← hl]; exact row_len hr
theorem ShO.step {w w0 wr : World} {ts : List GT} {Rs : List (List Nat)} {A : Option Addr} {n c : Nat} {B : Option Addr} {m d : Nat} (O : ShO w w0 ts Rs A n c B m d) {A5 : Option Addr} {c5 : Nat} {A6 : Option Addr} {n6 c6 : Nat} (I : ShI w0 wr ts m A5 c5 A6 n6 c6) (hs : n ≤ 60000) :
    ∃ A' c' w3, (Builtin.append_ #[73, 73] 73 #[.slice A n c, .slice (some ⟨wr.heap.size, 0, none⟩) 1 1]).run Try.prog (wr.alloc (.cells #[.slice A5 m c5] 127)) = .ok (.slice A' (n + 1) c') w3 ∧ ShO w w3 (kidsOf ts) (Rs ++ [klens ts]) A' (n + 1) c' A6 n6 c6 := by
  obtain ⟨vs, hl, hr, hat⟩ := O.mat
  have hm := O.len.1
  have hlens := I.lens
  have hnxt := I.nxt
  rw [List.take_of_length_le (by omega)] at hlens hnxt
  have hkeep : ∀ {e : TypeId} {v : Value} {xs : List Value}, Row w0 e v xs → Row wr e v xs := fun hx => hx.kept fun k hk => I.below.block k (hx.lt k hk)
  have hwr : Below w.heap.size w wr := O.below.trans (I.below.mono O.below.size)
  have hwa : Below w.heap.size w (wr.alloc (.cells #[.slice A5 m c5] 127)) := hwr.alloc hwr.size _
  have hra := (hkeep hr).alloc (.cells #[.slice A5 m c5] 127)
  obtain ⟨A', c', w3, hr3, row3, chg3, own3⟩ := run_append_N (P := Try.prog) slTyM 73 hra (Row.new1 wr 127 (.slice A5 m c5)) (one_one rfl) (by omega)
  have hk3 : ∀ {e : TypeId} {v : Value} {xs : List Value}, e ≠ 127 → Row wr e v xs → Row w3 e v xs := fun hne hx =>
    (hx.alloc (.cells #[.slice A5 m c5] 127)).chg chg3 (row_apart (hx.alloc (.cells #[.slice A5 m c5] 127)) hra hne)
  refine ⟨A', c', w3, hr3, ⟨hwa.trans (chg3.below O.own hwa.size), ⟨vs ++ [.slice A5 m c5], by simp [hl], row3, fun i r hi => ?_⟩, own_new (w1 := w3) own3 hwa.size O.own, hk3 (by decide) hnxt⟩⟩
  by_cases hlt : i < Rs.length
  · rw [List.getElem?_append_left hlt] at hi
    obtain ⟨u, hu, hrow⟩ := hat i r hi
    exact ⟨u, by rw [List.getElem?_append_left (by omega)]; exact hu, hk3 (by decide) (hkeep hrow)⟩
  · rw [List.getElem?_append_right (by omega)] at hi
    have hi0 : i - Rs.length = 0 := by
      have := (List.getElem?_eq_some_iff.1 hi).1
      simp at this; omega
    rw [hi0] at hi
    obtain rfl : klens ts = r := by simpa using hi
    exact ⟨.slice A5 m c5, by rw [List.getElem?_append_right (by omega), show i - vs.length = 0 by omega]; rfl, hk3 (by decide) hlens⟩

theorem rows_small {h : Nat} {ts : List GT} (H : ∀ t ∈ ts, BT h t ∧ 1 ≤ t.ks.length) : ts.length ≤ cnt h ts := by
  have e : ts.length ≤ (klens ts).sum := by
    have := len_le_sum (r := klens ts) fun c hc => by obtain ⟨t, ht, rfl⟩ := List.mem_map.1 hc; exact (H t ht).2
    simpa [klens] using this
  cases h with
  | zero => rw [cnt_leaf fun t ht => (H t ht).1]; exact e
  | succ h => rw [cnt_step fun t ht => (H t ht).1]; omega

/-- what Shape tells -/
def ShapeRes (w : World) (v : Value) (l : List KV) : Prop := (l = [] ∧ v = .slice none 0 0) ∨ (l ≠ [] ∧ ∃ R, Mat w v R ∧ Shp R l.length)

/-- what is still to do, at a level -/
def Todo (w : World) (N : Nat) (R : List (List Nat)) (kx : Nat) (ts : List GT) (Rs : List (List Nat)) : Prop :=
  match kx with
  | 0 => ts = [] ∧ Rs = R
  | h + 1 => ts ≠ [] ∧ (∀ t ∈ ts, Rep TS w h t ∧ BT h t ∧ 1 ≤ t.ks.length) ∧ Rs ++ rowsOf h ts = R ∧ cnt h ts ≤ N
theorem Todo.step {w : World} {N : Nat} {R : List (List Nat)} {kx : Nat} {ts : List GT} {Rs : List (List Nat)} (H : Todo w N R (kx + 1) ts Rs) : Todo w N R kx (kidsOf ts) (Rs ++ [klens ts]) := by
  obtain ⟨h1, h2, h3, h4⟩ := H
  cases kx with
  | zero => exact ⟨kids_leaf fun t ht => (h2 t ht).2.1, by rw [← h3]; rfl⟩
  | succ h =>
    have hb : ∀ t ∈ ts, BT (h + 1) t := fun t ht => (h2 t ht).2.1
    refine ⟨fun e => ?_, fun t ht => ?_, by rw [← h3]; simp [rowsOf], by have := cnt_step hb; omega⟩
    · have := kids_len hb
      rw [e] at this
      have := List.length_pos_iff.2 h1
      simp at *; omega
    · have h5 := kids_bt hb t ht
      obtain ⟨l, hl, htl⟩ := List.mem_flatten.1 ht
      obtain ⟨s, hs, rfl⟩ := List.mem_map.1 hl
      exact ⟨(h2 s hs).1.2 t htl, h5.1, by omega⟩

set_option maxHeartbeats 4000000 in
set_option maxRecDepth 100000 in
theorem shape45 {w : World} {a : Nat} {l : List KV} {L : List Nat} (H : IsTreeS w a l L) (hl : l.length ≤ 50000) :
    Calls Try.prog 45 #[.pointer (some ⟨a, 0, none⟩)] w fun e w' => ∃ A n c, e = .returned (.slice A n c) ∧ Hid (ShapeRes w' (.slice A n c) l) ∧ Hid (Below w.heap.size w w') := by
  have hlen := Lib.hid (tlenS w a l L H)
  obtain ⟨h, t, hB, hT, hb, hs, htl, ha, hL, h00⟩ := H
  obtain ⟨n, hn⟩ : ∃ n, n = l.length := ⟨_, rfl⟩
  rw [← hn] at hlen
  have HN := Lib.hid hn
  by_cases h0 : n = 0
  · subst h0
    clear hB hT hb hs htl ha hL h00 hn
    go_enter Try.func45, Try.ntmps45
    go_wp2_with (go_at_call 40; refine hlen.out.mono ?_; rintro e w1 ⟨rfl, rfl⟩)
    go_ret
    exact ⟨none, 0, 0, rfl, Lib.hid (.inl ⟨List.length_eq_zero_iff.1 HN.out.symm, rfl⟩), Lib.hid (Below.refl _ _)⟩
  · have hz : ((n : Int) == 0) = false := by rw [beq_eq_false_iff_ne]; omega
    have h1 : 1 ≤ t.ks.length := by
      cases h with
      | zero =>
        have : (toL 0 t).length = t.ks.length := hb.ps_len
        rw [htl, ← hn] at this; omega
      | succ h => exact h00 (by omega)
    obtain ⟨R, hR⟩ : ∃ R, R = rowsOf h [t] := ⟨_, rfl⟩
    have hsh := rows_shp hb h1
    rw [htl, ← hR, ← hn] at hsh
    have hRl : R.length ≤ 50001 := by
      have q1 := hsh.most
      have q2 := Nat.lt_pow_self (n := R.length - 1) (show 1 < 4 by omega)
      omega
    have start := Lib.hid (show Todo w 50000 R (h + 1) [t] [] from ⟨by simp, fun s hs => by
      obtain rfl : s = t := by simpa using hs
      exact ⟨hT.rep, hb, h1⟩, by rw [hR]; rfl, by simp [cnt, htl]; omega⟩)
    have a0 : w.cell? ⟨a, 0, none⟩ = some (.pointer (some ⟨t.b, 0, none⟩)) := hB.cell 0
    have O0 := Lib.hid (show ShO w (w.alloc (.cells #[.pointer (some ⟨t.b, 0, none⟩)] 99)) [t] [] none 0 0 (some ⟨w.heap.size, 0, none⟩) 1 1 from
      ⟨(Below.refl _ w).alloc (Nat.le_refl _) _, ⟨[], rfl, Row.nil _ _, fun i r hi => by simp at hi⟩, fun k hk => by simp at hk, Row.new1 w 99 (.pointer (some ⟨t.b, 0, none⟩))⟩)
    have HS := Lib.hid hsh
    have hne : l ≠ [] := fun e => by rw [e] at hn; exact h0 hn
    clear hB hT hb hs htl ha hL h00 h0 hn hsh hR h1
    go_enter Try.func45, Try.ntmps45
    go_wp2_with (go_at_call 40; refine hlen.out.mono ?_; rintro e w1 ⟨rfl, rfl⟩)
    go_loopg [3, 4, 5, 6, 8] (h + 1) (fun kx s3 s4 s5 s6 s8 wr => ∃ (ts : List GT) (Rs : List (List Nat)) (A : Option Addr) (n c : Nat) (B : Option Addr) (m d : Nat), s3 = .slice A n c ∧ s4 = .slice B m d ∧ Hid (ShO w wr ts Rs A n c B m d) ∧ Hid (Todo w 50000 R kx ts Rs))
    case atStart => exact ⟨[t], [], none, 0, 0, _, 1, 1, rfl, rfl, O0, start⟩
    case round =>
      obtain ⟨ts, Rs, A, n1, c, B, m, d, rfl, rfl, O, T⟩ := hrel
      clear O0 start
      cases gk with
      | zero =>
        obtain ⟨rfl, hRs⟩ := T.out
        obtain rfl : 0 = m := O.out.len.1
        have fin := Lib.hid (show ShapeRes wr (.slice A n1 c) l from .inr ⟨hne, R, hRs ▸ O.out.mat, HN.out ▸ HS.out⟩)
        have finb := Lib.hid O.out.below
        clear O T hRs
        go_wp2_with fail
        go_ret
        exact ⟨A, n1, c, rfl, fin, finb⟩
      | succ h =>
        have hts : ts ≠ [] := T.out.1
        have hlt := O.out.len
        have hm0 : (0 : Int) < (m : Int) := by have := List.length_pos_iff.2 hts; omega
        have hm0n : 0 < m := by omega
        have hm6 : m ≤ 50000 := by
          have := rows_small fun s hs => (T.out.2.1 s hs).2
          have := T.out.2.2.2
          omega
        have hn6 : n1 ≤ 60000 := by
          have q := congrArg List.length T.out.2.2.1
          rw [List.length_append, rowsOf_len] at q
          omega
        have HT := Lib.hid hlt.1
        have hk6 := Lib.hid (show ∀ j, (kidsOf (ts.take j)).length ≤ 60000 from fun j => by
          have q1 : (kidsOf (ts.take j)).length ≤ (kidsOf ts).length := by
            conv => rhs; rw [← List.take_append_drop j ts]
            rw [kidsOf_append, List.length_append]
            omega
          have q2 : (kidsOf ts).length ≤ 50000 := by
            cases h with
            | zero => rw [kids_leaf fun t ht => (T.out.2.1 t ht).2.1]; simp
            | succ h =>
              have hb : ∀ t ∈ ts, BT (h + 1) t := fun t ht => (T.out.2.1 t ht).2.1
              have := rows_small (ts := kidsOf ts) (h := h) fun s hs => ⟨(kids_bt hb s hs).1, by have := (kids_bt hb s hs).2; omega⟩
              have := cnt_step hb
              have := T.out.2.2.2
              omega
          omega)
        have I0 := Lib.hid (ShI.start wr ts)
        clear hts hlt
        obtain ⟨w0, hw0⟩ : ∃ w0, w0 = wr := ⟨_, rfl⟩
        rw [← hw0] at O I0
        have I0 := Lib.hid (show ShI w0 wr ts 0 none 0 none 0 0 from hw0 ▸ I0.out)
        clear hw0
        go_wp2_with fail
        go_loopg [5, 6, 8, 22] m (fun kx s5 s6 s8 s22 wr => ∃ (j : Nat) (A5 : Option Addr) (c5 : Nat) (A6 : Option Addr) (n6 c6 : Nat), s5 = .slice A5 j c5 ∧ s6 = .slice A6 n6 c6 ∧ s22 = .int .i64 j ∧ kx + j = m ∧ Hid (ShI w0 wr ts j A5 c5 A6 n6 c6))
        case atStart => exact ⟨0, none, 0, none, 0, 0, rfl, rfl, rfl, rfl, I0⟩
        case round =>
          obtain ⟨j, A5, c5, A6, n6, c6, rfl, rfl, rfl, hk, I⟩ := hrel
          clear I0
          by_cases hj : j < m
          · obtain ⟨s, hsj⟩ : ∃ s, ts[j]? = some s := ⟨_, List.getElem?_eq_getElem (by rw [HT.out]; exact hj)⟩
            have hsm := List.mem_of_getElem? hsj
            have hjz : (j : Int) < (m : Int) := by omega
            obtain ⟨g, c2, cur, he, -, -, hBk, -, hcell, -⟩ := (O.out.row).open_ (by simp [HT.out]; omega)
            injection he with he1 he2 he3
            subst he1
            have d0 : wr.cell? ⟨g, j, none⟩ = some (.pointer (some ⟨s.b, 0, none⟩)) := (I.out.below.cell (p := ⟨g, j, none⟩) hBk.lt).trans (hcell j _ (by rw [List.getElem?_map, hsj]; rfl))
            have hn6' : n6 ≤ 60000 := by
              have := row_len I.out.nxt
              have := hk6.out j
              simp at *; omega
            obtain ⟨KA, kc, CA, cc, d1, A5', c5', w1, hr1, d2, A6', c6', w2, hr2, I2⟩ := I.out.step O.out.below hsj (T.out.2.1 s hsm).1 (T.out.2.1 s hsm).2.1 (by omega) hn6'
            have J := Lib.hid I2
            clear I2 I hcell hBk he2 he3 hsm hsj
            generalize s.ks.length = x at *
            generalize s.cs.length = y at *
            go_wp2_with (at_builtin; first | (refine wpList_append_runI _ rfl _ _ 127 127 rfl _ _ rfl rfl hr1 ?_) | (refine wpList_append_runI _ rfl _ _ 100 100 rfl _ _ rfl rfl hr2 ?_))
            go_roundg (gk - 1)
            case measure => omega
            case rel => exact ⟨j + 1, A5', c5', A6', _, c6', rfl, rfl, rfl, by omega, J⟩
          · obtain rfl : j = m := by omega
            have hjz : ¬ ((j : Int) < (j : Int)) := by omega
            obtain ⟨A', c', w3, hr3, O3⟩ := O.out.step I.out hn6
            have J := Lib.hid O3
            have T3 := Lib.hid T.out.step
            clear O3 I
            go_wp2_with (at_builtin; refine wpList_append_runI _ rfl _ _ 73 73 rfl _ _ rfl rfl hr3 ?_)
            go_roundg h
            case measure => omega
            case rel => exact ⟨_, _, A', _, c', A6, n6, c6, rfl, rfl, J, T3⟩

end Go.Proofs.Ytcidmaeclonilaa
