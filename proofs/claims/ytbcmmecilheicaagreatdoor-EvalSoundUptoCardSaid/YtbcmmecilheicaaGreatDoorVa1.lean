/- A range over a text; strings.IndexFunc at value.Valid's closure; value.Valid. Printed by mkva.py. -/
import Derived.Test.YtbcmmecilheicaaGreatDoorPe2
import Derived.Test.YtbcmmecilheicaaGreatDoorVal5
import Derived.Laws.RangeString
namespace Go.Proofs.YtbcmmecilheicaaGreatDoor
open Go Go.RowKit

theorem decode_high (s : ByteArray) (pos : Nat) (h : pos < s.size) (ha : 128 ≤ (s[pos]'h).toNat) : 128 ≤ (Utf8.decode s pos).1 := by
  have e : s.get! (pos + 0) = s[pos]'h := by
    show s.get! pos = _
    simp [ByteArray.get!, getElem!_pos, h]
    rfl
  have hr : Utf8.runeError = 65533 := rfl
  unfold Utf8.decode
  simp only [e]
  repeat' split
  all_goals first | omega | (rw [hr]; omega) | (simp_all; omega) | simp_all
theorem run_next_at {P : Program} (w : World) (s : ByteArray) (pos : Nat) (ty : TypeId) (h : pos < s.size) :
    (Instr.next (.pointer (some ⟨w.heap.size, 0, none⟩)) true ty).run P (w.iter s pos) =
      .ok (.tuple #[.bool true, .int .i64 pos, .int .i32 (Utf8.decode s pos).1]) (w.iter s (pos + (Utf8.decode s pos).2)) := by
  simp only [Instr.next, getObj, setObj, Sem.run_bind, Sem.run, World.iter_heap, Result.andThen, h, if_true, World.iter_set]
  simp [goInt]
theorem below_iter (w : World) (s : ByteArray) (pos : Nat) : Below w.heap.size w (w.iter s pos) := below_alloc _ _
/-- a rune that may not be in a text -/
def badR (c : Int) : Bool := decide (c < 32) || decide (126 < c)
set_option maxHeartbeats 1000000 in
theorem clo41 (w : World) (c : Int) : Calls Tryz.prog 41 #[.int .i32 c] w fun e w' => e = .returned (.bool (badR c)) ∧ w = w' := by
  by_cases h1 : c < 32
  · have hb := Lib.hid (show badR c = true by simp [badR, h1])
    go_enter Tryz.func41, Tryz.ntmps41
    go_wp2
    go_ret
    exact ⟨by rw [hb.out]; rfl, rfl⟩
  · by_cases h2 : 126 < c
    · have hb := Lib.hid (show badR c = true by simp [badR, h2])
      go_enter Tryz.func41, Tryz.ntmps41
      go_wp2
      go_ret
      exact ⟨by rw [hb.out]; rfl, rfl⟩
    · have hb := Lib.hid (show badR c = false by simp [badR]; omega)
      go_enter Tryz.func41, Tryz.ntmps41
      go_wp2
      go_ret
      exact ⟨by rw [hb.out]; rfl, rfl⟩
/-- may all of a text be? -/
def okText (s : ByteArray) : Prop := ∀ i (h : i < s.size), 32 ≤ s[i].toNat ∧ s[i].toNat ≤ 126
def IdxPost (s : ByteArray) (w : World) (e : Ending) (w' : World) : Prop := ∃ r : Int, e = .returned (.int .i64 r) ∧ Hid ((0 ≤ r ∧ ¬ okText s) ∨ (r = -1 ∧ okText s)) ∧ Hid (Below w.heap.size w w')
set_option maxRecDepth 100000 in
set_option maxHeartbeats 8000000 in
theorem indexFunc79 (w : World) (s : ByteArray) (hs : s.size ≤ TB) : Calls Tryz.prog 79 #[.string s, .func (.func 41) #[] #[], .bool true] w (IdxPost s w) := by
  unfold TB at hs
  go_enter Tryz.func79, Tryz.ntmps79
  go_wp2_with fail
  go_loopg [7, 8] s.size (fun kx s7 s8 wr => ∃ pos : Nat, kx + pos = s.size ∧ wr = w.iter s pos ∧ Hid (∀ i (h : i < s.size), i < pos → 32 ≤ s[i].toNat ∧ s[i].toNat ≤ 126))
  case atStart => exact ⟨0, by omega, rfl, Lib.hid (fun i _ h => absurd h (Nat.not_lt_zero _))⟩
  case round =>
    obtain ⟨pos, hki, rfl, HO⟩ := hrel
    by_cases hi : pos < s.size
    · have hin : (pos : Int) < 9223372036854775807 := by omega
      obtain ⟨c, hc⟩ : ∃ c : Nat, c = (Utf8.decode s pos).1 := ⟨_, rfl⟩
      obtain ⟨d, hd⟩ : ∃ d : Nat, d = pos + (Utf8.decode s pos).2 := ⟨_, rfl⟩
      have hnx : ∀ ty, (Instr.next (.pointer (some ⟨w.heap.size, 0, none⟩)) true ty).run Tryz.prog (w.iter s pos) = .ok (.tuple #[.bool true, .int .i64 pos, .int .i32 c]) (w.iter s d) := fun ty => by rw [hc, hd]; exact run_next_at w s pos ty hi
      obtain ⟨q, hq⟩ : ∃ q, badR (c : Int) = q := ⟨_, rfl⟩
      cases q with
      | true =>
        have NO := Lib.hid (show ¬ okText s from fun h => by
          have hp := h pos hi
          have hda := decode_ascii s pos hi (by omega)
          rw [hda] at hc
          simp only at hc
          rw [hc] at hq
          simp [badR] at hq
          omega)
        clear hc hd
        go_wp2_with fail
        refine (clo41 _ _).mono ?_
        rintro e w2 ⟨rfl, rfl⟩
        rw [hq]
        clear hq
        go_wp2_with fail
        go_ret
        exact ⟨pos, rfl, Lib.hid (.inl ⟨by omega, NO.out⟩), Lib.hid (below_iter w s d)⟩
      | false =>
        have h128 : (s[pos]'hi).toNat < 128 := by
          rcases Nat.lt_or_ge (s[pos]'hi).toNat 128 with h | h
          · exact h
          · have := decode_high s pos hi h
            simp [badR] at hq
            omega
        have hda := decode_ascii s pos hi h128
        have NX := Lib.hid (show ∀ i (h : i < s.size), i < pos + 1 → 32 ≤ s[i].toNat ∧ s[i].toNat ≤ 126 from fun i h hlt => by
          rcases Nat.lt_or_ge i pos with g | g
          · exact HO.out i h g
          · obtain rfl : i = pos := by omega
            rw [hda] at hc
            simp only at hc
            rw [hc] at hq
            simp [badR] at hq
            omega)
        obtain rfl : d = pos + 1 := by rw [hd, hda]
        clear hc hd hda
        go_wp2_with fail
        refine (clo41 _ _).mono ?_
        rintro e w2 ⟨rfl, rfl⟩
        rw [hq]
        clear hq
        go_wp2_with fail
        go_roundg (gk - 1)
        case measure => omega
        case rel => exact ⟨pos + 1, by omega, rfl, NX⟩
    · have hnx := fun ty => run_next_end (P := Tryz.prog) w s pos ty hi
      have OK := Lib.hid (show okText s from fun i h => HO.out i h (by omega))
      go_wp2_with fail
      go_ret
      exact ⟨-1, rfl, Lib.hid (.inr ⟨rfl, OK.out⟩), Lib.hid (below_iter w s pos)⟩
set_option maxHeartbeats 2000000 in
theorem indexFunc40 (w : World) (s : ByteArray) (hs : s.size ≤ TB) : Calls Tryz.prog 40 #[.string s, .func (.func 41) #[] #[]] w (IdxPost s w) := by
  have C := Lib.hid (indexFunc79 w s hs)
  go_enter Tryz.func40, Tryz.ntmps40
  go_wp2_with fail
  refine C.out.mono ?_
  rintro e w2 ⟨r, rfl, h1, h2⟩
  go_wp2_with fail
  go_ret
  exact ⟨r, rfl, h1, h2⟩
theorem neq26 (W : World) (a b c d : Int) (s t : ByteArray) (p q : Bool) : (binOp BinOp.neq 26 (.agg #[.int .i64 a, .int .i64 b, .string s, .bool p]) (.agg #[.int .i64 c, .int .i64 d, .string t, .bool q])).run Tryz.prog W = .ok (.bool (!Val.eqB ⟨a, b, s, p⟩ ⟨c, d, t, q⟩)) W := by
  simp only [Val.eqB]
  by_cases h1 : a = c <;> by_cases h2 : b = d <;> by_cases h3 : s.toList = t.toList <;> cases p <;> cases q <;> simp [go_sem, h1, h2, h3]
/-- a value without what its kind holds -/
def bareV (k i : Int) (s : ByteArray) (b : Bool) : Val := ⟨k, if k = 1 then 0 else i, if k = 2 then ⟨#[]⟩ else s, if k = 3 then false else b⟩
theorem valid_iff (k i : Int) (s : ByteArray) (b : Bool) : validV ⟨k, i, s, b⟩ ↔ kindOk k = true ∧ Val.eqB (bareV k i s b) ⟨k, 0, ⟨#[]⟩, false⟩ = true ∧ s.size ≤ 4096 ∧ okText s := by
  have hz : (⟨#[]⟩ : ByteArray).toList = [] := by kernel_rfl
  constructor
  · rintro ⟨h0, h1, h2, h3, h4, h5, h6⟩
    simp only at h0 h1 h2 h3 h4 h5 h6
    refine ⟨by unfold kindOk; rcases (show k = 0 ∨ k = 1 ∨ k = 2 ∨ k = 3 by omega) with q | q | q | q <;> simp [q], ?_, h5, h6⟩
    unfold Val.eqB bareV
    by_cases k1 : k = 1 <;> by_cases k2 : k = 2 <;> by_cases k3 : k = 3 <;> simp_all
  · rintro ⟨h0, h1, h5, h6⟩
    unfold kindOk at h0
    simp at h0
    unfold Val.eqB bareV at h1
    refine ⟨by show 0 ≤ k; omega, by show k ≤ 3; omega, ?_, ?_, ?_, h5, h6⟩
    · intro k1
      have k1 : k ≠ 1 := k1
      simp [k1] at h1
      exact h1.1.1
    · intro k2
      have k2 : k ≠ 2 := k2
      simp [k2, hz] at h1
      simpa [hz] using h1.1.2
    · intro k3
      have k3 : k ≠ 3 := k3
      simp [k3] at h1
      exact h1.2
def NilIff (v : Val) (w : World) (e : Ending) (w' : World) : Prop := ∃ er : Option Int, e = .returned (errV er) ∧ Hid (er = none ↔ validV v) ∧ Hid (Below w.heap.size w w')
set_option maxRecDepth 100000 in
set_option maxHeartbeats 8000000 in
theorem valid10_1 (w : World) (i : Int) (s : ByteArray) (b : Bool) (hs : s.size ≤ TB) : Calls Tryz.prog 10 #[.agg #[.int .i64 1, .int .i64 i, .string s, .bool b]] w (NilIff ⟨1, i, s, b⟩ w) := by
  have NV := Lib.hid (valid_iff 1 i s b)
  obtain ⟨q, hq⟩ : ∃ q, q = Val.eqB (bareV 1 i s b) ⟨1, 0, ⟨#[]⟩, false⟩ := ⟨_, rfl⟩
  have HN : ∀ W, (binOp BinOp.neq 26 (.agg #[.int .i64 1, .int .i64 0, .string s, .bool b]) (.agg #[.int .i64 1, .int .i64 0, .string ⟨#[]⟩, .bool false])).run Tryz.prog W = .ok (.bool (!q)) W := fun W => by
    rw [hq]
    have := neq26 W 1 0 1 0 s ⟨#[]⟩ b false
    simpa [bareV] using this
  rw [← hq] at NV
  clear hq
  cases hko : kindOk 1 with
  | false =>
    obtain ⟨qa1, qa2⟩ := kindS_no hko
    have NN := Lib.hid (show ¬ validV ⟨1, i, s, b⟩ from fun h => by have := (NV.out.1 h).1; rw [hko] at this; cases this)
    clear hko
    go_enter Tryz.func10, Tryz.ntmps10
    go_wp2_with (go_at_call 39; refine (kind96 _ _).mono ?_; rintro e w1 ⟨rfl, rfl⟩)
    go_ret
    exact ⟨some 3, rfl, Lib.hid ⟨(fun h => by cases h), (fun h => absurd h NN.out)⟩, Lib.hid (by go_grown)⟩
  | true =>
    obtain ⟨qa1, qa2⟩ := kindS_yes hko
    cases q with
    | false =>
      have NN := Lib.hid (show ¬ validV ⟨1, i, s, b⟩ from fun h => by have := (NV.out.1 h).2.1; cases this)
      clear hko
      simp only [Bool.not_false] at HN
      go_enter Tryz.func10, Tryz.ntmps10
      go_wp2_with (go_at_call 39; refine (kind96 _ _).mono ?_; rintro e w1 ⟨rfl, rfl⟩)
      go_ret
      exact ⟨some 3, rfl, Lib.hid ⟨(fun h => by cases h), (fun h => absurd h NN.out)⟩, Lib.hid (by go_grown)⟩
    | true =>
      simp only [Bool.not_true] at HN
      by_cases hsz : 4096 < s.size
      · have hsi : (4096 : Int) < (s.size : Int) := by omega
        have NN := Lib.hid (show ¬ validV ⟨1, i, s, b⟩ from fun h => by have := (NV.out.1 h).2.2.1; omega)
        clear hko
        go_enter Tryz.func10, Tryz.ntmps10
        go_wp2_with (go_at_call 39; refine (kind96 _ _).mono ?_; rintro e w1 ⟨rfl, rfl⟩)
        go_ret
        exact ⟨some 2, rfl, Lib.hid ⟨(fun h => by cases h), (fun h => absurd h NN.out)⟩, Lib.hid (by go_grown)⟩
      · have hsi : ¬ (4096 : Int) < (s.size : Int) := by omega
        have YY := Lib.hid (show okText s → validV ⟨1, i, s, b⟩ from fun h => NV.out.2 ⟨hko, rfl, by omega, h⟩)
        have XX := Lib.hid (show validV ⟨1, i, s, b⟩ → okText s from fun h => (NV.out.1 h).2.2.2)
        have HS := Lib.hid hs
        clear hko hsz NV
        go_enter Tryz.func10, Tryz.ntmps10
        go_wp2_with (go_at_call 39; refine (kind96 _ _).mono ?_; rintro e w1 ⟨rfl, rfl⟩)
        refine (indexFunc40 _ s HS.out).mono ?_
        rintro e w2 ⟨r, rfl, hr, hb2⟩
        have BB := Lib.hid (show Below w.heap.size w w2 from hb2.out.from2)
        by_cases h0 : 0 ≤ r
        · have NN := Lib.hid (show ¬ validV ⟨1, i, s, b⟩ from fun h => by
            rcases hr.out with g | g
            · exact g.2 (XX.out h)
            · omega)
          clear hr hb2
          go_wp2_with fail
          go_ret
          exact ⟨some 3, rfl, Lib.hid ⟨(fun h => by cases h), (fun h => absurd h NN.out)⟩, BB⟩
        · have h1 : decide (0 ≤ r) = false := by simpa using h0
          have OK := Lib.hid (show validV ⟨1, i, s, b⟩ from by
            rcases hr.out with g | g
            · exact absurd g.1 h0
            · exact YY.out g.2)
          clear hr hb2
          go_wp2_with fail
          go_ret
          exact ⟨none, rfl, Lib.hid ⟨fun _ => OK.out, fun _ => rfl⟩, BB⟩
set_option maxRecDepth 100000 in
set_option maxHeartbeats 8000000 in
theorem valid10_2 (w : World) (i : Int) (s : ByteArray) (b : Bool) (hs : s.size ≤ TB) : Calls Tryz.prog 10 #[.agg #[.int .i64 2, .int .i64 i, .string s, .bool b]] w (NilIff ⟨2, i, s, b⟩ w) := by
  have NV := Lib.hid (valid_iff 2 i s b)
  obtain ⟨q, hq⟩ : ∃ q, q = Val.eqB (bareV 2 i s b) ⟨2, 0, ⟨#[]⟩, false⟩ := ⟨_, rfl⟩
  have HN : ∀ W, (binOp BinOp.neq 26 (.agg #[.int .i64 2, .int .i64 i, .string ⟨#[]⟩, .bool b]) (.agg #[.int .i64 2, .int .i64 0, .string ⟨#[]⟩, .bool false])).run Tryz.prog W = .ok (.bool (!q)) W := fun W => by
    rw [hq]
    have := neq26 W 2 i 2 0 ⟨#[]⟩ ⟨#[]⟩ b false
    simpa [bareV] using this
  rw [← hq] at NV
  clear hq
  cases hko : kindOk 2 with
  | false =>
    obtain ⟨qa1, qa2⟩ := kindS_no hko
    have NN := Lib.hid (show ¬ validV ⟨2, i, s, b⟩ from fun h => by have := (NV.out.1 h).1; rw [hko] at this; cases this)
    clear hko
    go_enter Tryz.func10, Tryz.ntmps10
    go_wp2_with (go_at_call 39; refine (kind96 _ _).mono ?_; rintro e w1 ⟨rfl, rfl⟩)
    go_ret
    exact ⟨some 3, rfl, Lib.hid ⟨(fun h => by cases h), (fun h => absurd h NN.out)⟩, Lib.hid (by go_grown)⟩
  | true =>
    obtain ⟨qa1, qa2⟩ := kindS_yes hko
    cases q with
    | false =>
      have NN := Lib.hid (show ¬ validV ⟨2, i, s, b⟩ from fun h => by have := (NV.out.1 h).2.1; cases this)
      clear hko
      simp only [Bool.not_false] at HN
      go_enter Tryz.func10, Tryz.ntmps10
      go_wp2_with (go_at_call 39; refine (kind96 _ _).mono ?_; rintro e w1 ⟨rfl, rfl⟩)
      go_ret
      exact ⟨some 3, rfl, Lib.hid ⟨(fun h => by cases h), (fun h => absurd h NN.out)⟩, Lib.hid (by go_grown)⟩
    | true =>
      simp only [Bool.not_true] at HN
      by_cases hsz : 4096 < s.size
      · have hsi : (4096 : Int) < (s.size : Int) := by omega
        have NN := Lib.hid (show ¬ validV ⟨2, i, s, b⟩ from fun h => by have := (NV.out.1 h).2.2.1; omega)
        clear hko
        go_enter Tryz.func10, Tryz.ntmps10
        go_wp2_with (go_at_call 39; refine (kind96 _ _).mono ?_; rintro e w1 ⟨rfl, rfl⟩)
        go_ret
        exact ⟨some 2, rfl, Lib.hid ⟨(fun h => by cases h), (fun h => absurd h NN.out)⟩, Lib.hid (by go_grown)⟩
      · have hsi : ¬ (4096 : Int) < (s.size : Int) := by omega
        have YY := Lib.hid (show okText s → validV ⟨2, i, s, b⟩ from fun h => NV.out.2 ⟨hko, rfl, by omega, h⟩)
        have XX := Lib.hid (show validV ⟨2, i, s, b⟩ → okText s from fun h => (NV.out.1 h).2.2.2)
        have HS := Lib.hid hs
        clear hko hsz NV
        go_enter Tryz.func10, Tryz.ntmps10
        go_wp2_with (go_at_call 39; refine (kind96 _ _).mono ?_; rintro e w1 ⟨rfl, rfl⟩)
        refine (indexFunc40 _ s HS.out).mono ?_
        rintro e w2 ⟨r, rfl, hr, hb2⟩
        have BB := Lib.hid (show Below w.heap.size w w2 from hb2.out.from2)
        by_cases h0 : 0 ≤ r
        · have NN := Lib.hid (show ¬ validV ⟨2, i, s, b⟩ from fun h => by
            rcases hr.out with g | g
            · exact g.2 (XX.out h)
            · omega)
          clear hr hb2
          go_wp2_with fail
          go_ret
          exact ⟨some 3, rfl, Lib.hid ⟨(fun h => by cases h), (fun h => absurd h NN.out)⟩, BB⟩
        · have h1 : decide (0 ≤ r) = false := by simpa using h0
          have OK := Lib.hid (show validV ⟨2, i, s, b⟩ from by
            rcases hr.out with g | g
            · exact absurd g.1 h0
            · exact YY.out g.2)
          clear hr hb2
          go_wp2_with fail
          go_ret
          exact ⟨none, rfl, Lib.hid ⟨fun _ => OK.out, fun _ => rfl⟩, BB⟩
set_option maxRecDepth 100000 in
set_option maxHeartbeats 8000000 in
theorem valid10_3 (w : World) (i : Int) (s : ByteArray) (b : Bool) (hs : s.size ≤ TB) : Calls Tryz.prog 10 #[.agg #[.int .i64 3, .int .i64 i, .string s, .bool b]] w (NilIff ⟨3, i, s, b⟩ w) := by
  have NV := Lib.hid (valid_iff 3 i s b)
  obtain ⟨q, hq⟩ : ∃ q, q = Val.eqB (bareV 3 i s b) ⟨3, 0, ⟨#[]⟩, false⟩ := ⟨_, rfl⟩
  have HN : ∀ W, (binOp BinOp.neq 26 (.agg #[.int .i64 3, .int .i64 i, .string s, .bool false]) (.agg #[.int .i64 3, .int .i64 0, .string ⟨#[]⟩, .bool false])).run Tryz.prog W = .ok (.bool (!q)) W := fun W => by
    rw [hq]
    have := neq26 W 3 i 3 0 s ⟨#[]⟩ false false
    simpa [bareV] using this
  rw [← hq] at NV
  clear hq
  cases hko : kindOk 3 with
  | false =>
    obtain ⟨qa1, qa2⟩ := kindS_no hko
    have NN := Lib.hid (show ¬ validV ⟨3, i, s, b⟩ from fun h => by have := (NV.out.1 h).1; rw [hko] at this; cases this)
    clear hko
    go_enter Tryz.func10, Tryz.ntmps10
    go_wp2_with (go_at_call 39; refine (kind96 _ _).mono ?_; rintro e w1 ⟨rfl, rfl⟩)
    go_ret
    exact ⟨some 3, rfl, Lib.hid ⟨(fun h => by cases h), (fun h => absurd h NN.out)⟩, Lib.hid (by go_grown)⟩
  | true =>
    obtain ⟨qa1, qa2⟩ := kindS_yes hko
    cases q with
    | false =>
      have NN := Lib.hid (show ¬ validV ⟨3, i, s, b⟩ from fun h => by have := (NV.out.1 h).2.1; cases this)
      clear hko
      simp only [Bool.not_false] at HN
      go_enter Tryz.func10, Tryz.ntmps10
      go_wp2_with (go_at_call 39; refine (kind96 _ _).mono ?_; rintro e w1 ⟨rfl, rfl⟩)
      go_ret
      exact ⟨some 3, rfl, Lib.hid ⟨(fun h => by cases h), (fun h => absurd h NN.out)⟩, Lib.hid (by go_grown)⟩
    | true =>
      simp only [Bool.not_true] at HN
      by_cases hsz : 4096 < s.size
      · have hsi : (4096 : Int) < (s.size : Int) := by omega
        have NN := Lib.hid (show ¬ validV ⟨3, i, s, b⟩ from fun h => by have := (NV.out.1 h).2.2.1; omega)
        clear hko
        go_enter Tryz.func10, Tryz.ntmps10
        go_wp2_with (go_at_call 39; refine (kind96 _ _).mono ?_; rintro e w1 ⟨rfl, rfl⟩)
        go_ret
        exact ⟨some 2, rfl, Lib.hid ⟨(fun h => by cases h), (fun h => absurd h NN.out)⟩, Lib.hid (by go_grown)⟩
      · have hsi : ¬ (4096 : Int) < (s.size : Int) := by omega
        have YY := Lib.hid (show okText s → validV ⟨3, i, s, b⟩ from fun h => NV.out.2 ⟨hko, rfl, by omega, h⟩)
        have XX := Lib.hid (show validV ⟨3, i, s, b⟩ → okText s from fun h => (NV.out.1 h).2.2.2)
        have HS := Lib.hid hs
        clear hko hsz NV
        go_enter Tryz.func10, Tryz.ntmps10
        go_wp2_with (go_at_call 39; refine (kind96 _ _).mono ?_; rintro e w1 ⟨rfl, rfl⟩)
        refine (indexFunc40 _ s HS.out).mono ?_
        rintro e w2 ⟨r, rfl, hr, hb2⟩
        have BB := Lib.hid (show Below w.heap.size w w2 from hb2.out.from2)
        by_cases h0 : 0 ≤ r
        · have NN := Lib.hid (show ¬ validV ⟨3, i, s, b⟩ from fun h => by
            rcases hr.out with g | g
            · exact g.2 (XX.out h)
            · omega)
          clear hr hb2
          go_wp2_with fail
          go_ret
          exact ⟨some 3, rfl, Lib.hid ⟨(fun h => by cases h), (fun h => absurd h NN.out)⟩, BB⟩
        · have h1 : decide (0 ≤ r) = false := by simpa using h0
          have OK := Lib.hid (show validV ⟨3, i, s, b⟩ from by
            rcases hr.out with g | g
            · exact absurd g.1 h0
            · exact YY.out g.2)
          clear hr hb2
          go_wp2_with fail
          go_ret
          exact ⟨none, rfl, Lib.hid ⟨fun _ => OK.out, fun _ => rfl⟩, BB⟩
set_option maxRecDepth 100000 in
set_option maxHeartbeats 8000000 in
theorem valid10_o (w : World) (k : Int) (k1 : k ≠ 1) (k2 : k ≠ 2) (k3 : k ≠ 3) (i : Int) (s : ByteArray) (b : Bool) (hs : s.size ≤ TB) : Calls Tryz.prog 10 #[.agg #[.int .i64 k, .int .i64 i, .string s, .bool b]] w (NilIff ⟨k, i, s, b⟩ w) := by
  have e1 : (k == 1) = false := by simpa using k1
  have e2 : (k == 2) = false := by simpa using k2
  have e3 : (k == 3) = false := by simpa using k3
  have NV := Lib.hid (valid_iff k i s b)
  obtain ⟨q, hq⟩ : ∃ q, q = Val.eqB (bareV k i s b) ⟨k, 0, ⟨#[]⟩, false⟩ := ⟨_, rfl⟩
  have HN : ∀ W, (binOp BinOp.neq 26 (.agg #[.int .i64 k, .int .i64 i, .string s, .bool b]) (.agg #[.int .i64 k, .int .i64 0, .string ⟨#[]⟩, .bool false])).run Tryz.prog W = .ok (.bool (!q)) W := fun W => by
    rw [hq]
    have := neq26 W k i k 0 s ⟨#[]⟩ b false
    simpa [bareV, k1, k2, k3] using this
  rw [← hq] at NV
  clear hq
  cases hko : kindOk k with
  | false =>
    obtain ⟨qa1, qa2⟩ := kindS_no hko
    have NN := Lib.hid (show ¬ validV ⟨k, i, s, b⟩ from fun h => by have := (NV.out.1 h).1; rw [hko] at this; cases this)
    clear hko
    go_enter Tryz.func10, Tryz.ntmps10
    go_wp2_with (go_at_call 39; refine (kind96 _ _).mono ?_; rintro e w1 ⟨rfl, rfl⟩)
    go_ret
    exact ⟨some 3, rfl, Lib.hid ⟨(fun h => by cases h), (fun h => absurd h NN.out)⟩, Lib.hid (by go_grown)⟩
  | true =>
    obtain ⟨qa1, qa2⟩ := kindS_yes hko
    cases q with
    | false =>
      have NN := Lib.hid (show ¬ validV ⟨k, i, s, b⟩ from fun h => by have := (NV.out.1 h).2.1; cases this)
      clear hko
      simp only [Bool.not_false] at HN
      go_enter Tryz.func10, Tryz.ntmps10
      go_wp2_with (go_at_call 39; refine (kind96 _ _).mono ?_; rintro e w1 ⟨rfl, rfl⟩)
      go_ret
      exact ⟨some 3, rfl, Lib.hid ⟨(fun h => by cases h), (fun h => absurd h NN.out)⟩, Lib.hid (by go_grown)⟩
    | true =>
      simp only [Bool.not_true] at HN
      by_cases hsz : 4096 < s.size
      · have hsi : (4096 : Int) < (s.size : Int) := by omega
        have NN := Lib.hid (show ¬ validV ⟨k, i, s, b⟩ from fun h => by have := (NV.out.1 h).2.2.1; omega)
        clear hko
        go_enter Tryz.func10, Tryz.ntmps10
        go_wp2_with (go_at_call 39; refine (kind96 _ _).mono ?_; rintro e w1 ⟨rfl, rfl⟩)
        go_ret
        exact ⟨some 2, rfl, Lib.hid ⟨(fun h => by cases h), (fun h => absurd h NN.out)⟩, Lib.hid (by go_grown)⟩
      · have hsi : ¬ (4096 : Int) < (s.size : Int) := by omega
        have YY := Lib.hid (show okText s → validV ⟨k, i, s, b⟩ from fun h => NV.out.2 ⟨hko, rfl, by omega, h⟩)
        have XX := Lib.hid (show validV ⟨k, i, s, b⟩ → okText s from fun h => (NV.out.1 h).2.2.2)
        have HS := Lib.hid hs
        clear hko hsz NV
        go_enter Tryz.func10, Tryz.ntmps10
        go_wp2_with (go_at_call 39; refine (kind96 _ _).mono ?_; rintro e w1 ⟨rfl, rfl⟩)
        refine (indexFunc40 _ s HS.out).mono ?_
        rintro e w2 ⟨r, rfl, hr, hb2⟩
        have BB := Lib.hid (show Below w.heap.size w w2 from hb2.out.from2)
        by_cases h0 : 0 ≤ r
        · have NN := Lib.hid (show ¬ validV ⟨k, i, s, b⟩ from fun h => by
            rcases hr.out with g | g
            · exact g.2 (XX.out h)
            · omega)
          clear hr hb2
          go_wp2_with fail
          go_ret
          exact ⟨some 3, rfl, Lib.hid ⟨(fun h => by cases h), (fun h => absurd h NN.out)⟩, BB⟩
        · have h1 : decide (0 ≤ r) = false := by simpa using h0
          have OK := Lib.hid (show validV ⟨k, i, s, b⟩ from by
            rcases hr.out with g | g
            · exact absurd g.1 h0
            · exact YY.out g.2)
          clear hr hb2
          go_wp2_with fail
          go_ret
          exact ⟨none, rfl, Lib.hid ⟨fun _ => OK.out, fun _ => rfl⟩, BB⟩
theorem valid10 (w : World) (v : Val) (hs : v.text.size ≤ TB) : Calls Tryz.prog 10 #[.agg #[.int .i64 v.kind, .int .i64 v.int, .string v.text, .bool v.bool]] w (NilIff v w) := by
  obtain ⟨k, i, s, b⟩ := v
  by_cases k1 : k = 1
  · subst k1; exact valid10_1 w i s b hs
  by_cases k2 : k = 2
  · subst k2; exact valid10_2 w i s b hs
  by_cases k3 : k = 3
  · subst k3; exact valid10_3 w i s b hs
  exact valid10_o w k k1 k2 k3 i s b hs

end Go.Proofs.YtbcmmecilheicaaGreatDoor
