/- One key's versions, written commit by commit: what the store's calls answer. -/
import Derived.Test.YtcidmaeclonilaaSure16
import Derived.Test.YtcidmaeclonilaaCur2
namespace Go.Proofs.Ytcidmaeclonilaa
open Go Go.RowKit

/-- one act: its text, and is the row gone -/
structure ArgV (W : World) (A : Option Addr) (n : Nat) (acts : List (ByteArray × Bool)) : Prop where
  len : acts.length = n
  at_ : ∀ (j : Nat) (z : ByteArray) (g : Bool), acts[j]? = some (z, g) → ∃ b off, A = some ⟨b, off, none⟩ ∧ b < W.heap.size ∧ W.cell? ⟨b, off + j * 5 + 3, none⟩ = some (.string z) ∧ W.cell? ⟨b, off + j * 5 + 4, none⟩ = some (.bool g)

/-- what lies in the store after so many commits -/
structure TravP (acts : List (ByteArray × Bool)) (i : Nat) (vs : List Ver) (rs : List ByteArray) : Prop where
  len : vs.length = i
  rlen : rs.length = i
  at_ : ∀ (j : Nat) (v : Ver), vs[j]? = some v → v.at_ = 2 * ((j : Int) + 1)
  act : ∀ (j : Nat) (z : ByteArray) (g : Bool), j < i → acts[j]? = some (z, g) → ∃ v, vs[j]? = some v ∧ v.gone = g ∧ (g = false → rs[j]? = some z)
theorem TravP.nil (acts : List (ByteArray × Bool)) : TravP acts 0 [] [] := ⟨rfl, rfl, fun j v h => by simp at h, fun j z g h => absurd h (Nat.not_lt_zero _)⟩
theorem TravP.put {acts : List (ByteArray × Bool)} {i : Nat} {vs : List Ver} {rs : List ByteArray} (H : TravP acts i vs rs) {z : ByteArray} {g : Bool} (hz : acts[i]? = some (z, g)) (row : Sl) :
    TravP acts (i + 1) (vs ++ [⟨2 * ((i : Int) + 1), row, g⟩]) (rs ++ [if g = true then ⟨#[]⟩ else z]) := by
  have h1 := H.len
  have h2 := H.rlen
  refine ⟨by simp [h1], by simp [h2], fun j v hj => ?_, fun j z' g' hj ha => ?_⟩
  · by_cases hlt : j < vs.length
    · rw [List.getElem?_append_left hlt] at hj
      exact H.at_ j v hj
    · rw [List.getElem?_append_right (by omega)] at hj
      have : j = vs.length := by
        have := (List.getElem?_eq_some_iff.1 hj).1
        simp at this; omega
      subst this
      simp at hj
      subst hj
      show 2 * ((i : Int) + 1) = _
      rw [h1]
  · by_cases hlt : j < i
    · obtain ⟨v, e1, e2, e3⟩ := H.act j z' g' hlt ha
      refine ⟨v, by rw [List.getElem?_append_left (by omega)]; exact e1, e2, fun h => by rw [List.getElem?_append_left (by omega)]; exact e3 h⟩
    · obtain rfl : j = i := by omega
      rw [hz] at ha
      injection ha with ha
      injection ha with ha1 ha2
      subst ha1 ha2
      refine ⟨⟨2 * ((j : Int) + 1), row, g⟩, ?_, rfl, fun h => ?_⟩
      · rw [List.getElem?_append_right (by omega), h1]; simp
      · rw [List.getElem?_append_right (by omega), h2]; simp [h]
theorem TravP.srt {acts : List (ByteArray × Bool)} {i : Nat} {vs : List Ver} {rs : List ByteArray} (H : TravP acts i vs rs) : VSrt vs := by
  unfold VSrt
  rw [List.pairwise_iff_getElem]
  intro a b ha hb hab
  have e1 := H.at_ a _ (List.getElem?_eq_getElem ha)
  have e2 := H.at_ b _ (List.getElem?_eq_getElem hb)
  omega
theorem TravP.place {acts : List (ByteArray × Bool)} {n a i : Nat} {vs : List Ver} {rs : List ByteArray} (H : TravP acts n vs rs) (P : AsP vs (a : Int) i) : i = min (a / 2) n := by
  have h0 := H.len
  have hle := P.le
  have h1 : i ≤ a / 2 := by
    by_cases hc : i ≤ a / 2
    · exact hc
    · have hl : a / 2 < vs.length := by omega
      have e1 := H.at_ _ _ (List.getElem?_eq_getElem hl)
      have e2 := P.lo (a / 2) _ (by omega) (List.getElem?_eq_getElem hl)
      omega
  by_cases hc : a / 2 ≤ i ∨ n ≤ i
  · omega
  · have hl : i < vs.length := by omega
    have e1 := H.at_ _ _ (List.getElem?_eq_getElem hl)
    have e2 := P.hi i _ (Nat.le_refl _) (List.getElem?_eq_getElem hl)
    omega
theorem TravP.last {acts : List (ByteArray × Bool)} {n : Nat} {vs : List Ver} {rs : List ByteArray} (H : TravP acts n vs rs) (a : Nat) : lastB vs (a : Int) = decide (a < 2 * n) := by
  have h0 := H.len
  unfold lastB
  rw [List.getLast?_eq_getElem?]
  by_cases hn : n = 0
  · subst hn
    have : vs = [] := List.length_eq_zero_iff.1 h0
    subst this
    simp
  · have hl : vs.length - 1 < vs.length := by omega
    have e := List.getElem?_eq_getElem hl
    rw [e]
    have e1 := H.at_ _ _ e
    simp only [e1]
    rw [decide_eq_decide]
    omega

/-- is there a row in the m-th version; which one -/
def tIs (acts : List (ByteArray × Bool)) : Nat → Bool
  | 0 => false
  | k + 1 => match acts[k]? with
    | some (_, g) => !g
    | none => false
def tTxt (acts : List (ByteArray × Bool)) : Nat → ByteArray
  | 0 => ⟨#[]⟩
  | k + 1 => match acts[k]? with
    | some (z, g) => if g = true then ⟨#[]⟩ else z
    | none => ⟨#[]⟩
theorem TravP.told {acts : List (ByteArray × Bool)} {n m : Nat} {vs : List Ver} {rs : List ByteArray} (H : TravP acts n vs rs) (hm : m ≤ n) (hn : n ≤ acts.length) : (rowOf vs m).2 = tIs acts m ∧ textOf vs rs m = tTxt acts m := by
  cases m with
  | zero => exact ⟨rfl, rfl⟩
  | succ k =>
    obtain ⟨⟨z, g⟩, hz⟩ : ∃ x, acts[k]? = some x := ⟨_, List.getElem?_eq_getElem (by omega)⟩
    obtain ⟨v, e1, e2, e3⟩ := H.act k z g (by omega) hz
    have hr : (rowOf vs (k + 1)).2 = !g := by
      cases g <;> simp [rowOf, e1, e2]
    refine ⟨by rw [hr]; simp [tIs, hz], ?_⟩
    unfold textOf
    rw [hr]
    cases g with
    | true => simp [tTxt, hz]
    | false => simp [tTxt, hz, e3 rfl]

/-- the store after so many commits -/
def StK (acts : List (ByteArray × Bool)) (w W : World) (s i : Nat) : Prop := ∃ vs rs, SO w W s ⟨#[107]⟩ vs rs ∧ TravP acts i vs rs
theorem StK.below {acts : List (ByteArray × Bool)} {w W W' : World} {s i : Nat} (H : StK acts w W s i) (hb : Below W.heap.size W W') : StK acts w W' s i := by
  obtain ⟨vs, rs, h1, h2⟩ := H
  exact ⟨vs, rs, h1.below hb, h2⟩
theorem StK.world {acts : List (ByteArray × Bool)} {w W : World} {s i : Nat} (H : StK acts w W s i) : Below w.heap.size w W := by
  obtain ⟨vs, rs, h1, h2⟩ := H
  exact h1.world
theorem stput {acts : List (ByteArray × Bool)} {w W : World} {s i : Nat} (H : StK acts w W s i) {z : ByteArray} {g : Bool} (hz : acts[i]? = some (z, g)) (hi : i ≤ 1000) (hs : z.size ≤ 140737488355328) (RA : Option Addr) (rn rc : Nat) (hR : BytesAt W (RA, rn, rc) z) :
    Calls Try.prog 33 #[.pointer (some ⟨s, 0, none⟩), .string ⟨#[107]⟩, .int .i64 (2 * ((i : Int) + 1)), .slice RA rn rc, .bool g] W fun e w' => e = .returned .nilIface ∧ Hid (StK acts w w' s (i + 1)) := by
  obtain ⟨vs, rs, h1, h2⟩ := H
  refine (put33 h1 (2 * ((i : Int) + 1)) (by omega) (fun v hv => ?_) (by rw [h2.len]; exact hi) g RA rn rc z hR hs).mono ?_
  · obtain ⟨j, hj, e⟩ := List.mem_iff_getElem.1 hv
    have := h2.at_ j v (by rw [List.getElem?_eq_getElem hj, e])
    have := h2.len
    omega
  · rintro e w' ⟨he, row, h⟩
    exact ⟨he, Lib.hid ⟨_, _, h.out, h2.put hz row⟩⟩
theorem stget {acts : List (ByteArray × Bool)} {w W : World} {s n : Nat} (H : StK acts w W s n) (hn : n ≤ acts.length) (hn2 : n ≤ 1000) (a : Nat) :
    Calls Try.prog 34 #[.pointer (some ⟨s, 0, none⟩), .string ⟨#[107]⟩, .int .i64 a] W fun e w' => ∃ (A : Option Addr) (k c : Nat), e = .returned (.tuple #[.slice A k c, .bool (tIs acts (min (a / 2) n))]) ∧ Hid (BytesAt w' (A, k, c) (tTxt acts (min (a / 2) n))) ∧ Hid (Below W.heap.size W w') := by
  obtain ⟨vs, rs, h1, h2⟩ := H
  have hl := h2.len
  refine (get34 h1 (a : Int) (by omega) h2.srt).mono ?_
  rintro e w' ⟨i, A, k, c, he, hP, hB, hb⟩
  have hi := h2.place hP.out
  subst hi
  have ht := h2.told (m := min (a / 2) n) (by omega) hn
  rw [ht.1] at he
  rw [ht.2] at hB
  exact ⟨A, k, c, he, hB, hb⟩
theorem stchK {acts : List (ByteArray × Bool)} {w W : World} {s n : Nat} (H : StK acts w W s n) (hn : n ≤ 1000) (a : Nat) :
    Calls Try.prog 35 #[.pointer (some ⟨s, 0, none⟩), .agg #[.string ⟨#[107]⟩, .string ⟨#[107]⟩, .bool true, .bool true, .bool false, .bool false], .int .i64 a] W fun e w' => e = .returned (.bool (decide (a < 2 * n))) ∧ Hid (Below W.heap.size W w') := by
  obtain ⟨vs, rs, h1, h2⟩ := H
  have hl := h2.len
  refine (changed35 h1 (by omega) ⟨#[107]⟩ ⟨#[107]⟩ true true false false (a : Int)).mono ?_
  rintro e w' ⟨he, hb⟩
  have hh : hasB ⟨#[107]⟩ ⟨#[107]⟩ true true false false ⟨#[107]⟩ = true := by kernel_rfl
  rw [hh, h2.last] at he
  exact ⟨he, hb⟩
theorem stchJ {acts : List (ByteArray × Bool)} {w W : World} {s n : Nat} (H : StK acts w W s n) (hn : n ≤ 1000) (a : Nat) :
    Calls Try.prog 35 #[.pointer (some ⟨s, 0, none⟩), .agg #[.string ⟨#[106]⟩, .string ⟨#[106]⟩, .bool true, .bool true, .bool false, .bool false], .int .i64 a] W fun e w' => e = .returned (.bool false) ∧ Hid (Below W.heap.size W w') := by
  obtain ⟨vs, rs, h1, h2⟩ := H
  have hl := h2.len
  refine (changed35 h1 (by omega) ⟨#[106]⟩ ⟨#[106]⟩ true true false false (a : Int)).mono ?_
  rintro e w' ⟨he, hb⟩
  have hh : hasB ⟨#[106]⟩ ⟨#[106]⟩ true true false false ⟨#[107]⟩ = false := by kernel_rfl
  rw [hh] at he
  exact ⟨he, hb⟩
theorem stlen {acts : List (ByteArray × Bool)} {w W : World} {s n : Nat} (H : StK acts w W s n) (hn : n ≤ 1000) :
    Calls Try.prog 36 #[.pointer (some ⟨s, 0, none⟩)] W fun e w' => e = .returned (.int .i64 n) ∧ Hid (Below W.heap.size W w') := by
  obtain ⟨vs, rs, h1, h2⟩ := H
  have hl := h2.len
  subst hl
  exact versions36 h1 (by omega)
set_option maxRecDepth 100000 in
theorem conv0 (W : World) : (convert 53 9 (.slice none 0 0)).run Try.prog W = .ok (.string ⟨#[]⟩) W := by kernel_rfl
theorem bytes_back0 {W : World} {A : Option Addr} {n c : Nat} {s : ByteArray} (h : BytesAt W (A, n, c) s) : (convert 53 9 (.slice A n c)).run Try.prog W = .ok (.string s) W := by
  have hl : n = s.size := h.len
  rcases h.form with ⟨h1, h2, h0⟩ | ⟨g, h1, -, h3⟩
  · have hA : A = none := h1
    have hc : c = 0 := h0
    have hn : n = 0 := by omega
    have hs : s = ⟨#[]⟩ := by
      cases s with | mk d => have : d.size = 0 := h2; congr; exact Array.size_eq_zero_iff.1 this
    subst hA hc hn hs
    exact conv0 W
  · have hA : A = some ⟨g, 0, none⟩ := h1
    subst hA hl
    have := run_convert_bytes_back (P := Try.prog) W 53 9 5 ⟨g, 0, none⟩ c s.data.toList Try.underlying53 Try.underlying5 Try.underlying9 (fun j hj => by
      rw [add_lit0]
      have hj' : j < s.size := by rw [Array.length_toList] at hj; exact hj
      rw [h3 j hj', List.getD_eq_getElem?_getD, List.getElem?_eq_getElem hj]; rfl)
    rw [Array.length_toList] at this
    exact this

end Go.Proofs.Ytcidmaeclonilaa
