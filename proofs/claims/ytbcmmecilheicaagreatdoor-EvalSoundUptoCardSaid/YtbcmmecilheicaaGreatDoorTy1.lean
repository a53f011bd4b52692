/- What the document's check lets through (kinds of an expression's parts); what such an expression is reckoned to. In plain Lean. -/
import Derived.Test.YtbcmmecilheicaaGreatDoorOf3
import Derived.Test.YtbcmmecilheicaaGreatDoorEvI
namespace Go.Proofs.YtbcmmecilheicaaGreatDoor
open Go Go.RowKit

/-- the operation that goes over many rows -/
def aggOp (op : ByteArray) : Bool := inP op aggsR
def cmpsR : List ByteArray := [⟨#[61]⟩, ⟨#[60, 62]⟩, ⟨#[60]⟩, ⟨#[60, 61]⟩, ⟨#[62]⟩, ⟨#[62, 61]⟩]
def sumsR : List ByteArray := [⟨#[43]⟩, ⟨#[45]⟩, ⟨#[42]⟩, ⟨#[47]⟩, ⟨#[37]⟩]
/-- which kinds may stand where; g: an operation that goes over many rows may stand here -/
def OkOp (cols : List Col) (g : Bool) (op : ByteArray) (kind col : Int) (v : Val) (args : List Ex) : Prop :=
  (op = ⟨#[108, 105, 116]⟩ ∧ args = [] ∧ validV v ∧ kind = v.kind) ∨
  (op = ⟨#[108, 97, 98, 101, 108]⟩ ∧ args = [] ∧ kind = 2) ∨
  (op = ⟨#[99, 111, 108]⟩ ∧ args = [] ∧ ∃ (i : Nat) (c : Col), col = (i : Int) ∧ cols[i]? = some c ∧ kind = c.kind) ∨
  (∃ a, args = [a] ∧ ((op = ⟨#[110, 101, 103]⟩ ∧ kind = 1 ∧ fitP a.kind 1 = true) ∨ (op = ⟨#[110, 111, 116]⟩ ∧ kind = 3 ∧ fitP a.kind 3 = true) ∨ (op = ⟨#[105, 115, 110, 117, 108, 108]⟩ ∧ kind = 3) ∨ (op = ⟨#[110, 111, 116, 110, 117, 108, 108]⟩ ∧ kind = 3))) ∨
  (∃ a b, args = [a, b] ∧ fitP b.kind a.kind = true ∧ (((op = ⟨#[97, 110, 100]⟩ ∨ op = ⟨#[111, 114]⟩) ∧ kind = 3 ∧ fitP a.kind 3 = true ∧ fitP b.kind 3 = true) ∨ (op ∈ cmpsR ∧ kind = 3) ∨ (op = ⟨#[124, 124]⟩ ∧ kind = 2 ∧ fitP a.kind 2 = true ∧ fitP b.kind 2 = true) ∨ (op ∈ sumsR ∧ kind = 1 ∧ fitP a.kind 1 = true ∧ fitP b.kind 1 = true))) ∨
  (g = true ∧ ((op = ⟨#[114, 111, 119, 115]⟩ ∧ args = [] ∧ kind = 1) ∨ ∃ a, args = [a] ∧ ((op = ⟨#[99, 111, 117, 110, 116]⟩ ∧ kind = 1) ∨ (op = ⟨#[115, 117, 109]⟩ ∧ kind = 1 ∧ fitP a.kind 1 = true) ∨ ((op = ⟨#[109, 105, 110]⟩ ∨ op = ⟨#[109, 97, 120]⟩) ∧ kind = a.kind))))
/-- an expression that was let through -/
inductive Typed (cols : List Col) : Bool → Ex → Prop
  | mk (g : Bool) (op : ByteArray) (kind col : Int) (v : Val) (args : List Ex) (ok : OkOp cols g op kind col v args) (sub : ∀ (j : Nat) (e : Ex), args[j]? = some e → Typed cols (g && !aggOp op) e) : Typed cols g (.mk op kind col v args)

/-- a value that may be, of a kind or null, or an error of numbers or texts -/
def SoundR (kind : Int) : Res → Prop
  | (v, none) => validV v ∧ (v.kind = 0 ∨ v.kind = kind)
  | (v, some er) => (er = 5 ∨ er = 6 ∨ er = 2) ∧ v = Val.null

theorem valid_null : validV Val.null := ⟨by decide, by decide, fun _ => rfl, fun _ => by kernel_rfl, fun _ => rfl, by decide, fun i h => absurd h (Nat.not_lt_zero _)⟩
theorem valid_bool (b : Bool) : validV (Val.ofBool b) := ⟨by simp [Val.ofBool], by simp [Val.ofBool], fun _ => rfl, fun _ => by kernel_rfl, fun h => absurd rfl h, by simp [Val.ofBool, ByteArray.size], fun i h => absurd h (Nat.not_lt_zero _)⟩
theorem valid_int (n : Int) : validV (Val.ofInt n) := ⟨by simp [Val.ofInt], by simp [Val.ofInt], fun h => absurd rfl h, fun _ => by kernel_rfl, fun _ => rfl, by simp [Val.ofInt, ByteArray.size], fun i h => absurd h (Nat.not_lt_zero _)⟩
theorem valid_text {s : ByteArray} (h : s.size ≤ 4096) (hc : ∀ i (h : i < s.size), 32 ≤ s[i].toNat ∧ s[i].toNat ≤ 126) : validV (Val.ofText s) := ⟨by simp [Val.ofText], by simp [Val.ofText], fun _ => rfl, fun h => absurd rfl h, fun _ => rfl, h, hc⟩
theorem valid_join {a b : Val} (ha : validV a) (hb : validV b) (h : a.text.size + b.text.size ≤ 4096) : validV (Val.ofText (a.text ++ b.text)) := by
  refine valid_text (by rw [ByteArray.size_append]; exact h) fun i hi => ?_
  rcases Nat.lt_or_ge i a.text.size with q | q
  · rw [ByteArray.getElem_append_left q]
    exact ha.2.2.2.2.2.2 i q
  · rw [ByteArray.getElem_append_right q]
    exact hb.2.2.2.2.2.2 _ _
theorem sound_null (k : Int) : SoundR k (Val.null, none) := ⟨valid_null, .inl rfl⟩
theorem sound_bool (b : Bool) : SoundR 3 (Val.ofBool b, none) := ⟨valid_bool b, .inr rfl⟩
theorem isK_of {k : Int} {v : Val} (h : v.kind = 0 ∨ v.kind = k) : isK k v = true := by
  unfold isK
  rcases h with h | h <;> simp [h]
theorem nullB_of {v : Val} (h : v.kind = 0) : nullB v = true := by simp [nullB, h]
theorem sound_not {v : Val} (h : v.kind = 0 ∨ v.kind = 3) : SoundR 3 (notP v) := by
  unfold notP
  rw [if_pos (isK_of h)]
  split
  · exact sound_null 3
  · exact sound_bool _
theorem sound_not2 {r : Res} (h : SoundR 3 r) : SoundR 3 (not2 r) := by
  obtain ⟨v, er⟩ := r
  cases er with
  | some er => exact ⟨h.1, rfl⟩
  | none => exact sound_not h.2
theorem sound_either {a b : Val} (ha : a.kind = 0 ∨ a.kind = 3) (hb : b.kind = 0 ∨ b.kind = 3) (en : Bool) : SoundR 3 (eitherP a b en) := by
  unfold eitherP
  rw [if_pos (by rw [isK_of ha, isK_of hb]; rfl)]
  split
  · exact sound_bool _
  · split
    · exact sound_null 3
    · exact sound_bool _
theorem kindOk_of {v : Val} (h : validV v) : kindOk v.kind = true := by
  obtain ⟨h1, h2, -⟩ := h
  unfold kindOk
  rcases (show v.kind = 0 ∨ v.kind = 1 ∨ v.kind = 2 ∨ v.kind = 3 by omega) with q | q | q | q <;> simp [q]
theorem sound_compared {a b : Val} (ha : validV a) (hb : validV b) (h : a.kind = 0 ∨ b.kind = 0 ∨ a.kind = b.kind) (so : Int → Bool) : SoundR 3 (comparedP a b so) := by
  unfold comparedP
  rw [if_pos (by
    unfold knownB
    rw [kindOk_of ha, kindOk_of hb]
    rcases h with q | q | q <;> simp [nullB, q])]
  split
  · exact sound_null 3
  · exact sound_bool _
theorem sound_reckon (op : Int) {a b : Val} (ha : a.kind = 0 ∨ a.kind = 1) (hb : b.kind = 0 ∨ b.kind = 1) : SoundR 1 (reckonP op a b) := by
  unfold reckonP
  rw [if_pos (by rw [isK_of ha, isK_of hb]; rfl)]
  split
  · exact sound_null 1
  · have h := numP_err op a.int b.int
    rcases hn : numP op a.int b.int with ⟨er, n⟩
    rw [hn] at h
    cases er with
    | none => exact ⟨valid_int n, .inr rfl⟩
    | some er =>
      refine ⟨?_, rfl⟩
      rcases h with h | h | h
      · cases h
      · exact .inl (by simpa using h)
      · exact .inr (.inl (by simpa using h))
theorem sound_join {a b : Val} (va : validV a) (vb : validV b) (ha : a.kind = 0 ∨ a.kind = 2) (hb : b.kind = 0 ∨ b.kind = 2) : SoundR 2 (joinP a b) := by
  unfold joinP
  rw [if_pos (by rw [isK_of ha, isK_of hb]; rfl)]
  split
  · exact sound_null 2
  · split
    · exact ⟨.inr (.inr rfl), rfl⟩
    · exact ⟨valid_join va vb (by omega), .inr rfl⟩
theorem fit_kind {k q u : Int} (h : fitP k q = true) (hq : q ≠ 0) (hu : u = 0 ∨ u = k) : u = 0 ∨ u = q := by
  unfold fitP at h
  simp only [Bool.or_eq_true, beq_iff_eq] at h
  rcases hu with hu | hu
  · exact .inl hu
  · rcases h with h | h | h
    · exact .inl (hu.trans h)
    · exact absurd h hq
    · exact .inr (hu.trans h)
theorem fit_two {k m u v : Int} (h : fitP m k = true) (hu : u = 0 ∨ u = k) (hv : v = 0 ∨ v = m) : u = 0 ∨ v = 0 ∨ u = v := by
  unfold fitP at h
  simp only [Bool.or_eq_true, beq_iff_eq] at h
  omega

/-- of Args, all sound: their values, or the first error -/
theorem evalL_sound (E : Env) : ∀ (l : List Ex), (∀ (j : Nat) (e : Ex), l[j]? = some e → SoundR e.kind (evalP E e)) → match evalL E l with
    | (vs, none) => vs.length = l.length ∧ ∀ (j : Nat) (e : Ex) (v : Val), l[j]? = some e → vs[j]? = some v → validV v ∧ (v.kind = 0 ∨ v.kind = e.kind)
    | (_, some er) => er = 5 ∨ er = 6 ∨ er = 2
  | [], _ => by
    rw [evalL_nil]
    exact ⟨rfl, fun j e v h => by simp at h⟩
  | x :: xs, h => by
    have ih := evalL_sound E xs (fun j e hj => h (j + 1) e (by simpa using hj))
    have hx := h 0 x rfl
    rw [evalL_cons]
    rcases hp : evalP E x with ⟨u, er⟩
    rw [hp] at hx
    cases er with
    | some er => exact hx.1
    | none =>
      rcases hq : evalL E xs with ⟨l, er⟩
      rw [hq] at ih
      cases er with
      | some er => exact ih
      | none =>
        refine ⟨by simp [ih.1], fun j e v hj hv => ?_⟩
        cases j with
        | zero =>
          obtain rfl : x = e := by simpa using hj
          obtain rfl : u = v := by simpa using hv
          exact hx
        | succ j => exact ih.2 j e v (by simpa using hj) (by simpa using hv)
/-- of one -/
theorem un_sound {E : Env} {k : Int} {a : Ex} {op : ByteArray} (hL : match evalL E [a] with
    | (vs, none) => vs.length = 1 ∧ ∀ (j : Nat) (e : Ex) (v : Val), [a][j]? = some e → vs[j]? = some v → validV v ∧ (v.kind = 0 ∨ v.kind = e.kind)
    | (_, some er) => er = 5 ∨ er = 6 ∨ er = 2) (hF : ∀ v, validV v → (v.kind = 0 ∨ v.kind = a.kind) → SoundR k (unaryP op v)) : SoundR k (unTail op (evalL E [a])) := by
  rcases hq : evalL E [a] with ⟨l, er⟩
  rw [hq] at hL
  cases er with
  | some er => exact ⟨hL, rfl⟩
  | none =>
    obtain ⟨v, rfl⟩ : ∃ v, l = [v] := List.length_eq_one_iff.1 hL.1
    have := hL.2 0 a v rfl rfl
    exact hF v this.1 this.2
theorem len_two' {α : Type} {l : List α} (h : l.length = 2) : ∃ u v, l = [u, v] := by
  match l, h with
  | [u, v], _ => exact ⟨u, v, rfl⟩
/-- of two -/
theorem bi_sound {E : Env} {k : Int} {a b : Ex} {F : Val → Val → Res} (hL : match evalL E [a, b] with
    | (vs, none) => vs.length = 2 ∧ ∀ (j : Nat) (e : Ex) (v : Val), [a, b][j]? = some e → vs[j]? = some v → validV v ∧ (v.kind = 0 ∨ v.kind = e.kind)
    | (_, some er) => er = 5 ∨ er = 6 ∨ er = 2) (hF : ∀ u v, validV u → (u.kind = 0 ∨ u.kind = a.kind) → validV v → (v.kind = 0 ∨ v.kind = b.kind) → SoundR k (F u v)) : SoundR k (biTail F (evalL E [a, b])) := by
  rcases hq : evalL E [a, b] with ⟨l, er⟩
  rw [hq] at hL
  cases er with
  | some er => exact ⟨hL, rfl⟩
  | none =>
    obtain ⟨u, v, rfl⟩ : ∃ u v, l = [u, v] := len_two' hL.1
    have h0 := hL.2 0 a u rfl rfl
    have h1 := hL.2 1 b v rfl rfl
    exact hF u v h0.1 h0.2 h1.1 h1.2
set_option maxHeartbeats 4000000 in
theorem typed_sound {cols : List Col} (E : Env) (hrow : RowFits cols E.vals) (hlab : ∀ z ∈ E.labels, validV (Val.ofText z)) (h0 : 0 ≤ E.at_) (h1 : E.at_ < E.labels.length) {g : Bool} {y : Ex} (h : Typed cols g y) : g = false → SoundR y.kind (evalP E y) := by
  induction h with
  | mk g op kind col v args ok sub ih =>
    intro hg
    subst hg
    have hL := evalL_sound E args (fun j e hj => ih j e hj rfl)
    rw [evalP_mk]
    show SoundR kind _
    clear ih sub
    rcases ok with ⟨rfl, rfl, hv, rfl⟩ | ⟨rfl, rfl, rfl⟩ | ⟨rfl, rfl, i, c, rfl, hc, rfl⟩ | ⟨a, rfl, ok⟩ | ⟨a, b, rfl, hab, ok⟩ | ⟨hg, -⟩
    · rw [evo_lit]
      exact ⟨hv, .inr rfl⟩
    · rw [evo_label, if_neg (by omega)]
      have hlt : E.at_.toNat < E.labels.length := by omega
      have hm : E.labels.getD E.at_.toNat ⟨#[]⟩ ∈ E.labels := by
        rw [List.getD_eq_getElem?_getD, List.getElem?_eq_getElem hlt]
        exact List.getElem_mem hlt
      exact ⟨hlab _ hm, .inr rfl⟩
    · have hi : i < E.vals.length := by rw [hrow.1]; exact (List.getElem?_eq_some_iff.1 hc).1
      rw [evo_col, if_neg (by omega)]
      have hu : E.vals[i]? = some (E.vals.getD (i : Int).toNat Val.null) := by
        rw [Int.toNat_natCast, List.getD_eq_getElem?_getD, List.getElem?_eq_getElem hi]; rfl
      exact hrow.2 i _ c hu hc
    · have hn : ([a] : List Ex).length = 1 := rfl
      rcases ok with ⟨rfl, rfl, ha⟩ | ⟨rfl, rfl, ha⟩ | ⟨rfl, rfl⟩ | ⟨rfl, rfl⟩
      · rw [evo_neg, if_pos hn]
        exact un_sound hL (fun v _ hk => by rw [unP_neg]; exact sound_reckon 45 (.inr rfl) (fit_kind ha (by decide) hk))
      · rw [evo_not, if_pos hn]
        exact un_sound hL (fun v _ hk => by rw [unP_not]; exact sound_not (fit_kind ha (by decide) hk))
      · rw [evo_isnull, if_pos hn]
        exact un_sound hL (fun v _ hk => by rw [unP_isnull]; exact sound_bool _)
      · rw [evo_notnull, if_pos hn]
        exact un_sound hL (fun v _ hk => by rw [unP_notnull]; exact sound_bool _)
    · have hn : ([a, b] : List Ex).length = 2 := rfl
      rcases ok with ⟨hop, rfl, ha, hb⟩ | ⟨hop, rfl⟩ | ⟨rfl, rfl, ha, hb⟩ | ⟨hop, rfl, ha, hb⟩
      · rcases hop with rfl | rfl
        · rw [evo_and, if_pos hn]
          exact bi_sound hL (fun u v _ hu _ hv => by rw [biP_and]; exact sound_either (fit_kind ha (by decide) hu) (fit_kind hb (by decide) hv) _)
        · rw [evo_or, if_pos hn]
          exact bi_sound hL (fun u v _ hu _ hv => by rw [biP_or]; exact sound_either (fit_kind ha (by decide) hu) (fit_kind hb (by decide) hv) _)
      · simp only [cmpsR, List.mem_cons, List.not_mem_nil, or_false] at hop
        rcases hop with rfl | rfl | rfl | rfl | rfl | rfl
        · rw [evo_eq, if_pos hn]
          exact bi_sound hL (fun u v vu hu vv hv => by rw [biP_eq]; exact sound_compared vu vv (fit_two hab hu hv) _)
        · rw [evo_ne, if_pos hn]
          exact bi_sound hL (fun u v vu hu vv hv => by rw [biP_ne]; exact sound_not2 (sound_compared vu vv (fit_two hab hu hv) _))
        · rw [evo_lt, if_pos hn]
          exact bi_sound hL (fun u v vu hu vv hv => by rw [biP_lt]; exact sound_compared vu vv (fit_two hab hu hv) _)
        · rw [evo_le, if_pos hn]
          exact bi_sound hL (fun u v vu hu vv hv => by rw [biP_le]; exact sound_not2 (sound_compared vv vu (by have := fit_two hab hu hv; omega) _))
        · rw [evo_gt, if_pos hn]
          exact bi_sound hL (fun u v vu hu vv hv => by rw [biP_gt]; exact sound_compared vv vu (by have := fit_two hab hu hv; omega) _)
        · rw [evo_ge, if_pos hn]
          exact bi_sound hL (fun u v vu hu vv hv => by rw [biP_ge]; exact sound_not2 (sound_compared vu vv (fit_two hab hu hv) _))
      · rw [evo_cat, if_pos hn]
        exact bi_sound hL (fun u v vu hu vv hv => by rw [biP_cat]; exact sound_join vu vv (fit_kind ha (by decide) hu) (fit_kind hb (by decide) hv))
      · simp only [sumsR, List.mem_cons, List.not_mem_nil, or_false] at hop
        rcases hop with rfl | rfl | rfl | rfl | rfl
        · rw [evo_add, if_pos hn]
          exact bi_sound hL (fun u v _ hu _ hv => by rw [biP_add]; exact sound_reckon 43 (fit_kind ha (by decide) hu) (fit_kind hb (by decide) hv))
        · rw [evo_sub, if_pos hn]
          exact bi_sound hL (fun u v _ hu _ hv => by rw [biP_sub]; exact sound_reckon 45 (fit_kind ha (by decide) hu) (fit_kind hb (by decide) hv))
        · rw [evo_mul, if_pos hn]
          exact bi_sound hL (fun u v _ hu _ hv => by rw [biP_mul]; exact sound_reckon 42 (fit_kind ha (by decide) hu) (fit_kind hb (by decide) hv))
        · rw [evo_div, if_pos hn]
          exact bi_sound hL (fun u v _ hu _ hv => by rw [biP_div]; exact sound_reckon 47 (fit_kind ha (by decide) hu) (fit_kind hb (by decide) hv))
        · rw [evo_rem, if_pos hn]
          exact bi_sound hL (fun u v _ hu _ hv => by rw [biP_rem]; exact sound_reckon 37 (fit_kind ha (by decide) hu) (fit_kind hb (by decide) hv))
    · cases hg

end Go.Proofs.YtbcmmecilheicaaGreatDoor
