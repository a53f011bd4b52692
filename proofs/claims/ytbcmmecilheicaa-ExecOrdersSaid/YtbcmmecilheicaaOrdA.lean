/- Keys in order: slices.CompareFunc over value.Compare, order.Compare. Values and keys in order: a total preorder. Plain facts. -/
import Derived.Test.YtbcmmecilheicaaVal4
import Derived.Test.YtbcmmecilheicaaEvCE

/- Keys in order: slices.CompareFunc over value.Compare, order.Compare. -/
namespace Go.Proofs.Ytbcmmecilheicaa
open Go Go.RowKit

/-- how lists of values stand to one another -/
def keyCmp : List Val → List Val → Int
  | [], [] => 0
  | [], _ :: _ => -1
  | _ :: _, [] => 1
  | a :: x, b :: y => if compareP a b ≠ 0 then compareP a b else keyCmp x y
theorem keyCmp_step {x y : List Val} {i : Nat} {a b : Val} (ha : x[i]? = some a) (hb : y[i]? = some b) : keyCmp (x.drop i) (y.drop i) = if compareP a b ≠ 0 then compareP a b else keyCmp (x.drop (i + 1)) (y.drop (i + 1)) := by
  obtain ⟨h1, rfl⟩ := List.getElem?_eq_some_iff.1 ha
  obtain ⟨h2, rfl⟩ := List.getElem?_eq_some_iff.1 hb
  rw [List.drop_eq_getElem_cons h1, List.drop_eq_getElem_cons h2, keyCmp]
theorem keyCmp_long {x y : List Val} {i : Nat} (ha : i < x.length) (hb : y.length ≤ i) : keyCmp (x.drop i) (y.drop i) = 1 := by
  rw [List.drop_eq_getElem_cons ha, List.drop_eq_nil_of_le hb, keyCmp]
theorem keyCmp_short {x y : List Val} {i : Nat} (ha : x.length ≤ i) (hb : i < y.length) : keyCmp (x.drop i) (y.drop i) = -1 := by
  rw [List.drop_eq_getElem_cons hb, List.drop_eq_nil_of_le ha, keyCmp]
theorem keyCmp_none {x y : List Val} {i : Nat} (ha : x.length ≤ i) (hb : y.length ≤ i) : keyCmp (x.drop i) (y.drop i) = 0 := by
  rw [List.drop_eq_nil_of_le hb, List.drop_eq_nil_of_le ha, keyCmp]

set_option maxRecDepth 100000 in
set_option maxHeartbeats 8000000 in
theorem compareFunc42 (w : World) (A : Option Addr) (n c : Nat) (B : Option Addr) (m d : Nat) (x y : List Val) (hx : ValsAt w A n x) (hy : ValsAt w B m y) (hn : n ≤ 1000000) (hm : m ≤ 1000000) :
    Calls Try.prog 42 #[.slice A n c, .slice B m d, .func (.func 43) #[] #[]] w fun e w' => e = .returned (.int .i64 (keyCmp x y)) ∧ Hid (Below w.heap.size w w') := by
  have HX := Lib.hid hx
  have HY := Lib.hid hy
  have hn9 : (n : Int) < 1000001 := by omega
  have hm9 : (m : Int) < 1000001 := by omega
  clear hx hy
  go_enter Try.func42, Try.ntmps42
  go_wp2_with fail
  go_loopg [13] n (fun kx s13 wr => ∃ i : Nat, s13 = .int .i64 i ∧ kx + i = n ∧ Hid (Below w.heap.size w wr ∧ keyCmp x y = keyCmp (x.drop i) (y.drop i)))
  case atStart => exact ⟨0, rfl, rfl, Lib.hid ⟨Below.refl _ _, rfl⟩⟩
  case round =>
    obtain ⟨i, rfl, hk, I⟩ := hrel
    have hi9 : (i : Int) < 1000001 := by omega
    by_cases hi : i < n
    · have hiz : (i : Int) < (n : Int) := by omega
      obtain ⟨a, ha⟩ : ∃ a, x[i]? = some a := ⟨_, List.getElem?_eq_getElem (by rw [HX.out.len]; exact hi)⟩
      obtain ⟨b, off, rfl, hb, hv⟩ := HX.out.at_ i a ha
      obtain ⟨c0, c1, c2, c3⟩ := hv.below hb I.out.1
      have hbl : b < wr.heap.size := Nat.lt_of_lt_of_le hb I.out.1.size
      by_cases hj : i < m
      · have hjz : (i : Int) < (m : Int) := by omega
        have hgd : decide (m ≤ i) = false := decide_eq_false (by omega)
        obtain ⟨u, hu⟩ : ∃ u, y[i]? = some u := ⟨_, List.getElem?_eq_getElem (by rw [HY.out.len]; exact hj)⟩
        obtain ⟨b2, off2, rfl, hb2, hv2⟩ := HY.out.at_ i u hu
        obtain ⟨d0, d1, d2, d3⟩ := hv2.below hb2 I.out.1
        have hbl2 : b2 < wr.heap.size := Nat.lt_of_lt_of_le hb2 I.out.1.size
        have hbl3 : b2 < wr.heap.size + 1 := by omega
        have hs := keyCmp_step ha hu
        have CC := Lib.hid (compare43 ((wr.alloc (.cells #[.int .i64 a.kind, .int .i64 a.int, .string a.text, .bool a.bool] 23)).alloc (.cells #[.int .i64 u.kind, .int .i64 u.int, .string u.text, .bool u.bool] 23)) a u)
        obtain ⟨r, hr⟩ : ∃ r, r = compareP a u := ⟨_, rfl⟩
        rw [← hr] at CC hs
        by_cases h0 : r = 0
        · subst h0
          have NX := Lib.hid (show keyCmp x y = keyCmp (x.drop (i + 1)) (y.drop (i + 1)) by rw [I.out.2, hs]; simp)
          have BB := Lib.hid I.out.1
          clear hs hr ha hu hv hv2 I
          go_wp2_with fail
          refine CC.out.mono ?_
          rintro e w2 ⟨rfl, h2⟩
          have B2 := Lib.hid (bt h2.out.from2 BB.out)
          clear h2 CC
          go_wp2_with fail
          go_roundg (gk - 1)
          case measure => omega
          case rel => exact ⟨i + 1, by first | rfl | (simp; done), by omega, Lib.hid ⟨B2.out, NX.out⟩⟩
        · have NX := Lib.hid (show keyCmp x y = r by rw [I.out.2, hs, if_pos h0])
          have BB := Lib.hid I.out.1
          have h1 : (r != 0) = true := by simpa using h0
          have h2 : (r == 0) = false := by simpa using h0
          clear hs hr ha hu hv hv2 I
          go_wp2_with fail
          refine CC.out.mono ?_
          rintro e w2 ⟨rfl, h3⟩
          have B2 := Lib.hid (bt h3.out.from2 BB.out)
          clear h3 CC
          go_wp2_with fail
          go_ret
          exact ⟨by rw [NX.out]; rfl, B2⟩
      · have hjz : m ≤ i := by omega
        have hgd : decide (m ≤ i) = true := decide_eq_true (by omega)
        have NX := Lib.hid (show keyCmp x y = 1 by rw [I.out.2]; exact keyCmp_long (by rw [HX.out.len]; exact hi) (by rw [HY.out.len]; omega))
        have BB := Lib.hid I.out.1
        clear ha hv I
        go_wp2_with fail
        go_ret
        exact ⟨by rw [NX.out]; rfl, Lib.hid (bt (below_alloc _ _) BB.out)⟩
    · have hiz : ¬ (i : Int) < (n : Int) := by omega
      by_cases hj : n < m
      · have hjz : (n : Int) < (m : Int) := by omega
        have NX := Lib.hid (show keyCmp x y = -1 by rw [I.out.2]; exact keyCmp_short (by rw [HX.out.len]; omega) (by rw [HY.out.len]; omega))
        go_wp2_with fail
        go_ret
        exact ⟨by rw [NX.out]; rfl, Lib.hid I.out.1⟩
      · have hjz : ¬ (n : Int) < (m : Int) := by omega
        have NX := Lib.hid (show keyCmp x y = 0 by rw [I.out.2]; exact keyCmp_none (by rw [HX.out.len]; omega) (by rw [HY.out.len]; omega))
        go_wp2_with fail
        go_ret
        exact ⟨by rw [NX.out]; rfl, Lib.hid I.out.1⟩

set_option maxRecDepth 100000 in
set_option maxHeartbeats 4000000 in
theorem orderCompare24 (w : World) (A : Option Addr) (n c : Nat) (B : Option Addr) (m d : Nat) (x y : List Val) (hx : ValsAt w A n x) (hy : ValsAt w B m y) (hn : n ≤ 1000000) (hm : m ≤ 1000000) :
    Calls Try.prog 24 #[.slice A n c, .slice B m d] w fun e w' => e = .returned (.int .i64 (keyCmp x y)) ∧ Hid (Below w.heap.size w w') := by
  have CC := Lib.hid (compareFunc42 w A n c B m d x y hx hy hn hm)
  clear hx hy
  go_enter Try.func24, Try.ntmps24
  go_wp2_with fail
  refine CC.out.mono ?_
  rintro e w2 ⟨rfl, h2⟩
  go_wp2_with fail
  go_ret
  exact ⟨rfl, h2⟩

set_option maxRecDepth 100000 in
set_option maxHeartbeats 4000000 in
/-- the comparison of exec.Groups -/
theorem keyed23 (w : World) (A : Option Addr) (n c : Nat) (B : Option Addr) (m d : Nat) (z z' : Int) (x y : List Val) (hx : ValsAt w A n x) (hy : ValsAt w B m y) (hn : n ≤ 1000000) (hm : m ≤ 1000000) :
    Calls Try.prog 23 #[.agg #[.slice A n c, .int .i64 z], .agg #[.slice B m d, .int .i64 z']] w fun e w' => e = .returned (.int .i64 (keyCmp x y)) ∧ Hid (Below w.heap.size w w') := by
  have hb : Below w.heap.size w ((w.alloc (.cells #[.slice A n c, .int .i64 z] 70)).alloc (.cells #[.slice B m d, .int .i64 z'] 70)) := bt (below_alloc _ _) (below_alloc _ _)
  have CC := Lib.hid (orderCompare24 ((w.alloc (.cells #[.slice A n c, .int .i64 z] 70)).alloc (.cells #[.slice B m d, .int .i64 z'] 70)) A n c B m d x y (hx.below hb) (hy.below hb) hn hm)
  clear hx hy hb
  go_enter Try.func23, Try.ntmps23
  go_wp2_with fail
  refine CC.out.mono ?_
  rintro e w2 ⟨rfl, h2⟩
  go_wp2_with fail
  go_ret
  exact ⟨rfl, Lib.hid h2.out.from2⟩

end Go.Proofs.Ytbcmmecilheicaa

/- Values and keys in order: a total preorder. Plain facts. -/
namespace Go.Proofs.Ytbcmmecilheicaa
open Go Go.RowKit

theorem bl_irrefl : ∀ x : List UInt8, Op.bytesLess x x = false
  | [] => rfl
  | a :: x => by simp [Op.bytesLess, bl_irrefl x]
theorem bl_asymm : ∀ x y : List UInt8, Op.bytesLess x y = true → Op.bytesLess y x = false
  | _, [], h => by simp [Op.bytesLess] at h
  | [], _ :: _, _ => by simp [Op.bytesLess]
  | a :: x, b :: y, h => by
    simp only [Op.bytesLess, Bool.or_eq_true, decide_eq_true_eq, Bool.and_eq_true, beq_iff_eq] at h
    simp only [Op.bytesLess, Bool.or_eq_false_iff, decide_eq_false_iff_not, Bool.and_eq_false_iff, beq_eq_false_iff_ne]
    rcases h with h | ⟨rfl, h⟩
    · exact ⟨fun k => UInt8.lt_irrefl a (UInt8.lt_trans h k), .inl (fun e => UInt8.lt_irrefl a (e ▸ h))⟩
    · exact ⟨UInt8.lt_irrefl a, .inr (bl_asymm x y h)⟩
theorem bl_total : ∀ x y : List UInt8, Op.bytesLess x y = false → Op.bytesLess y x = false → x = y
  | [], [], _, _ => rfl
  | [], _ :: _, h, _ => by simp [Op.bytesLess] at h
  | _ :: _, [], _, h => by simp [Op.bytesLess] at h
  | a :: x, b :: y, h1, h2 => by
    simp only [Op.bytesLess, Bool.or_eq_false_iff, decide_eq_false_iff_not, Bool.and_eq_false_iff, beq_eq_false_iff_ne] at h1 h2
    have hab : a = b := UInt8.le_antisymm (UInt8.not_lt.1 h2.1) (UInt8.not_lt.1 h1.1)
    subst hab
    have e1 : Op.bytesLess x y = false := by simpa using h1.2
    have e2 : Op.bytesLess y x = false := by simpa using h2.2
    rw [bl_total x y e1 e2]
theorem cmpI_flip (x y : Int) : cmpI y x = - cmpI x y := by
  unfold cmpI
  by_cases h1 : x < y
  · rw [if_neg (by omega), if_pos h1, if_pos h1]; rfl
  · by_cases h2 : y < x
    · rw [if_pos h2, if_neg h1, if_pos h2]
    · rw [if_neg h2, if_neg h1, if_neg h1, if_neg h2]; rfl
theorem cmpS_flip (x y : ByteArray) : cmpS y x = - cmpS x y := by
  unfold cmpS
  by_cases h1 : Op.bytesLess x.toList y.toList = true
  · have h2 := bl_asymm _ _ h1
    have h3 : ¬ (y.toList == x.toList) = true := fun e => by
      have e' : y.toList = x.toList := by simpa using e
      rw [e', bl_irrefl] at h1; cases h1
    rw [if_pos h1, if_neg (by rw [h2]; decide), if_neg h3]; rfl
  · by_cases h2 : Op.bytesLess y.toList x.toList = true
    · have h3 : ¬ (x.toList == y.toList) = true := fun e => by
        have e' : x.toList = y.toList := by simpa using e
        rw [e', bl_irrefl] at h2; cases h2
      rw [if_pos h2, if_neg h1, if_neg h3]
    · have e := bl_total _ _ (by simpa using h1) (by simpa using h2)
      rw [if_neg h1, if_neg h2, e]; simp
theorem compareP_flip (a b : Val) : compareP b a = - compareP a b := by
  unfold compareP
  by_cases h1 : a.kind < b.kind
  · rw [if_neg (by omega), if_pos h1, if_pos h1]; rfl
  · by_cases h2 : b.kind < a.kind
    · rw [if_pos h2, if_neg h1, if_pos h2]
    · have e : a.kind = b.kind := by omega
      rw [if_neg h1, if_neg h2, if_neg h1, if_neg h2, e]
      by_cases k1 : b.kind = 1
      · rw [if_pos k1, if_pos k1]; exact cmpI_flip _ _
      rw [if_neg k1, if_neg k1]
      by_cases k2 : b.kind = 2
      · rw [if_pos k2, if_pos k2]; exact cmpS_flip _ _
      rw [if_neg k2, if_neg k2]
      by_cases k3 : b.kind = 3
      · rw [if_pos k3, if_pos k3]
        cases a.bool <;> cases b.bool <;> rfl
      rw [if_neg k3, if_neg k3]; rfl
theorem bl_trans : ∀ x y z : List UInt8, Op.bytesLess x y = true → Op.bytesLess y z = true → Op.bytesLess x z = true
  | _, [], _, h, _ => by simp [Op.bytesLess] at h
  | _, _ :: _, [], _, h => by simp [Op.bytesLess] at h
  | [], _ :: _, _ :: _, _, _ => by simp [Op.bytesLess]
  | a :: x, b :: y, c :: z, h1, h2 => by
    simp only [Op.bytesLess, Bool.or_eq_true, decide_eq_true_eq, Bool.and_eq_true, beq_iff_eq] at h1 h2 ⊢
    rcases h1 with h1 | ⟨rfl, h1⟩
    · rcases h2 with h2 | ⟨rfl, h2⟩
      · exact .inl (UInt8.lt_trans h1 h2)
      · exact .inl h1
    · rcases h2 with h2 | ⟨rfl, h2⟩
      · exact .inl h2
      · exact .inr ⟨rfl, bl_trans x y z h1 h2⟩
theorem cmpI_le {x y : Int} : cmpI x y ≤ 0 ↔ x ≤ y := by
  unfold cmpI
  by_cases h1 : x < y
  · rw [if_pos h1]; omega
  · rw [if_neg h1]
    by_cases h2 : y < x
    · rw [if_pos h2]; omega
    · rw [if_neg h2]; omega
theorem cmpS_le {x y : ByteArray} : cmpS x y ≤ 0 ↔ Op.bytesLess y.toList x.toList = false := by
  unfold cmpS
  by_cases h1 : Op.bytesLess x.toList y.toList = true
  · rw [if_pos h1]
    have := bl_asymm _ _ h1
    simp [this]
  · rw [if_neg h1]
    by_cases h2 : (x.toList == y.toList) = true
    · rw [if_pos h2]
      have e : x.toList = y.toList := by simpa using h2
      rw [e, bl_irrefl]; simp
    · rw [if_neg h2]
      cases h3 : Op.bytesLess y.toList x.toList with
      | true => simp
      | false =>
        have := bl_total _ _ (by simpa using h1) h3
        rw [this] at h2
        simp at h2
/-- by their kinds first -/
theorem compareP_kind {a b : Val} (h : compareP a b ≤ 0) : a.kind ≤ b.kind := by
  unfold compareP at h
  by_cases h1 : a.kind < b.kind
  · omega
  · rw [if_neg h1] at h
    by_cases h2 : b.kind < a.kind
    · rw [if_pos h2] at h; omega
    · omega
theorem compareP_lt {a b : Val} (h : a.kind < b.kind) : compareP a b = -1 := by
  unfold compareP
  rw [if_pos h]
theorem compareP_same {a b : Val} (h : a.kind = b.kind) : compareP a b = if a.kind = 1 then cmpI a.int b.int else if a.kind = 2 then cmpS a.text b.text else if a.kind = 3 then (if a.bool = b.bool then 0 else if a.bool = true then 1 else -1) else 0 := by
  unfold compareP
  rw [if_neg (by omega), if_neg (by omega)]
theorem compareP_trans {a b c : Val} (h1 : compareP a b ≤ 0) (h2 : compareP b c ≤ 0) : compareP a c ≤ 0 := by
  have k1 := compareP_kind h1
  have k2 := compareP_kind h2
  by_cases e : a.kind < c.kind
  · rw [compareP_lt e]; omega
  · have e1 : a.kind = b.kind := by omega
    have e2 : b.kind = c.kind := by omega
    rw [compareP_same e1] at h1
    rw [compareP_same e2] at h2
    rw [compareP_same (e1.trans e2)]
    rw [e1] at h1 ⊢
    by_cases c1 : b.kind = 1
    · rw [if_pos c1] at h1 h2 ⊢
      rw [cmpI_le] at h1 h2 ⊢; omega
    rw [if_neg c1] at h1 h2 ⊢
    by_cases c2 : b.kind = 2
    · rw [if_pos c2] at h1 h2 ⊢
      rw [cmpS_le] at h1 h2 ⊢
      cases h3 : Op.bytesLess c.text.toList a.text.toList with
      | false => rfl
      | true =>
        exfalso
        cases h4 : Op.bytesLess b.text.toList c.text.toList with
        | true => have := bl_trans _ _ _ h4 h3; rw [this] at h1; cases h1
        | false =>
          have := bl_total _ _ h4 h2
          rw [this, h3] at h1
          cases h1
    rw [if_neg c2] at h1 h2 ⊢
    by_cases c3 : b.kind = 3
    · rw [if_pos c3] at h1 h2 ⊢
      revert h1 h2
      cases a.bool <;> cases b.bool <;> cases c.bool <;> decide
    rw [if_neg c3]; exact Int.le_refl _

/-- a total preorder, by a comparison -/
structure TotP {κ : Type} (cmp : κ → κ → Int) : Prop where
  flip : ∀ a b, cmp b a = - cmp a b
  trans : ∀ a b c, cmp a b ≤ 0 → cmp b c ≤ 0 → cmp a c ≤ 0
theorem totV : TotP compareP := ⟨compareP_flip, fun _ _ _ => compareP_trans⟩
theorem TotP.refl {κ : Type} {cmp : κ → κ → Int} (T : TotP cmp) (a : κ) : cmp a a = 0 := by
  have := T.flip a a
  omega
/-- from a strict and another one, a strict one -/
theorem TotP.lt_le {κ : Type} {cmp : κ → κ → Int} (T : TotP cmp) {a b c : κ} (h1 : cmp a b < 0) (h2 : cmp b c ≤ 0) : cmp a c < 0 := by
  have h3 := T.trans a b c (by omega) h2
  rcases Int.lt_or_eq_of_le h3 with h | h
  · exact h
  · exfalso
    have h4 : cmp c a ≤ 0 := by rw [T.flip a c]; omega
    have h5 := T.trans b c a h2 h4
    rw [T.flip a b] at h5
    omega
theorem TotP.le_lt {κ : Type} {cmp : κ → κ → Int} (T : TotP cmp) {a b c : κ} (h1 : cmp a b ≤ 0) (h2 : cmp b c < 0) : cmp a c < 0 := by
  have h3 := T.trans a b c h1 (by omega)
  rcases Int.lt_or_eq_of_le h3 with h | h
  · exact h
  · exfalso
    have h4 : cmp c a ≤ 0 := by rw [T.flip a c]; omega
    have h5 := T.trans c a b h4 h1
    rw [T.flip b c] at h5
    omega
theorem keyCmp_flip : ∀ x y, keyCmp y x = - keyCmp x y
  | [], [] => rfl
  | [], _ :: _ => rfl
  | _ :: _, [] => rfl
  | a :: x, b :: y => by
    rw [keyCmp, keyCmp, compareP_flip a b, keyCmp_flip x y]
    by_cases h : compareP a b = 0
    · rw [if_neg (by omega), if_neg (by omega)]
    · rw [if_pos (by omega), if_pos (by omega)]
theorem keyCmp_trans : ∀ x y z, keyCmp x y ≤ 0 → keyCmp y z ≤ 0 → keyCmp x z ≤ 0
  | [], _, [], _, _ => by simp [keyCmp]
  | [], _, _ :: _, _, _ => by simp [keyCmp]
  | _ :: _, [], _, h, _ => by simp [keyCmp] at h
  | _ :: _, _ :: _, [], _, h => by simp [keyCmp] at h
  | a :: x, b :: y, c :: z, h1, h2 => by
    rw [keyCmp] at h1 h2 ⊢
    have l1 : compareP a b ≤ 0 := by
      by_cases h : compareP a b = 0
      · omega
      · rw [if_pos (by omega)] at h1; exact h1
    have l2 : compareP b c ≤ 0 := by
      by_cases h : compareP b c = 0
      · omega
      · rw [if_pos (by omega)] at h2; exact h2
    by_cases e1 : compareP a b = 0
    · by_cases e2 : compareP b c = 0
      · have e3 : compareP a c = 0 := by
          have p := compareP_trans l1 l2
          have q := compareP_trans (a := c) (b := b) (c := a) (by rw [compareP_flip b c]; omega) (by rw [compareP_flip a b]; omega)
          rw [compareP_flip a c] at q
          omega
        rw [if_neg (by omega)] at h1 h2 ⊢
        exact keyCmp_trans x y z h1 h2
      · have := totV.le_lt l1 (by omega : compareP b c < 0)
        rw [if_pos (by omega)]; omega
    · have := totV.lt_le (by omega : compareP a b < 0) l2
      rw [if_pos (by omega)]; omega
theorem totK : TotP keyCmp := ⟨keyCmp_flip, keyCmp_trans⟩

end Go.Proofs.Ytbcmmecilheicaa
