/- scope.all: the walk. -/
import Derived.Test.YtbcmmecilheicaaGreatDoorEvD
namespace Go.Proofs.YtbcmmecilheicaaGreatDoor
open Go Go.RowKit

abbrev exAgg (x : Ex) (A : Option Addr) (n c : Nat) : Value := .agg #[.string x.op, .int .i64 x.kind, .int .i64 x.col, .int .i64 x.val.kind, .int .i64 x.val.int, .string x.val.text, .bool x.val.bool, .slice A n c]
/-- so far: the values of the first i Args -/
def Sofar (E : Env) (es : List Ex) (i : Nat) (vs : List Val) : Prop :=
  vs.length = i ∧ evalL E es = match evalL E (es.drop i) with
    | (_, some er) => ([], some er)
    | (l, none) => (vs ++ l, none)
theorem Sofar.zero (E : Env) (es : List Ex) : Sofar E es 0 [] := by
  refine ⟨rfl, ?_⟩
  rw [List.drop_zero]
  rcases h : evalL E es with ⟨l, er⟩
  cases er with
  | none => rfl
  | some er =>
    have : ∀ (xs : List Ex) l er, evalL E xs = (l, some er) → l = [] := fun xs => by
      induction xs with
      | nil => intro l er h; rw [evalL_nil] at h; cases h
      | cons x xs ih =>
        intro l er h
        rw [evalL_cons] at h
        rcases hx : evalP E x with ⟨v, e1⟩
        rw [hx] at h
        cases e1 with
        | some e1 => injection h with h1 h2; exact h1.symm
        | none =>
          rcases hl : evalL E xs with ⟨l2, e2⟩
          rw [hl] at h
          cases e2 with
          | some e2 => injection h with h1 h2; exact h1.symm
          | none => injection h with h1 h2; cases h2
    rw [this es l er h]
theorem Sofar.err {E : Env} {es : List Ex} {i : Nat} {vs : List Val} (h : Sofar E es i vs) {x : Ex} (hx : es[i]? = some x) {v : Val} {er : Int} (he : evalP E x = (v, some er)) : evalL E es = ([], some er) := by
  have hd : es.drop i = x :: es.drop (i + 1) := by
    have hlt := (List.getElem?_eq_some_iff.1 hx).1
    rw [List.drop_eq_getElem_cons hlt, (List.getElem?_eq_some_iff.1 hx).2]
  rw [h.2, hd, evalL_cons, he]
theorem Sofar.ok {E : Env} {es : List Ex} {i : Nat} {vs : List Val} (h : Sofar E es i vs) {x : Ex} (hx : es[i]? = some x) {v : Val} (he : evalP E x = (v, none)) : Sofar E es (i + 1) (vs ++ [v]) := by
  have hd : es.drop i = x :: es.drop (i + 1) := by
    have hlt := (List.getElem?_eq_some_iff.1 hx).1
    rw [List.drop_eq_getElem_cons hlt, (List.getElem?_eq_some_iff.1 hx).2]
  refine ⟨by simp [h.1], ?_⟩
  rw [h.2, hd, evalL_cons, he]
  rcases hl : evalL E (es.drop (i + 1)) with ⟨l, er⟩
  cases er <;> simp
theorem Sofar.end_ {E : Env} {es : List Ex} {vs : List Val} (h : Sofar E es es.length vs) : evalL E es = (vs, none) := by
  rw [h.2, List.drop_length, evalL_nil]
  simp

theorem own_slice {w : World} {B e size n : Nat} {v : Value} {xs : List Value} (h : w.ownsRow B e size v n xs) : ∃ (A : Option Addr) (c : Nat), v = .slice A n c := by
  obtain ⟨h1, h2⟩ := h
  rcases h2 with ⟨rfl, rfl⟩ | ⟨g, cap, cur, e1, -⟩
  · exact ⟨none, 0, rfl⟩
  · exact ⟨_, _, e1⟩
theorem own_below {w w' : World} {B e size n : Nat} {v : Value} {xs : List Value} (h : w.ownsRow B e size v n xs) (hb : Below w.heap.size w w') : w'.ownsRow B e size v n xs := by
  obtain ⟨h1, h2⟩ := h
  refine ⟨h1, ?_⟩
  rcases h2 with h2 | ⟨g, cap, cur, e1, e2, e3, e4⟩
  · exact .inl h2
  · exact .inr ⟨g, cap, cur, e1, e2, (hb.block g (Array.getElem?_eq_some_iff.1 e3).1).trans e3, e4⟩
/-- what is asked of a callee that reckons one Arg -/
def OneOk (E : Env) (VA : Option Addr) (vn vc : Nat) (LA : Option Addr) (ln lc : Nat) (x : Ex) (A : Option Addr) (n c : Nat) (W : World) : Prop :=
  Calls Tryz.prog 42 #[.agg #[.int .i64 E.at_, .slice VA vn vc, .slice LA ln lc], exAgg x A n c] W fun e w' => e = .returned (resV (evalP E x)) ∧ Hid (Below W.heap.size W w')

/-- what all leaves -/
def AllPost (E : Env) (es : List Ex) (w : World) (e : Ending) (w' : World) : Prop := ∃ (A' : Option Addr) (k c' : Nat), e = .returned (.tuple #[.slice A' k c', errV (evalL E es).2]) ∧ Hid (ValsAt w' A' k (evalL E es).1 ∧ ∀ b o, A' = some ⟨b, o, none⟩ → w.heap.size ≤ b) ∧ Hid (Below w.heap.size w w')

set_option maxRecDepth 100000 in
set_option maxHeartbeats 4000000 in
theorem all37 (w : World) (E : Env) (VA : Option Addr) (vn vc : Nat) (LA : Option Addr) (ln lc : Nat) (es : List Ex) (A : Option Addr) (n c b off : Nat) (len : es.length = n) (small : n * 96 ≤ TB) (hA : 0 < n → A = some ⟨b, off, none⟩ ∧ b < w.heap.size)
    (As : Nat → Option Addr) (ns cs : Nat → Nat) (cells : ∀ (j : Nat) (e : Ex), es[j]? = some e → ExC w b (off + j * 8) e (As j) (ns j) (cs j)) (calls : ∀ (j : Nat) (e : Ex), es[j]? = some e → ∀ W, Below w.heap.size w W → OneOk E VA vn vc LA ln lc e (As j) (ns j) (cs j) W) :
    Calls Tryz.prog 83 #[.agg #[.int .i64 E.at_, .slice VA vn vc, .slice LA ln lc], .slice A n c] w (AllPost E es w) := by
  have HA := Lib.hid hA
  have HC := Lib.hid cells
  have HK := Lib.hid calls
  have HS := Lib.hid small
  have HL := Lib.hid len
  have hn9 : n ≤ 1466015503701 := by unfold TB at small; omega
  clear hA cells calls small len
  obtain ⟨at_, haT⟩ : ∃ a, a = E.at_ := ⟨_, rfl⟩
  rw [← haT]
  have HT := Lib.hid haT
  clear haT
  go_enter Tryz.func83, Tryz.ntmps83
  go_wp2
  obtain ⟨w1, hw1⟩ : ∃ x, x = w.alloc (.cells #[.int .i64 at_, .slice VA vn vc, .slice LA ln lc] 115) := ⟨_, rfl⟩
  have z1 : Blk w1 w.heap.size 115 #[.int .i64 at_, .slice VA vn vc, .slice LA ln lc] := by rw [hw1]; exact Blk.new w 115 _
  have Z1 := Lib.hid z1
  have B1 := Lib.hid (show Below w.heap.size w w1 by rw [hw1]; exact below_alloc _ _)
  rw [← hw1]
  clear hw1 z1
  go_loopg [6, 13] n (fun kx s6 s13 wr => ∃ (i : Nat) (vs : List Val) (Ao : Option Addr) (co : Nat), s6 = .slice Ao i co ∧ s13 = .int .i64 i ∧ kx + i = n ∧ Hid (Below w1.heap.size w1 wr ∧ wr.ownsRow w1.heap.size 26 4 (.slice Ao i co) i (valCells vs) ∧ Sofar E es i vs))
  case atStart => exact ⟨0, [], none, 0, rfl, rfl, rfl, Lib.hid ⟨Below.refl _ _, World.ownsRow_nil _ _ _ _, Sofar.zero E es⟩⟩
  case round =>
    obtain ⟨i, vs, Ao, co, rfl, rfl, hk, I⟩ := hrel
    by_cases hi : i < n
    · obtain ⟨x, hx⟩ : ∃ x, es[i]? = some x := ⟨_, List.getElem?_eq_getElem (by rw [HL.out]; exact hi)⟩
      obtain ⟨hAe, hbl⟩ := HA.out (by omega)
      subst hAe
      have bwr : Below w.heap.size w wr := bt I.out.1 B1.out
      obtain ⟨c0, c1, c2, c3, c4, c5, c6, c7⟩ := (HC.out i x hx).below hbl bwr
      have zs := Z1.out.below I.out.1
      have s0 := zs.cell 0
      have s1 := zs.cell 1
      have s2 := zs.cell 2
      have hsl := zs.lt
      have hx96 : (i : Int) < 1466015503701 := by omega
      have hiz : (i : Int) < (n : Int) := by omega
      have hi0 : (0 : Int) ≤ (i : Int) := by omega
      have call0 := (HK.out i x hx (wr.alloc (.cells #[.string x.op, .int .i64 x.kind, .int .i64 x.col, .int .i64 x.val.kind, .int .i64 x.val.int, .string x.val.text, .bool x.val.bool, .slice (As i) (ns i) (cs i)] 51)) (bwr.trans ((below_alloc wr _).mono bwr.size)))
      obtain ⟨⟨⟨rk, ri, rs, rb⟩, re⟩, hre⟩ : ∃ r, r = evalP E x := ⟨_, rfl⟩
      unfold OneOk at call0
      rw [← hre, ← HT.out] at call0
      have call := Lib.hid call0
      have HRE := Lib.hid hre.symm
      have HX := Lib.hid hx
      have II := Lib.hid I.out
      have BR := Lib.hid bwr
      clear hx bwr I zs call0 hre
      go_wp2_with fail
      refine call.out.mono ?_
      clear call c0 c1 c2 c3 c4 c5 c6 c7 s0 s1 s2
      rintro e w2 ⟨rfl, h2⟩
      have H2 := Lib.hid (show Below wr.heap.size wr w2 from h2.out.from1)
      clear h2
      simp only [resV, Val.cells]
      cases re with
      | some er =>
        simp only [errV]
        have EE := Lib.hid (II.out.2.2.err HX.out HRE.out)
        have BB := Lib.hid (show Below w.heap.size w w2 from bt H2.out BR.out)
        go_wp2_with fail
        go_ret2
        exact ⟨none, 0, 0, by rw [EE.out]; rfl, Lib.hid (by rw [EE.out]; exact ⟨ValsAt.nil _ _, fun b o h => by cases h⟩), Lib.hid (bt (below_alloc _ _) BB.out)⟩
      | none =>
        simp only [errV]
        have SS := Lib.hid (II.out.2.2.ok HX.out HRE.out)
        have B12 : Below w1.heap.size w1 w2 := bt H2.out II.out.1
        have ow2 := own_below II.out.2.1 (H2.out.trans ((below_alloc w2 (.cells #[.int .i64 rk, .int .i64 ri, .string rs, .bool rb] 26)).mono H2.out.size))
        have ow3 := own_below ow2 (below_alloc _ (.cells #[.int .i64 rk, .int .i64 ri, .string rs, .bool rb] 26))
        obtain ⟨v', w3, hr, hown, hb3⟩ := app_val ow3 (by have := HS.out; unfold TB at this ⊢; omega) (by have := B12.size; simp; omega) ⟨rk, ri, rs, rb⟩ (w2.heap.size + 1) (blk_new' (w := w2.alloc _) rfl (by simp))
        obtain ⟨An, cn, hvn⟩ := own_slice hown
        subst hvn
        have NX := Lib.hid (show Below w1.heap.size w1 w3 ∧ w3.ownsRow w1.heap.size 26 4 (.slice An (i + 1) cn) (i + 1) (valCells (vs ++ [⟨rk, ri, rs, rb⟩])) ∧ Sofar E es (i + 1) (vs ++ [⟨rk, ri, rs, rb⟩]) from
          ⟨(bt (below_alloc _ _) (bt (below_alloc _ _) B12)).trans hb3, hown, SS.out⟩)
        have HR := Lib.hid hr
        clear B12 ow2 ow3 hown hb3 hr
        go_wp2_with (at_builtin; refine wpList_append_runI _ rfl _ _ 30 30 rfl (.slice Ao i co) (.slice (some ⟨w2.heap.size + 1, 0, none⟩) 1 1) rfl rfl HR.out ?_)
        go_roundg (gk - 1)
        case measure => omega
        case rel => exact ⟨i + 1, _, An, cn, rfl, by first | rfl | (simp; done), by omega, NX⟩
    · obtain rfl : n = i := by omega
      obtain ⟨A', c', hv, hvals⟩ := vals_of_own I.out.2.1 I.out.2.2.1
      injection hv with hv1 hv2 hv3
      subst hv1 hv3
      have EE := Lib.hid (show evalL E es = (vs, none) from by
        have h := I.out.2.2
        have hl := HL.out
        rw [← hl] at h
        exact h.end_)
      have VV := Lib.hid hvals
      have VN := Lib.hid (show ∀ b o, Ao = some ⟨b, o, none⟩ → w.heap.size ≤ b from fun b o h => Nat.le_trans B1.out.size (I.out.2.1.lt b (by rw [h]; rfl)).1)
      have BB := Lib.hid (bt I.out.1 B1.out)
      clear hvals I
      go_wp2_with fail
      go_ret2
      exact ⟨_, n, _, by rw [EE.out]; rfl, Lib.hid (by rw [EE.out]; exact ⟨VV.out, VN.out⟩), BB⟩

end Go.Proofs.YtbcmmecilheicaaGreatDoor
