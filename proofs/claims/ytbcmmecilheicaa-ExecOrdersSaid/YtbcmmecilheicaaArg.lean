/- exec's part.args: the values, but nulls, of an aggregate's Arg. -/
import Derived.Test.YtbcmmecilheicaaTru
import Derived.Test.YtbcmmecilheicaaOwn
namespace Go.Proofs.Ytbcmmecilheicaa
open Go Go.RowKit

/-- the values, but nulls, of an expression over rows -/
noncomputable def argsP (lb : List ByteArray) (x : Ex) : List (Int × List Val) → List Val × Option Int
  | [] => ([], none)
  | r :: rs => match evalP ⟨r.1, r.2, lb⟩ x with
    | (_, some er) => ([], some er)
    | (v, none) => match argsP lb x rs with
      | (_, some er) => ([], some er)
      | (l, none) => (if v.kind ≠ 0 then v :: l else l, none)
/-- so far -/
def SofarA (lb : List ByteArray) (x : Ex) (rs : List (Int × List Val)) (i : Nat) (vs : List Val) : Prop :=
  vs.length ≤ i ∧ argsP lb x rs = match argsP lb x (rs.drop i) with
    | (_, some er) => ([], some er)
    | (l, none) => (vs ++ l, none)
theorem argsP_err (lb : List ByteArray) (x : Ex) : ∀ (rs : List (Int × List Val)) (l : List Val) (er : Int), argsP lb x rs = (l, some er) → l = []
  | [], l, er, h => by rw [argsP] at h; cases h
  | r :: rs, l, er, h => by
    rw [argsP] at h
    rcases hx : evalP ⟨r.1, r.2, lb⟩ x with ⟨v, e1⟩
    rw [hx] at h
    cases e1 with
    | some e1 => injection h with h1 h2; exact h1.symm
    | none =>
      rcases hl : argsP lb x rs with ⟨l2, e2⟩
      rw [hl] at h
      cases e2 with
      | some e2 => injection h with h1 h2; exact h1.symm
      | none => injection h with h1 h2; cases h2
theorem SofarA.zero (lb : List ByteArray) (x : Ex) (rs : List (Int × List Val)) : SofarA lb x rs 0 [] := by
  refine ⟨Nat.le_refl _, ?_⟩
  rw [List.drop_zero]
  rcases h : argsP lb x rs with ⟨l, er⟩
  cases er with
  | none => rfl
  | some er => rw [argsP_err lb x rs l er h]
theorem SofarA.err {lb : List ByteArray} {x : Ex} {rs : List (Int × List Val)} {i : Nat} {vs : List Val} (h : SofarA lb x rs i vs) {r : Int × List Val} (hr : rs[i]? = some r) {v : Val} {er : Int} (he : evalP ⟨r.1, r.2, lb⟩ x = (v, some er)) : argsP lb x rs = ([], some er) := by
  have hd : rs.drop i = r :: rs.drop (i + 1) := by
    have hlt := (List.getElem?_eq_some_iff.1 hr).1
    rw [List.drop_eq_getElem_cons hlt, (List.getElem?_eq_some_iff.1 hr).2]
  rw [h.2, hd, argsP, he]
theorem SofarA.ok {lb : List ByteArray} {x : Ex} {rs : List (Int × List Val)} {i : Nat} {vs : List Val} (h : SofarA lb x rs i vs) {r : Int × List Val} (hr : rs[i]? = some r) {v : Val} (he : evalP ⟨r.1, r.2, lb⟩ x = (v, none)) : SofarA lb x rs (i + 1) (if v.kind ≠ 0 then vs ++ [v] else vs) := by
  have hd : rs.drop i = r :: rs.drop (i + 1) := by
    have hlt := (List.getElem?_eq_some_iff.1 hr).1
    rw [List.drop_eq_getElem_cons hlt, (List.getElem?_eq_some_iff.1 hr).2]
  have hl0 := h.1
  refine ⟨by by_cases hk : v.kind = 0 <;> simp [hk] <;> omega, ?_⟩
  rw [h.2, hd, argsP, he]
  rcases hl : argsP lb x (rs.drop (i + 1)) with ⟨l, er⟩
  by_cases hk : v.kind = 0 <;> cases er <;> simp [hk]
theorem SofarA.end_ {lb : List ByteArray} {x : Ex} {rs : List (Int × List Val)} {vs : List Val} (h : SofarA lb x rs rs.length vs) : argsP lb x rs = (vs, none) := by
  rw [h.2, List.drop_length, argsP]
  simp

/-- no text of the rows is longer than it may be -/
def RowsTx (rs : List (Int × List Val)) : Prop := ∀ r ∈ rs, ∀ v ∈ r.2, v.text.size ≤ TB
/-- what args leaves -/
def ArgsPost (lb : List ByteArray) (x : Ex) (rs : List (Int × List Val)) (w : World) (e : Ending) (w' : World) : Prop := ∃ (A' : Option Addr) (k c' : Nat), e = .returned (.tuple #[.slice A' k c', errV (argsP lb x rs).2]) ∧ k ≤ c' ∧ k ≤ rs.length ∧ Hid (ValsAt w' A' k (argsP lb x rs).1) ∧ Hid (Below w.heap.size w w')

set_option maxRecDepth 100000 in
set_option maxHeartbeats 8000000 in
theorem args89 (w : World) (RA : Option Addr) (rn rc : Nat) (rs : List (Int × List Val)) (hr : RowsAt w RA rn rs) (hn : rn ≤ 1000000) (htx : RowsTx rs) (v1 v2 : Value) (h1 : v1.oneCell' = true) (h2 : v2.oneCell' = true) (x : Ex) (A : Option Addr) (n c : Nat) (hx : ExIs w x A n c) (lb : List ByteArray) (LA : Option Addr) (ln lc : Nat) (hlb : StrsAt w LA ln lb) (hlt : ∀ z ∈ lb, z.size ≤ TB) (i1 : Option Addr) (n1 c1 : Nat) (e1 : v1 = .slice i1 n1 c1) (i2 : Option Addr) (n2 c2 : Nat) (e2 : v2 = .slice i2 n2 c2) :
    Calls Try.prog 89 #[.agg #[.slice RA rn rc, v1, v2], .agg #[.string x.op, .int .i64 x.kind, .int .i64 x.col, .int .i64 x.val.kind, .int .i64 x.val.int, .string x.val.text, .bool x.val.bool, .slice A n c], .slice LA ln lc] w (ArgsPost lb x rs w) := by
  subst e1 e2
  clear h1 h2
  have HR := Lib.hid hr
  have HX := Lib.hid hx
  have HT := Lib.hid htx
  have HLB := Lib.hid hlb
  have HLT := Lib.hid hlt
  clear hr hx htx hlb hlt
  go_enter Try.func89, Try.ntmps89
  go_wp2_with fail
  obtain ⟨w1, hw1⟩ : ∃ z, z = (w.alloc (.cells #[.slice RA rn rc, .slice i1 n1 c1, .slice i2 n2 c2] 85)).alloc (.cells #[.string x.op, .int .i64 x.kind, .int .i64 x.col, .int .i64 x.val.kind, .int .i64 x.val.int, .string x.val.text, .bool x.val.bool, .slice A n c] 37) := ⟨_, rfl⟩
  have Z1 := Lib.hid (show Blk w1 (w.heap.size + 1) 37 #[.string x.op, .int .i64 x.kind, .int .i64 x.col, .int .i64 x.val.kind, .int .i64 x.val.int, .string x.val.text, .bool x.val.bool, .slice A n c] by rw [hw1]; exact blk_new' (w := w.alloc _) rfl (by simp))
  have B1 := Lib.hid (show Below w.heap.size w w1 by rw [hw1]; exact bt (below_alloc _ _) (below_alloc _ _))
  rw [← hw1]
  clear hw1
  go_loopg [8, 16] rn (fun kx s8 s16 wr => ∃ (i m : Nat) (vs : List Val) (Ao : Option Addr) (co : Nat), s8 = .slice Ao m co ∧ s16 = .int .i64 i ∧ kx + i = rn ∧ m ≤ i ∧ Hid (Below w1.heap.size w1 wr ∧ wr.ownsRow w1.heap.size 23 4 (.slice Ao m co) m (valCells vs) ∧ vs.length = m ∧ SofarA lb x rs i vs))
  case atStart => exact ⟨0, 0, [], none, 0, rfl, rfl, rfl, Nat.le_refl _, Lib.hid ⟨Below.refl _ _, World.ownsRow_nil _ _ _ _, rfl, SofarA.zero lb x rs⟩⟩
  case round =>
    obtain ⟨i, m, vs, Ao, co, rfl, rfl, hk, hm, I⟩ := hrel
    by_cases hi : i < rn
    · obtain ⟨r, hr⟩ : ∃ r, rs[i]? = some r := ⟨_, List.getElem?_eq_getElem (by rw [HR.out.len]; exact hi)⟩
      have bwr : Below w.heap.size w wr := bt I.out.1 B1.out
      obtain ⟨b, off, VA, vn, vc, rfl, hb, q0, q1, hv, hvn⟩ := (HR.out.below bwr).at_ i r hr
      have hiz : (i : Int) < (rn : Int) := by omega
      have hi0 : (0 : Int) ≤ (i : Int) := by omega
      have hi9 : (i : Int) < 1000001 := by omega
      have bx : Below wr.heap.size wr (wr.alloc (.cells #[.int .i64 r.1, .slice VA vn vc] 29)) := below_alloc _ _
      have hEn : EnvAt wr ⟨r.1, r.2, lb⟩ VA vn LA ln := ⟨hv, HLB.out.below bwr, fun v hv => HT.out r (List.mem_of_getElem? hr) v hv, HLT.out⟩
      have call0 := of9 ⟨r.1, r.2, lb⟩ VA vn vc LA ln lc (hEn.below bx) (HX.out.bel (bt bx bwr))
      obtain ⟨⟨⟨rk, ri, rs', rb⟩, re⟩, hre⟩ : ∃ q, q = evalP ⟨r.1, r.2, lb⟩ x := ⟨_, rfl⟩
      rw [← hre] at call0
      have CC := Lib.hid call0
      have HRE := Lib.hid hre.symm
      have RX := Lib.hid hr
      have II := Lib.hid I.out
      have BR := Lib.hid bwr
      have zs := Z1.out.below I.out.1
      have hsl := zs.lt
      have hsl1 : w.heap.size + 1 < wr.heap.size + 1 := by omega
      have s0 := zs.cell 0
      have s1 := zs.cell 1
      have s2 := zs.cell 2
      have s3 := zs.cell 3
      have s4 := zs.cell 4
      have s5 := zs.cell 5
      have s6 := zs.cell 6
      have s7 := zs.cell 7
      clear hr bwr bx hEn call0 hre zs I hv
      go_wp2_with fail
      refine CC.out.mono ?_
      clear CC q0 q1 s0 s1 s2 s3 s4 s5 s6 s7
      rintro e w2 ⟨rfl, h2⟩
      have H2 := Lib.hid (show Below wr.heap.size wr w2 from h2.out.from1)
      clear h2
      simp only [resV, Val.cells]
      cases re with
      | some er =>
        simp only [errV]
        have EE := Lib.hid (II.out.2.2.2.err RX.out HRE.out)
        have BB := Lib.hid (show Below w.heap.size w w2 from bt H2.out BR.out)
        go_wp2_with fail
        go_ret2
        exact ⟨none, 0, 0, by rw [EE.out]; rfl, Nat.le_refl _, Nat.zero_le _, Lib.hid (by rw [EE.out]; exact ValsAt.nil _ _), Lib.hid (bt (below_alloc _ _) BB.out)⟩
      | none =>
        simp only [errV]
        have B12 : Below w1.heap.size w1 w2 := bt H2.out II.out.1
        by_cases hkd : rk = 0
        · subst hkd
          have SS := Lib.hid (show SofarA lb x rs (i + 1) vs from II.out.2.2.2.ok RX.out HRE.out)
          have NX := Lib.hid (show Below w1.heap.size w1 (w2.alloc (.cells #[.int .i64 0, .int .i64 ri, .string rs', .bool rb] 23)) ∧ (w2.alloc (.cells #[.int .i64 0, .int .i64 ri, .string rs', .bool rb] 23)).ownsRow w1.heap.size 23 4 (.slice Ao m co) m (valCells vs) ∧ vs.length = m ∧ SofarA lb x rs (i + 1) vs from
            ⟨bt (below_alloc _ _) B12, own_below (own_below II.out.2.1 H2.out) (below_alloc w2 _), II.out.2.2.1, SS.out⟩)
          clear B12
          go_wp2_with fail
          go_roundg (gk - 1)
          case measure => omega
          case rel => exact ⟨i + 1, m, vs, Ao, co, rfl, by first | rfl | (simp; done), by omega, by omega, NX⟩
        · have k1 : (rk != 0) = true := by simpa using hkd
          have k2 : (rk == 0) = false := by simpa using hkd
          have SS := Lib.hid (show SofarA lb x rs (i + 1) (vs ++ [⟨rk, ri, rs', rb⟩]) by
            have h := II.out.2.2.2.ok RX.out HRE.out
            rw [if_pos hkd] at h
            exact h)
          have ow2 := own_below II.out.2.1 (H2.out.trans ((below_alloc w2 (.cells #[.int .i64 rk, .int .i64 ri, .string rs', .bool rb] 23)).mono H2.out.size))
          have ow3 := own_below ow2 (below_alloc _ (.cells #[.int .i64 rk, .int .i64 ri, .string rs', .bool rb] 23))
          obtain ⟨v', w3, hr, hown, hb3⟩ := app_val ow3 (by unfold TB; omega) (by have := B12.size; simp; omega) ⟨rk, ri, rs', rb⟩ (w2.heap.size + 1) (blk_new' (w := w2.alloc _) rfl (by simp))
          obtain ⟨An, cn, hvn⟩ := own_slice hown
          subst hvn
          have NX := Lib.hid (show Below w1.heap.size w1 w3 ∧ w3.ownsRow w1.heap.size 23 4 (.slice An (m + 1) cn) (m + 1) (valCells (vs ++ [⟨rk, ri, rs', rb⟩])) ∧ (vs ++ [(⟨rk, ri, rs', rb⟩ : Val)]).length = m + 1 ∧ SofarA lb x rs (i + 1) (vs ++ [⟨rk, ri, rs', rb⟩]) from
            ⟨(bt (below_alloc _ _) (bt (below_alloc _ _) B12)).trans hb3, hown, by rw [List.length_append, II.out.2.2.1]; rfl, SS.out⟩)
          have HRUN := Lib.hid hr
          clear B12 ow2 ow3 hown hb3 hr hkd
          go_wp2_with (at_builtin; refine wpList_append_runI _ rfl _ _ 27 27 rfl (.slice Ao m co) (.slice (some ⟨w2.heap.size + 1, 0, none⟩) 1 1) rfl rfl HRUN.out ?_)
          go_roundg (gk - 1)
          case measure => omega
          case rel => exact ⟨i + 1, m + 1, _, An, cn, by first | rfl | (simp; done), by first | rfl | (simp; done), by omega, by omega, NX⟩
    · obtain rfl : rn = i := by omega
      have hiz : ¬ (rn : Int) < (rn : Int) := by omega
      obtain ⟨A', c', hv, hvals⟩ := vals_of_own I.out.2.1 I.out.2.2.1
      injection hv with hv1 hv2 hv3
      subst hv1 hv3
      have hcap := (own_cap I.out.2.1).2
      have EE := Lib.hid (show argsP lb x rs = (vs, none) from by
        have h := I.out.2.2.2
        have hl := HR.out.len
        rw [← hl] at h
        exact h.end_)
      have VV := Lib.hid hvals
      have HRL := HR.out.len
      have BB := Lib.hid (bt I.out.1 B1.out)
      clear hvals I
      go_wp2_with fail
      go_ret2
      exact ⟨_, m, _, by rw [EE.out]; rfl, hcap, by omega, Lib.hid (by rw [EE.out]; exact VV.out), BB⟩

end Go.Proofs.Ytbcmmecilheicaa
