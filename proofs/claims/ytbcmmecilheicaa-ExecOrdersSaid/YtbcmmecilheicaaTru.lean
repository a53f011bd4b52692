/- eval.True, over whatever conditions. -/
import Derived.Test.YtbcmmecilheicaaSureA
import Derived.Test.YtbcmmecilheicaaMat
namespace Go.Proofs.Ytbcmmecilheicaa
open Go Go.RowKit

/-- expressions, as they are read -/
structure ExsAt (W : World) (A : Option Addr) (n : Nat) (l : List Ex) : Prop where
  len : l.length = n
  at_ : ∀ (j : Nat) (e : Ex), l[j]? = some e → ∃ b off Ae ne ce, A = some ⟨b, off, none⟩ ∧ b < W.heap.size ∧ ExC W b (off + j * 8) e Ae ne ce ∧ ExIs W e Ae ne ce
theorem ExsAt.below {W W' : World} {A : Option Addr} {n : Nat} {l : List Ex} (h : ExsAt W A n l) (hW : Below W.heap.size W W') : ExsAt W' A n l :=
  ⟨h.len, fun j e hj => by
    obtain ⟨b, off, Ae, ne, ce, e1, hb, hc, hi⟩ := h.at_ j e hj
    exact ⟨b, off, Ae, ne, ce, e1, Nat.lt_of_lt_of_le hb hW.size, hc.below hb hW, hi.bel hW⟩⟩
theorem ExsAt.nil (W : World) (A : Option Addr) : ExsAt W A 0 [] := ⟨rfl, fun j e h => by simp at h⟩

/-- is it the true one? -/
def isTrue (v : Val) : Bool := v.kind == 3 && (v.int == 0 && (v.text.toList == [] && v.bool == true))
set_option maxHeartbeats 2000000 in
theorem neq23T (W : World) (a b : Int) (s : ByteArray) (p : Bool) : (binOp BinOp.neq 23 (.agg #[.int .i64 a, .int .i64 b, .string s, .bool p]) (.agg #[.int .i64 3, .int .i64 0, .string ⟨#[]⟩, .bool true])).run Try.prog W = .ok (.bool (!isTrue ⟨a, b, s, p⟩)) W := by
  have e : (⟨#[]⟩ : ByteArray).toList = [] := by rw [ByteArray.toList_mk]
  simp only [isTrue]
  by_cases h1 : a = 3 <;> by_cases h2 : b = 0 <;> by_cases h3 : s.toList = [] <;> cases p <;> simp [go_sem, h1, h2, h3, e]
/-- are all true? -/
noncomputable def trueP (E : Env) : List Ex → Bool × Option Int
  | [] => (true, none)
  | x :: xs => match evalP E x with
    | (_, some er) => (false, some er)
    | (v, none) => if v.kind ≠ 3 ∧ v.kind ≠ 0 then (false, some 7) else if isTrue v = true then trueP E xs else (false, none)
theorem trueP_at {E : Env} {l : List Ex} {i : Nat} {x : Ex} (h : l[i]? = some x) : trueP E (l.drop i) = match evalP E x with
    | (_, some er) => (false, some er)
    | (v, none) => if v.kind ≠ 3 ∧ v.kind ≠ 0 then (false, some 7) else if isTrue v = true then trueP E (l.drop (i + 1)) else (false, none) := by
  obtain ⟨h1, rfl⟩ := List.getElem?_eq_some_iff.1 h
  rw [List.drop_eq_getElem_cons h1, trueP]

set_option maxRecDepth 100000 in
set_option maxHeartbeats 8000000 in
theorem true44 (w : World) (A : Option Addr) (n c : Nat) (l : List Ex) (hl : ExsAt w A n l) (hn : n ≤ 1466015503701) (E : Env) (VA : Option Addr) (vn vc : Nat) (LA : Option Addr) (ln lc : Nat) (hE : EnvAt w E VA vn LA ln) :
    Calls Try.prog 44 #[.slice A n c, .agg #[.int .i64 E.at_, .slice VA vn vc], .slice LA ln lc] w fun e w' => e = .returned (.tuple #[.bool (trueP E l).1, errV (trueP E l).2]) ∧ Hid (Below w.heap.size w w') := by
  have HX := Lib.hid hl
  have HE := Lib.hid hE
  clear hl hE
  obtain ⟨at_, haT⟩ : ∃ a, a = E.at_ := ⟨_, rfl⟩
  rw [← haT]
  have HT := Lib.hid haT
  clear haT
  go_enter Try.func44, Try.ntmps44
  go_wp2_with fail
  obtain ⟨w1, hw1⟩ : ∃ x, x = w.alloc (.cells #[.int .i64 at_, .slice VA vn vc] 29) := ⟨_, rfl⟩
  have Z1 := Lib.hid (show Blk w1 w.heap.size 29 #[.int .i64 at_, .slice VA vn vc] by rw [hw1]; exact Blk.new w 29 _)
  have B1 := Lib.hid (show Below w.heap.size w w1 by rw [hw1]; exact below_alloc _ _)
  rw [← hw1]
  clear hw1
  go_loopg [14] n (fun kx s14 wr => ∃ i : Nat, s14 = .int .i64 i ∧ kx + i = n ∧ Hid (Below w1.heap.size w1 wr ∧ trueP E l = trueP E (l.drop i)))
  case atStart => exact ⟨0, rfl, rfl, Lib.hid ⟨Below.refl _ _, rfl⟩⟩
  case round =>
    obtain ⟨i, rfl, hk, I⟩ := hrel
    have hi9 : (i : Int) < 1466015503702 := by omega
    by_cases hi : i < n
    · have hiz : (i : Int) < (n : Int) := by omega
      have bwr : Below w.heap.size w wr := bt I.out.1 B1.out
      obtain ⟨x, hx⟩ : ∃ x, l[i]? = some x := ⟨_, List.getElem?_eq_getElem (by rw [HX.out.len]; exact hi)⟩
      obtain ⟨b, off, Ae, ne, ce, rfl, hb, ⟨x0, x1, x2, x3, x4, x5, x6, x7⟩, hxi⟩ := (HX.out.below bwr).at_ i x hx
      have hs := trueP_at (E := E) hx
      rw [← I.out.2] at hs
      obtain ⟨⟨⟨rk, ri, rs, rb⟩, re⟩, hre⟩ : ∃ r, r = evalP E x := ⟨_, rfl⟩
      rw [← hre] at hs
      have zs := Z1.out.below I.out.1
      have s0 := zs.cell 0
      have s1 := zs.cell 1
      have hsl := zs.lt
      have hsl1 : w.heap.size < wr.heap.size + 1 := by omega
      have bx : Below wr.heap.size wr (wr.alloc (.cells #[.string x.op, .int .i64 x.kind, .int .i64 x.col, .int .i64 x.val.kind, .int .i64 x.val.int, .string x.val.text, .bool x.val.bool, .slice Ae ne ce] 37)) := below_alloc _ _
      have call0 := of9 E VA vn vc LA ln lc (HE.out.below (bt bx bwr)) (hxi.bel bx)
      rw [← hre, ← HT.out] at call0
      have CC : Hid (Calls Try.prog 9 #[.agg #[.string x.op, .int .i64 x.kind, .int .i64 x.col, .int .i64 x.val.kind, .int .i64 x.val.int, .string x.val.text, .bool x.val.bool, .slice Ae ne ce], .agg #[.int .i64 at_, .slice VA vn vc], .slice LA ln lc] (wr.alloc (.cells #[.string x.op, .int .i64 x.kind, .int .i64 x.col, .int .i64 x.val.kind, .int .i64 x.val.int, .string x.val.text, .bool x.val.bool, .slice Ae ne ce] 37)) fun e w' => e = .returned (resV (⟨rk, ri, rs, rb⟩, re)) ∧ Hid (Below (wr.alloc (.cells #[.string x.op, .int .i64 x.kind, .int .i64 x.col, .int .i64 x.val.kind, .int .i64 x.val.int, .string x.val.text, .bool x.val.bool, .slice Ae ne ce] 37)).heap.size (wr.alloc (.cells #[.string x.op, .int .i64 x.kind, .int .i64 x.col, .int .i64 x.val.kind, .int .i64 x.val.int, .string x.val.text, .bool x.val.bool, .slice Ae ne ce] 37)) w')) := Lib.hid call0
      have HS := Lib.hid hs
      have BR := Lib.hid I.out.1
      clear hs hx hxi hre bwr bx call0 zs I
      go_wp2_with fail
      refine CC.out.mono ?_
      clear CC x0 x1 x2 x3 x4 x5 x6 x7 s0 s1
      rintro e w2 ⟨rfl, h2⟩
      have B2 := Lib.hid (show Below w1.heap.size w1 w2 from bt h2.out.from1 BR.out)
      clear h2
      simp only [resV, Val.cells]
      cases re with
      | some er =>
        have EE := Lib.hid (show trueP E l = (false, some er) from HS.out)
        simp only [errV]
        go_wp2_with fail
        go_ret2
        exact ⟨by rw [EE.out]; rfl, Lib.hid (bt (below_alloc _ _) (bt B2.out B1.out))⟩
      | none =>
        simp only [errV]
        by_cases hkd : rk ≠ 3 ∧ rk ≠ 0
        · have EE := Lib.hid (show trueP E l = (false, some 7) by rw [HS.out]; exact if_pos hkd)
          have k1 : (rk != 3) = true := by simpa using hkd.1
          have k2 : (rk != 0) = true := by simpa using hkd.2
          have k3 : (rk == 3) = false := by simpa using hkd.1
          have k4 : (rk == 0) = false := by simpa using hkd.2
          clear hkd
          go_wp2_with fail
          go_ret2
          exact ⟨by rw [EE.out]; rfl, Lib.hid (bt (below_alloc _ _) (bt B2.out B1.out))⟩
        · have HQ := Lib.hid (fun W => neq23T W rk ri rs rb)
          obtain ⟨bv, hbv⟩ : ∃ b, b = !isTrue ⟨rk, ri, rs, rb⟩ := ⟨_, rfl⟩
          have HS2 := Lib.hid (show trueP E l = if (!bv) = true then trueP E (l.drop (i + 1)) else (false, none) by rw [HS.out, hbv, Bool.not_not]; exact if_neg hkd)
          clear HS
          rw [← hbv] at HQ
          have hq := HQ.out
          have hrk : rk = 3 ∨ rk = 0 := by omega
          obtain ⟨wb, hwb⟩ : ∃ x, x = w2.alloc (.cells #[.int .i64 rk, .int .i64 ri, .string rs, .bool rb] 23) := ⟨_, rfl⟩
          have ZB : Hid (Blk wb w2.heap.size 23 #[.int .i64 rk, .int .i64 ri, .string rs, .bool rb]) := Lib.hid (by rw [hwb]; exact Blk.new w2 23 _)
          have BB : Hid (Below w1.heap.size w1 wb) := Lib.hid (by rw [hwb]; exact bt (below_alloc _ _) B2.out)
          have l0 : ∀ p : BelowW wb, p.w.cell? ⟨w2.heap.size, 0, none⟩ = some (.int .i64 rk) := fun p => (ZB.out.below p.h).cell 0
          have l1 : ∀ p : BelowW wb, p.w.cell? ⟨w2.heap.size, 1, none⟩ = some (.int .i64 ri) := fun p => (ZB.out.below p.h).cell 1
          have l2 : ∀ p : BelowW wb, p.w.cell? ⟨w2.heap.size, 2, none⟩ = some (.string rs) := fun p => (ZB.out.below p.h).cell 2
          have l3 : ∀ p : BelowW wb, p.w.cell? ⟨w2.heap.size, 3, none⟩ = some (.bool rb) := fun p => (ZB.out.below p.h).cell 3
          clear hkd hbv
          have CC : Hid (∀ p : BelowW wb, Calls Try.prog 52 #[.bool true] p.w fun e w' => e = .returned (.agg #[.int .i64 3, .int .i64 0, .string ⟨#[]⟩, .bool true]) ∧ Hid (Below p.w.heap.size p.w w')) := Lib.hid (fun p => bool52 p.w true)
          rcases hrk with rfl | rfl
          all_goals
            go_wp2_with fail
            rw [← hwb]
            clear hwb
            refine wp_region_quiet_below (by kernel_rfl) (by kernel_rfl) ?_
            repeat (quiet_step ((go_at_call 52; refine calls_below _ (CC.out _))))
            refine wpQuiet_nil ?_
            intro wq hw'
            have hq' : Below wb.heap.size wb wq := by obtain ⟨p, rfl⟩ := hw'; exact p.h
            have BQ := Lib.hid (bt hq' BB.out)
            clear hw' l0 l1 l2 l3 hq' CC hq HQ
            cases bv with
            | false =>
              have NX := Lib.hid (show trueP E l = trueP E (l.drop (i + 1)) from HS2.out)
              clear HS2
              go_wp2_with fail
              go_roundg (gk - 1)
              case measure => omega
              case rel => exact ⟨i + 1, by first | rfl | (simp; done), by omega, Lib.hid ⟨BQ.out, NX.out⟩⟩
            | true =>
              have EE := Lib.hid (show trueP E l = (false, none) from HS2.out)
              clear HS2
              go_wp2_with fail
              go_ret2
              exact ⟨by rw [EE.out]; rfl, Lib.hid (bt BQ.out B1.out)⟩
    · have hiz : ¬ (i : Int) < (n : Int) := by omega
      have EE := Lib.hid (show trueP E l = (true, none) by rw [I.out.2, List.drop_eq_nil_of_le (by rw [HX.out.len]; omega)]; rfl)
      have BB := Lib.hid (bt I.out.1 B1.out)
      clear I
      go_wp2_with fail
      go_ret2
      exact ⟨by rw [EE.out]; rfl, BB⟩

end Go.Proofs.Ytbcmmecilheicaa
