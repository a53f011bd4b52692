/- eval.Of, Const; slices.Index, Contains; check.aggregate, Aggregates; eval.Constant: what law21.sure asks. eval.True, over whatever conditions. The order of a query's parts: each item of the order, some the other way round. -/
import Derived.Test.YtbcmmecilheicaaGreatDoorEvHI
import Derived.Test.YtbcmmecilheicaaGreatDoorCelA
import Derived.Test.YtbcmmecilheicaaGreatDoorOrdA

/- eval.Of, Const; slices.Index, Contains; check.aggregate, Aggregates; eval.Constant: what law21.sure asks. -/
namespace Go.Proofs.YtbcmmecilheicaaGreatDoor
open Go Go.RowKit

set_option maxRecDepth 100000 in
set_option maxHeartbeats 4000000 in
theorem of9 {W : World} (E : Env) (VA : Option Addr) (vn vc : Nat) (LA : Option Addr) (ln lc : Nat) (hE : EnvAt W E VA vn LA ln) {x : Ex} {A : Option Addr} {n c : Nat} (h : ExIs W x A n c) :
  Calls Tryz.prog 11 #[exAgg x A n c, .agg #[.int .i64 E.at_, .slice VA vn vc], .slice LA ln lc] W fun e w' => e = .returned (resV (evalP E x)) ∧ Hid (Below W.heap.size W w') := by
 have HC := Lib.hid (of19 E VA vn vc LA ln lc hE h (((W.alloc (.cells #[.string x.op, .int .i64 x.kind, .int .i64 x.col, .int .i64 x.val.kind, .int .i64 x.val.int, .string x.val.text, .bool x.val.bool, .slice A n c] 51)).alloc (.cells #[.int .i64 E.at_, .slice VA vn vc] 32)).alloc (.cells #[.int .i64 0, .int .i64 0, .string ⟨#[]⟩, .bool false] 26)) (bt (below_alloc _ _) (bt (below_alloc _ _) (below_alloc _ _))))
 unfold OneOk at HC
 obtain ⟨r, hr⟩ : ∃ r, r = evalP E x := ⟨_, rfl⟩
 rw [← hr] at HC
 rw [← hr]
 clear hr h hE
 obtain ⟨⟨rk, ri, rs, rb⟩, re⟩ := r
 go_enter Tryz.func11, Tryz.ntmps11
 go_wp2_with fail
 refine HC.out.mono ?_
 clear HC
 rintro e w1 ⟨rfl, h1⟩
 have zb := (blk_new' (w := (W.alloc _).alloc _) rfl (by simp) : Blk _ (W.heap.size + 1 + 1) 26 _).below h1.out
 have hfz := fun o => zb.frozen o
 have q0 := zb.cell 0
 have q1 := zb.cell 1
 have q2 := zb.cell 2
 have q3 := zb.cell 3
 have hl1 := zb.lt
 have ZB := Lib.hid zb
 have HB := Lib.hid h1.out.from3
 clear zb h1
 simp only [resV, Val.cells]
 go_wp2
 refine bodyPost_ret (results_cv (s := 6) (k := 7) rfl rfl rfl (val_set ZB.out _ _ _ _)) rfl ⟨rfl, Lib.hid (by have hb := HB.out; have hs := hb.size; go_grown)⟩

set_option maxRecDepth 20000 in
set_option maxHeartbeats 2000000 in
/-- slices.Index, of a text that isn't there -/
theorem idx84 (w : World) (A : Option Addr) (n c : Nat) (l : List ByteArray) (h : StrsAt w A n l) (hn : n ≤ 1000000) (z : ByteArray) (hz : ∀ y ∈ l, (z.toList == y.toList) = false) :
  Calls Tryz.prog 170 #[.slice A n c, .string z] w fun e w' => e = .returned (.int .i64 (-1)) ∧ w = w' := by
 have H := Lib.hid h
 have HZ := Lib.hid hz
 clear h hz
 go_enter Tryz.func170, Tryz.ntmps170
 go_wp2
 go_loopg [8] n (fun kx s8 wr => ∃ j : Nat, s8 = .int .i64 j ∧ kx + j = n ∧ w = wr)
 case atStart => exact ⟨0, rfl, rfl, rfl⟩
 case round =>
  obtain ⟨j, rfl, hk, rfl⟩ := hrel
  by_cases hj : j < n
  ·obtain ⟨y, hy⟩ : ∃ y, l[j]? = some y := ⟨_, List.getElem?_eq_getElem (by rw [H.out.len]; exact hj)⟩
   obtain ⟨b, off, rfl, hb, hc⟩ := H.out.at_ j y hy
   have hq := HZ.out y (List.mem_of_getElem? hy)
   have hjz : (j : Int) < (n : Int) := by omega
   have hj0 : (0 : Int) ≤ (j : Int) := by omega
   have hj1 : (j : Int) < 1000001 := by omega
   clear hy hb
   go_wp2
   go_roundg (gk - 1)
   case measure => omega
   case rel => exact ⟨j + 1, by first | rfl | (simp; done), by omega, rfl⟩
  ·have hjz : ¬ (j : Int) < (n : Int) := by omega
   go_wp2
   go_ret
   exact ⟨rfl, rfl⟩
set_option maxHeartbeats 2000000 in
theorem contains68 (w : World) (A : Option Addr) (n c : Nat) (l : List ByteArray) (h : StrsAt w A n l) (hn : n ≤ 1000000) (z : ByteArray) (hz : ∀ y ∈ l, (z.toList == y.toList) = false) :
  Calls Tryz.prog 147 #[.slice A n c, .string z] w fun e w' => e = .returned (.bool false) ∧ w = w' := by
 have HC := Lib.hid (idx84 w A n c l h hn z hz)
 clear h hz
 go_enter Tryz.func147, Tryz.ntmps147
 go_wp2_with (go_at_call 170; refine HC.out.mono ?_; rintro e w1 ⟨rfl, rfl⟩)
 go_ret
 exact ⟨rfl, rfl⟩
/-- the aggregates' names -/
def aggs : List ByteArray := [⟨#[114, 111, 119, 115]⟩, ⟨#[99, 111, 117, 110, 116]⟩, ⟨#[115, 117, 109]⟩, ⟨#[109, 105, 110]⟩, ⟨#[109, 97, 120]⟩]

end Go.Proofs.YtbcmmecilheicaaGreatDoor

/- eval.True, over whatever conditions. -/
namespace Go.Proofs.YtbcmmecilheicaaGreatDoor
open Go Go.RowKit

/-- expressions, as they are read -/
structure ExsAt (W : World) (A : Option Addr) (n : Nat) (l : List Ex) : Prop where
 len : l.length = n
 at_ : ∀ (j : Nat) (e : Ex), l[j]? = some e → ∃ b off Ae ne ce, A = some ⟨b, off, none⟩ ∧ b < W.heap.size ∧ ExC W b (off + j * 8) e Ae ne ce ∧ ExIs W e Ae ne ce
theorem ExsAt.below {W W' : World} {A : Option Addr} {n : Nat} {l : List Ex} (h : ExsAt W A n l) (hW : Below W.heap.size W W') : ExsAt W' A n l :=
 ⟨h.len, fun j e hj => by
  obtain ⟨b, off, Ae, ne, ce, e1, hb, hc, hi⟩ := h.at_ j e hj
  exact ⟨b, off, Ae, ne, ce, e1, Nat.lt_of_lt_of_le hb hW.size, hc.below hb hW, hi.bel hW⟩⟩
theorem ExsAt.nil (W : World) (A : Option Addr) : ExsAt W A 0 [] := ⟨rfl, fun j e h => by simp at h⟩

/-- is it the true one? -/
def isTrue (v : Val) : Bool := v.kind == 3 && (v.int == 0 && (v.text.toList == [] && v.bool == true))
set_option maxHeartbeats 2000000 in
theorem neq23T (W : World) (a b : Int) (s : ByteArray) (p : Bool) : (binOp BinOp.neq 26 (.agg #[.int .i64 a, .int .i64 b, .string s, .bool p]) (.agg #[.int .i64 3, .int .i64 0, .string ⟨#[]⟩, .bool true])).run Tryz.prog W = .ok (.bool (!isTrue ⟨a, b, s, p⟩)) W := by
 have e : (⟨#[]⟩ : ByteArray).toList = [] := by rw [ByteArray.toList_mk]
 simp only [isTrue]
 by_cases h1 : a = 3 <;> by_cases h2 : b = 0 <;> by_cases h3 : s.toList = [] <;> cases p <;> simp [go_sem, h1, h2, h3, e]
/-- are all true? -/
noncomputable def trueP (E : Env) : List Ex → Bool × Option Int
 | [] => (true, none)
 | x :: xs => match evalP E x with
  | (_, some er) => (false, some er)
  | (v, none) => if v.kind ≠ 3 ∧ v.kind ≠ 0 then (false, some 7) else if isTrue v = true then trueP E xs else (false, none)
theorem trueP_at {E : Env} {l : List Ex} {i : Nat} {x : Ex} (h : l[i]? = some x) : trueP E (l.drop i) = match evalP E x with
  | (_, some er) => (false, some er)
  | (v, none) => if v.kind ≠ 3 ∧ v.kind ≠ 0 then (false, some 7) else if isTrue v = true then trueP E (l.drop (i + 1)) else (false, none) := by
 obtain ⟨h1, rfl⟩ := List.getElem?_eq_some_iff.1 h
 rw [List.drop_eq_getElem_cons h1, trueP]

set_option maxRecDepth 100000 in
set_option maxHeartbeats 8000000 in
theorem true44 (w : World) (A : Option Addr) (n c : Nat) (l : List Ex) (hl : ExsAt w A n l) (hn : n ≤ 1466015503701) (E : Env) (VA : Option Addr) (vn vc : Nat) (LA : Option Addr) (ln lc : Nat) (hE : EnvAt w E VA vn LA ln) :
  Calls Tryz.prog 66 #[.slice A n c, .agg #[.int .i64 E.at_, .slice VA vn vc], .slice LA ln lc] w fun e w' => e = .returned (.tuple #[.bool (trueP E l).1, errV (trueP E l).2]) ∧ Hid (Below w.heap.size w w') := by
 have HX := Lib.hid hl
 have HE := Lib.hid hE
 clear hl hE
 obtain ⟨at_, haT⟩ : ∃ a, a = E.at_ := ⟨_, rfl⟩
 rw [← haT]
 have HT := Lib.hid haT
 clear haT
 go_enter Tryz.func66, Tryz.ntmps66
 go_wp2_with fail
 obtain ⟨w1, hw1⟩ : ∃ x, x = w.alloc (.cells #[.int .i64 at_, .slice VA vn vc] 32) := ⟨_, rfl⟩
 have Z1 := Lib.hid (show Blk w1 w.heap.size 32 #[.int .i64 at_, .slice VA vn vc] by rw [hw1]; exact Blk.new w 32 _)
 have B1 := Lib.hid (show Below w.heap.size w w1 by rw [hw1]; exact below_alloc _ _)
 rw [← hw1]
 clear hw1
 go_loopg [14] n (fun kx s14 wr => ∃ i : Nat, s14 = .int .i64 i ∧ kx + i = n ∧ Hid (Below w1.heap.size w1 wr ∧ trueP E l = trueP E (l.drop i)))
 case atStart => exact ⟨0, rfl, rfl, Lib.hid ⟨Below.refl _ _, rfl⟩⟩
 case round =>
  obtain ⟨i, rfl, hk, I⟩ := hrel
  have hi9 : (i : Int) < 1466015503702 := by omega
  by_cases hi : i < n
  ·have hiz : (i : Int) < (n : Int) := by omega
   have bwr : Below w.heap.size w wr := bt I.out.1 B1.out
   obtain ⟨x, hx⟩ : ∃ x, l[i]? = some x := ⟨_, List.getElem?_eq_getElem (by rw [HX.out.len]; exact hi)⟩
   obtain ⟨b, off, Ae, ne, ce, rfl, hb, ⟨x0, x1, x2, x3, x4, x5, x6, x7⟩, hxi⟩ := (HX.out.below bwr).at_ i x hx
   have hs := trueP_at (E := E) hx
   rw [← I.out.2] at hs
   obtain ⟨⟨⟨rk, ri, rs, rb⟩, re⟩, hre⟩ : ∃ r, r = evalP E x := ⟨_, rfl⟩
   rw [← hre] at hs
   have zs := Z1.out.below I.out.1
   have s0 := zs.cell 0
   have s1 := zs.cell 1
   have hsl := zs.lt
   have hsl1 : w.heap.size < wr.heap.size + 1 := by omega
   have bx : Below wr.heap.size wr (wr.alloc (.cells #[.string x.op, .int .i64 x.kind, .int .i64 x.col, .int .i64 x.val.kind, .int .i64 x.val.int, .string x.val.text, .bool x.val.bool, .slice Ae ne ce] 51)) := below_alloc _ _
   have call0 := of9 E VA vn vc LA ln lc (HE.out.below (bt bx bwr)) (hxi.bel bx)
   rw [← hre, ← HT.out] at call0
   have CC : Hid (Calls Tryz.prog 11 #[.agg #[.string x.op, .int .i64 x.kind, .int .i64 x.col, .int .i64 x.val.kind, .int .i64 x.val.int, .string x.val.text, .bool x.val.bool, .slice Ae ne ce], .agg #[.int .i64 at_, .slice VA vn vc], .slice LA ln lc] (wr.alloc (.cells #[.string x.op, .int .i64 x.kind, .int .i64 x.col, .int .i64 x.val.kind, .int .i64 x.val.int, .string x.val.text, .bool x.val.bool, .slice Ae ne ce] 51)) fun e w' => e = .returned (resV (⟨rk, ri, rs, rb⟩, re)) ∧ Hid (Below (wr.alloc (.cells #[.string x.op, .int .i64 x.kind, .int .i64 x.col, .int .i64 x.val.kind, .int .i64 x.val.int, .string x.val.text, .bool x.val.bool, .slice Ae ne ce] 51)).heap.size (wr.alloc (.cells #[.string x.op, .int .i64 x.kind, .int .i64 x.col, .int .i64 x.val.kind, .int .i64 x.val.int, .string x.val.text, .bool x.val.bool, .slice Ae ne ce] 51)) w')) := Lib.hid call0
   have HS := Lib.hid hs
   have BR := Lib.hid I.out.1
   clear hs hx hxi hre bwr bx call0 zs I
   go_wp2_with fail
   refine CC.out.mono ?_
   clear CC x0 x1 x2 x3 x4 x5 x6 x7 s0 s1
   rintro e w2 ⟨rfl, h2⟩
   have B2 := Lib.hid (show Below w1.heap.size w1 w2 from bt h2.out.from1 BR.out)
   clear h2
   simp only [resV, Val.cells]
   cases re with
   | some er =>
    have EE := Lib.hid (show trueP E l = (false, some er) from HS.out)
    simp only [errV]
    go_wp2_with fail
    go_ret2
    exact ⟨by rw [EE.out]; rfl, Lib.hid (bt (below_alloc _ _) (bt B2.out B1.out))⟩
   | none =>
    simp only [errV]
    by_cases hkd : rk ≠ 3 ∧ rk ≠ 0
    ·have EE := Lib.hid (show trueP E l = (false, some 7) by rw [HS.out]; exact if_pos hkd)
     have k1 : (rk != 3) = true := by simpa using hkd.1
     have k2 : (rk != 0) = true := by simpa using hkd.2
     have k3 : (rk == 3) = false := by simpa using hkd.1
     have k4 : (rk == 0) = false := by simpa using hkd.2
     clear hkd
     go_wp2_with fail
     go_ret2
     exact ⟨by rw [EE.out]; rfl, Lib.hid (bt (below_alloc _ _) (bt B2.out B1.out))⟩
    ·have HQ := Lib.hid (fun W => neq23T W rk ri rs rb)
     obtain ⟨bv, hbv⟩ : ∃ b, b = !isTrue ⟨rk, ri, rs, rb⟩ := ⟨_, rfl⟩
     have HS2 := Lib.hid (show trueP E l = if (!bv) = true then trueP E (l.drop (i + 1)) else (false, none) by rw [HS.out, hbv, Bool.not_not]; exact if_neg hkd)
     clear HS
     rw [← hbv] at HQ
     have hq := HQ.out
     have hrk : rk = 3 ∨ rk = 0 := by omega
     obtain ⟨wb, hwb⟩ : ∃ x, x = w2.alloc (.cells #[.int .i64 rk, .int .i64 ri, .string rs, .bool rb] 26) := ⟨_, rfl⟩
     have ZB : Hid (Blk wb w2.heap.size 26 #[.int .i64 rk, .int .i64 ri, .string rs, .bool rb]) := Lib.hid (by rw [hwb]; exact Blk.new w2 26 _)
     have BB : Hid (Below w1.heap.size w1 wb) := Lib.hid (by rw [hwb]; exact bt (below_alloc _ _) B2.out)
     have l0 : ∀ p : BelowW wb, p.w.cell? ⟨w2.heap.size, 0, none⟩ = some (.int .i64 rk) := fun p => (ZB.out.below p.h).cell 0
     have l1 : ∀ p : BelowW wb, p.w.cell? ⟨w2.heap.size, 1, none⟩ = some (.int .i64 ri) := fun p => (ZB.out.below p.h).cell 1
     have l2 : ∀ p : BelowW wb, p.w.cell? ⟨w2.heap.size, 2, none⟩ = some (.string rs) := fun p => (ZB.out.below p.h).cell 2
     have l3 : ∀ p : BelowW wb, p.w.cell? ⟨w2.heap.size, 3, none⟩ = some (.bool rb) := fun p => (ZB.out.below p.h).cell 3
     clear hkd hbv
     have CC : Hid (∀ p : BelowW wb, Calls Tryz.prog 98 #[.bool true] p.w fun e w' => e = .returned (.agg #[.int .i64 3, .int .i64 0, .string ⟨#[]⟩, .bool true]) ∧ Hid (Below p.w.heap.size p.w w')) := Lib.hid (fun p => bool52 p.w true)
     rcases hrk with rfl | rfl
     all_goals
      go_wp2_with fail
      rw [← hwb]
      clear hwb
      refine wp_region_quiet_below (by kernel_rfl) (by kernel_rfl) ?_
      repeat (quiet_step ((go_at_call 98; refine calls_below _ (CC.out _))))
      refine wpQuiet_nil ?_
      intro wq hw'
      have hq' : Below wb.heap.size wb wq := by obtain ⟨p, rfl⟩ := hw'; exact p.h
      have BQ := Lib.hid (bt hq' BB.out)
      clear hw' l0 l1 l2 l3 hq' CC hq HQ
      cases bv with
      | false =>
       have NX := Lib.hid (show trueP E l = trueP E (l.drop (i + 1)) from HS2.out)
       clear HS2
       go_wp2_with fail
       go_roundg (gk - 1)
       case measure => omega
       case rel => exact ⟨i + 1, by first | rfl | (simp; done), by omega, Lib.hid ⟨BQ.out, NX.out⟩⟩
      | true =>
       have EE := Lib.hid (show trueP E l = (false, none) from HS2.out)
       clear HS2
       go_wp2_with fail
       go_ret2
       exact ⟨by rw [EE.out]; rfl, Lib.hid (bt BQ.out B1.out)⟩
  ·have hiz : ¬ (i : Int) < (n : Int) := by omega
   have EE := Lib.hid (show trueP E l = (true, none) by rw [I.out.2, List.drop_eq_nil_of_le (by rw [HX.out.len]; omega)]; rfl)
   have BB := Lib.hid (bt I.out.1 B1.out)
   clear I
   go_wp2_with fail
   go_ret2
   exact ⟨by rw [EE.out]; rfl, BB⟩

end Go.Proofs.YtbcmmecilheicaaGreatDoor

/- The order of a query's parts: each item of the order, some the other way round. -/
namespace Go.Proofs.YtbcmmecilheicaaGreatDoor
open Go Go.RowKit

/-- one item of an order -/
def dirCmp (d : Bool) (a b : Val) : Int := if d = true then - compareP a b else compareP a b
/-- an order's items, one behind the other -/
def ordCmp : List Bool → List Val → List Val → Int
 | [], _, _ => 0
 | d :: ds, x, y => if dirCmp d (x.headD Val.null) (y.headD Val.null) ≠ 0 then dirCmp d (x.headD Val.null) (y.headD Val.null) else ordCmp ds x.tail y.tail
theorem totD (d : Bool) : TotP (dirCmp d) := by
 cases d with
 | false => exact ⟨fun a b => by simp only [dirCmp]; exact compareP_flip a b, fun a b c h1 h2 => by simp only [dirCmp] at *; exact compareP_trans h1 h2⟩
 | true => exact ⟨fun a b => by simp only [dirCmp, if_true]; rw [compareP_flip a b], fun a b c h1 h2 => by
   simp only [dirCmp, if_true] at *
   rw [← compareP_flip] at h1 h2 ⊢
   exact compareP_trans h2 h1⟩
theorem ordCmp_flip : ∀ (ds : List Bool) (x y : List Val), ordCmp ds y x = - ordCmp ds x y
 | [], _, _ => rfl
 | d :: ds, x, y => by
  rw [ordCmp, ordCmp, (totD d).flip (x.headD Val.null) (y.headD Val.null), ordCmp_flip ds x.tail y.tail]
  by_cases h : dirCmp d (x.headD Val.null) (y.headD Val.null) = 0
  ·rw [if_neg (by omega), if_neg (by omega)]
  ·rw [if_pos (by omega), if_pos (by omega)]
theorem ordCmp_trans : ∀ (ds : List Bool) (x y z : List Val), ordCmp ds x y ≤ 0 → ordCmp ds y z ≤ 0 → ordCmp ds x z ≤ 0
 | [], _, _, _, _, _ => Int.le_refl _
 | d :: ds, x, y, z, h1, h2 => by
  rw [ordCmp] at h1 h2 ⊢
  have T := totD d
  generalize x.headD Val.null = a at *
  generalize y.headD Val.null = b at *
  generalize z.headD Val.null = c at *
  have l1 : dirCmp d a b ≤ 0 := by
   by_cases h : dirCmp d a b = 0
   ·omega
   ·rw [if_pos (by omega)] at h1; exact h1
  have l2 : dirCmp d b c ≤ 0 := by
   by_cases h : dirCmp d b c = 0
   ·omega
   ·rw [if_pos (by omega)] at h2; exact h2
  by_cases e1 : dirCmp d a b = 0
  ·by_cases e2 : dirCmp d b c = 0
   ·have e3 : dirCmp d a c = 0 := by
     have p := T.trans a b c l1 l2
     have q := T.trans c b a (by rw [T.flip b c]; omega) (by rw [T.flip a b]; omega)
     rw [T.flip a c] at q
     omega
    rw [if_neg (by omega)] at h1 h2 ⊢
    exact ordCmp_trans ds _ _ _ h1 h2
   ·have := T.le_lt l1 (by omega : dirCmp d b c < 0)
    rw [if_pos (by omega)]; omega
  ·have := T.lt_le (by omega : dirCmp d a b < 0) l2
   rw [if_pos (by omega)]; omega
theorem totO (ds : List Bool) : TotP (ordCmp ds) := ⟨ordCmp_flip ds, ordCmp_trans ds⟩
theorem ordCmp_at {ds : List Bool} {x y : List Val} {i : Nat} {d : Bool} {a b : Val} (hd : ds[i]? = some d) (ha : x[i]? = some a) (hb : y[i]? = some b) : ordCmp (ds.drop i) (x.drop i) (y.drop i) = if dirCmp d a b ≠ 0 then dirCmp d a b else ordCmp (ds.drop (i + 1)) (x.drop (i + 1)) (y.drop (i + 1)) := by
 obtain ⟨h0, rfl⟩ := List.getElem?_eq_some_iff.1 hd
 obtain ⟨h1, rfl⟩ := List.getElem?_eq_some_iff.1 ha
 obtain ⟨h2, rfl⟩ := List.getElem?_eq_some_iff.1 hb
 rw [List.drop_eq_getElem_cons h0, List.drop_eq_getElem_cons h1, List.drop_eq_getElem_cons h2, ordCmp]
 rfl
theorem ordCmp_end (ds : List Bool) (x y : List Val) {i : Nat} (h : ds.length ≤ i) : ordCmp (ds.drop i) (x.drop i) (y.drop i) = 0 := by
 rw [List.drop_eq_nil_of_le h, ordCmp]
theorem cmpI_is (x y : Int) : cmpI x y = -1 ∨ cmpI x y = 0 ∨ cmpI x y = 1 := by
 unfold cmpI; (repeat' split) <;> simp
theorem cmpS_is (x y : ByteArray) : cmpS x y = -1 ∨ cmpS x y = 0 ∨ cmpS x y = 1 := by
 unfold cmpS; (repeat' split) <;> simp
theorem compareP_is (a b : Val) : compareP a b = -1 ∨ compareP a b = 0 ∨ compareP a b = 1 := by
 by_cases h : a.kind = b.kind
 ·rw [compareP_same h]
  split
  ·exact cmpI_is _ _
  ·split
   ·exact cmpS_is _ _
   ·split
    ·(repeat' split) <;> simp
    ·simp
 ·rcases Int.lt_or_gt_of_ne h with h | h
  ·exact .inl (compareP_lt h)
  ·refine .inr (.inr ?_)
   rw [compareP_flip b a, compareP_lt h]; rfl

/-- an order, as it is read -/
structure OrdsAt (W : World) (A : Option Addr) (n : Nat) (l : List (Ex × Bool)) : Prop where
 len : l.length = n
 at_ : ∀ (j : Nat) (e : Ex × Bool), l[j]? = some e → ∃ b off Ae ne ce, A = some ⟨b, off, none⟩ ∧ b < W.heap.size ∧ ExC W b (off + j * 9) e.1 Ae ne ce ∧ ExIs W e.1 Ae ne ce ∧ W.cell? ⟨b, off + j * 9 + 8, none⟩ = some (.bool e.2)
theorem OrdsAt.below {W W' : World} {A : Option Addr} {n : Nat} {l : List (Ex × Bool)} (h : OrdsAt W A n l) (hW : Below W.heap.size W W') : OrdsAt W' A n l :=
 ⟨h.len, fun j e hj => by
  obtain ⟨b, off, Ae, ne, ce, e1, hb, hc, hi, hd⟩ := h.at_ j e hj
  exact ⟨b, off, Ae, ne, ce, e1, Nat.lt_of_lt_of_le hb hW.size, hc.below hb hW, hi.bel hW, (hW.cell (p := ⟨b, off + j * 9 + 8, none⟩) hb).trans hd⟩⟩
theorem OrdsAt.nil (W : World) (A : Option Addr) : OrdsAt W A 0 [] := ⟨rfl, fun j e h => by simp at h⟩

end Go.Proofs.YtbcmmecilheicaaGreatDoor
