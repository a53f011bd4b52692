/- The document's OfQuery: the walk: printed by mkoq3.py. -/
import Derived.Test.YtbcmmecilheicaaGreatDoorOqB
import Derived.Deep.RegionLaw
namespace Go.Proofs.YtbcmmecilheicaaGreatDoor
open Go Go.RowKit

set_option maxRecDepth 100000 in
set_option maxHeartbeats 64000000 in
theorem ofQuery17 (w : World) (TA : Option Addr) (tn tc : Nat) (ts : List Tab) (ht : TabsAt w TA tn ts) (htn : tn ≤ 1048576) (x : St) (l : StL) (hx : StQ w x l) : Calls Tryz.prog 17 #[.slice TA tn tc, .agg (stCells x l)] w (OfQPost w) := by
 have HX := Lib.hid hx
 obtain ⟨w1, hw1⟩ : ∃ z, z = (w.alloc (.cells (stCells x l) 58)).alloc (.cells #[.string ⟨#[]⟩, .slice none 0 0, .slice none 0 0, .slice none 0 0, .slice none 0 0, .slice none 0 0, .int .i64 0, .bool false] 68) := ⟨_, rfl⟩
 have B1 := Lib.hid (show Below w.heap.size w w1 by rw [hw1]; exact bt (below_alloc _ _) (below_alloc _ _))
 have Z1 := Lib.hid (show Blk w1 w.heap.size 58 (stCells x l) by rw [hw1]; exact (Blk.new w 58 _).alloc _)
 have ZR := Lib.hid (show Blk w1 (w.heap.size + 1) 68 #[.string ⟨#[]⟩, .slice none 0 0, .slice none 0 0, .slice none 0 0, .slice none 0 0, .slice none 0 0, .int .i64 0, .bool false] by rw [hw1]; exact blk_new' (w := w.alloc _) rfl (by simp))
 have CFF := Lib.hid (fun (hk : x.kind = 1 ∨ x.kind = 10) => find47 w1 TA tn tc ts (ht.below B1.out) htn x l (hx.below B1.out) hk)
 have FEW := Lib.hid hx.few
 have HDP := Lib.hid hx.dp
 obtain ⟨kd, tb, its, wh, grp, ord, lim⟩ := x
 obtain ⟨ia, ni, ci, wa, nw, cw, ga, ng, cg, oa, no, co⟩ := l
 clear hx ht
 have hni : ni ≤ 51 := by have := FEW.out; simp only at this; omega
 have hno : no ≤ 51 := by have := FEW.out; simp only at this; omega
 have hng : ng ≤ 1048576 := HX.out.at_.ng
 have z0 := Z1.out.cell 0
 have z1 := Z1.out.cell 1
 have z2 := Z1.out.cell 2
 have z3 := Z1.out.cell 3
 have z4 := Z1.out.cell 4
 have z5 := Z1.out.cell 5
 have z6 := Z1.out.cell 6
 have hl := Z1.out.lt
 go_enter Tryz.func17, Tryz.ntmps17
 go_upto_region 1 with fail
 rw [← hw1]
 clear hw1
 by_cases hk : ¬ (kd = 1 ∨ kd = 10)
 ·have e1 : (kd != 1) = true := by simp; omega
  have e2 : (kd != 10) = true := by simp; omega
  have e3 : (kd == 1) = false := by simp; omega
  have e4 : (kd == 10) = false := by simp; omega
  have HER := Lib.hid (show (31 : Int) ≠ 0 by decide)
  go_upto_region 2 with fail
  rename_i hx
  revert hx
  generalize hQQ : bodyPost Tryz.prog Tryz.f17 (OfQPost w) = QQ
  intro hx
  have HQQ := Lib.hid hQQ
  clear hQQ
  have hfz := fun o => ZR.out.frozen o
  have r0 := ZR.out.cell 0
  have r1 := ZR.out.cell 1
  have r2 := ZR.out.cell 2
  have r3 := ZR.out.cell 3
  have r4 := ZR.out.cell 4
  have r5 := ZR.out.cell 5
  have r6 := ZR.out.cell 6
  have r7 := ZR.out.cell 7
  have hrl := ZR.out.lt
  go_wp2_with fail
  rw [← HQQ.out]
  refine bodyPost_ret (results_qi (s := 4) (k := 5) rfl rfl rfl (ex_set ZR.out _ _ _ _ _ _ _ _)) rfl (ofq_err _ HER (by have hb := B1.out; have hs := hb.size; go_grown))
 ·have hk : kd = 1 ∨ kd = 10 := Classical.not_not.1 hk
  have CF := Lib.hid (CFF.out hk)
  have e1 : ((kd != 1) && (kd != 10)) = false := by rcases hk with rfl | rfl <;> rfl
  clear CFF
  go_cut [28] from 21 to 27 (fun s28 wx => s28 = .bool false ∧ wx = w1)
  case first =>
   clear z1 z2 z3 z4 z5 z6 CF
   rcases hk with rfl | rfl
   all_goals
    go_wp2_with fail
    go_meet
    case rel => exact ⟨rfl, rfl⟩
  case rest =>
  obtain ⟨rfl, rfl⟩ := hcut
  rename World => w1
  go_wp2_with fail
  refine CF.out.mono ?_
  rintro e wq ⟨t, CA, cn, cc, er, rfl, hok, hbq⟩
  go_upto_region 4 with fail
  obtain ⟨p6, hp6e⟩ : ∃ p, p = wq.heap.size := ⟨_, rfl⟩
  have hp6 : w1.heap.size ≤ p6 := by rw [hp6e]; exact hbq.out.size
  obtain ⟨w2, hw2⟩ : ∃ z, z = wq.alloc (.cells #[.string t.name, .slice CA cn cc] 24) := ⟨_, rfl⟩
  have Z6 := Lib.hid (show Blk w2 p6 24 #[.string t.name, .slice CA cn cc] by rw [hw2, hp6e]; exact Blk.new wq 24 _)
  have hb2 := Lib.hid (show Below w1.heap.size w1 w2 by rw [hw2]; exact bt (below_alloc _ _) hbq.out)
  have HOK := Lib.hid (show er = 0 → ColsAt w1 CA cn t.cols ∧ cn ≤ 1048576 from fun h => ⟨(hok.out h).2.1, (hok.out h).2.2.1⟩)
  rw [← hw2, ← hp6e]
  clear hw2 hp6e hok hbq
  clear z0 z1 z2 z3 z4 z5 z6 hl CF e1
  have B12 := Lib.hid hb2.out
  have B2 := Lib.hid (bt hb2.out B1.out)
  have Z2 := Lib.hid (Z1.out.below hb2.out)
  have YR := Lib.hid (ZR.out.below hb2.out)
  clear hb2
  by_cases her : er = 0
  rotate_left
  ·have r1' : (er != 0) = true := by simpa using her
   have r2' : (er == 0) = false := by simpa using her
   have HER := Lib.hid her
   clear her HOK
   go_upto_region 5 with fail
   rename_i hx
   revert hx
   generalize hQQ : bodyPost Tryz.prog Tryz.f17 (OfQPost w) = QQ
   intro hx
   have HQQ := Lib.hid hQQ
   clear hQQ
   have hfz := fun o => YR.out.frozen o
   have r0 := YR.out.cell 0
   have r1 := YR.out.cell 1
   have r2 := YR.out.cell 2
   have r3 := YR.out.cell 3
   have r4 := YR.out.cell 4
   have r5 := YR.out.cell 5
   have r6 := YR.out.cell 6
   have r7 := YR.out.cell 7
   have hrl := YR.out.lt
   go_wp2_with fail
   rw [← HQQ.out]
   refine bodyPost_ret (results_qi (s := 4) (k := 5) rfl rfl rfl (ex_set YR.out _ _ _ _ _ _ _ _)) rfl (ofq_err _ HER (by have hb := B2.out; have hs := hb.size; go_grown))
  subst her
  have HC := Lib.hid (HOK.out rfl).1
  have hcn : cn ≤ 1048576 := (HOK.out rfl).2
  clear HOK
  have z1 := Z2.out.cell 1
  have z6 := Z2.out.cell 6
  have hl := Z2.out.lt
  have h62 := Z6.out.lt
  have hw12 : w1.heap.size ≤ w2.heap.size := B12.out.size
  have hw01 : w.heap.size + 2 ≤ w1.heap.size := by have := ZR.out.lt; omega
  go_upto_region 7 with fail
  obtain ⟨p8, hp8⟩ : ∃ p, p = w2.heap.size := ⟨_, rfl⟩
  obtain ⟨w3, hw3⟩ : ∃ z, z = w2.alloc (.cells #[.string tb, .slice none 0 0, .slice none 0 0, .slice none 0 0, .slice none 0 0, .slice none 0 0, .int .i64 lim, .bool false] 68) := ⟨_, rfl⟩
  have B23 := Lib.hid (show Below w2.heap.size w2 w3 by rw [hw3]; exact below_alloc _ _)
  have L0 := Lib.hid (show L1 t.cols p8 w3 w3 tb (.slice none 0 0) (.slice none 0 0) (.slice none 0 0) lim false [] none 0 [] none 0 by
   rw [hw3, hp8]
   exact ⟨Bx.refl _ _, by simp, Blk.new w2 68 _, World.ownsRow_nil _ _ _ _, World.ownsRow_nil _ _ _ _, (fun k hk => by cases hk), (fun g hg => by cases hg)⟩)
  rw [← hw3, ← hp8]
  clear hw3 z1 z6 hl
  have B13 := Lib.hid (bt B23.out B12.out)
  have Z3 := Lib.hid (Z2.out.below B23.out)
  have Y3 := Lib.hid (YR.out.below B23.out)
  have Z63 := Lib.hid (Z6.out.below B23.out)
  have hp9 : w1.heap.size ≤ p8 := by omega
  have hp69 : p6 < p8 := by omega
  have hps : p8 < w3.heap.size := L0.out.ps
  clear h62 Z2 YR Z6 B23 B12 B2 hw12 hp8
  go_wp2_with fail
  go_loopg [9] ni (fun kx s9 wr => ∃ (i : Nat) (ag : Bool) (ti : List ByteArray) (T1 : Option Addr) (u1 : Nat) (gs : List Given) (IA : Option Addr) (u2 : Nat), s9 = .int .i64 i ∧ kx + i = ni ∧ Hid (ti.length = i) ∧ Hid (gs.length = i) ∧ Hid (i = 0 → T1 = none ∧ u1 = 0 ∧ IA = none ∧ u2 = 0) ∧ Hid (L1 t.cols p8 w3 wr tb (.slice none 0 0) (.slice none 0 0) (.slice none 0 0) lim ag ti T1 u1 gs IA u2))
  case atStart => exact ⟨0, false, [], none, 0, [], none, 0, rfl, rfl, Lib.hid rfl, Lib.hid rfl, Lib.hid (fun _ => ⟨rfl, rfl, rfl, rfl⟩), L0⟩
  case round =>
   obtain ⟨i, ag, ti, T1, u1, gs, IA, u2, rfl, hki, HTL, HGL, H0, I⟩ := hrel
   have hi9 : (i : Int) ≤ 51 := by omega
   have hi0 : (0 : Int) ≤ (i : Int) := by omega
   have BX := Lib.hid I.out.old
   have BW1 := Lib.hid (BX.out.below B13.out (by omega) (by omega))
   have ZS := Lib.hid (BX.out.blk Z3.out (by omega))
   have ZT := Lib.hid (BX.out.blk Z63.out (by omega))
   have z2 := ZS.out.cell 2
   have hl := ZS.out.lt
   by_cases hi : i < ni
   ·have hiz : (i : Int) < (ni : Int) := by omega
    obtain ⟨e, he⟩ : ∃ e, its[i]? = some e := ⟨_, List.getElem?_eq_getElem (by have := HX.out.at_.items.len; simp only at this; omega)⟩
    have HDE := Lib.hid (HDP.out e.1 (by simp only [St.all, List.mem_append, List.mem_map]; exact .inl (.inl ⟨e, List.mem_of_getElem? he, rfl⟩)))
    obtain ⟨b, off, Ae, ne, ce, hia, hb0, hcx, hix, hs7⟩ := HX.out.at_.items.at_ i e he
    simp only at hia
    subst hia
    have BW := Lib.hid (bt BW1.out B1.out)
    obtain ⟨a0, a1, a2, a3, a4, a5, a6⟩ := hcx.below hb0 BW.out
    have hb := Nat.lt_of_lt_of_le hb0 BW.out.size
    have t0 := ZT.out.cell 0
    have t1 := ZT.out.cell 1
    have htl := ZT.out.lt
    have CI := Lib.hid (fun (W : World) (h : Below wr.heap.size wr W) => ofExpr6 W t.name CA cn cc t.cols (HC.out.below (bt h BW1.out)) (by omega) e.1 Ae ne ce (hix.bel (bt h BW.out)) HDE.out true)
    have HS7 := Lib.hid hs7
    have HB0 := Lib.hid hb0
    have HE2 := Lib.hid (fun (W : World) (h : Below w.heap.size w W) => hcx.below hb0 h)
    clear he hcx hix hs7
    go_upto_region 10 with fail
    go_cut [10, 11] from 52 to 63 (fun s10 s11 wx => ∃ (y : Ex) (A' : Option Addr) (n' c' : Nat) (er : Int) (p : Nat), s10 = .pointer (some ⟨p, 0, none⟩) ∧ s11 = .int .i64 er ∧ Hid (Made wr p y A' n' c' wx) ∧ Hid (er = 0 → Typed t.cols true y ∧ ExIn wx (fun b => wr.heap.size ≤ b) y A' n' c'))
    case first =>
     go_region_law (first | (go_simp; go_at_call 6; refine (CI.out _ (by first | exact below_drew _ | exact bt (below_alloc _ _) (below_drew _) | exact bt (below_drew _) (below_alloc _ _))).mono ?_; rintro e w5 ⟨y, A', n', c', er, rfl, hy, hb5⟩; (first | (have pz := Lib.hid (zero_new hb5.out); have q0 := pz.out.cell 0; have q1 := pz.out.cell 1; have q2 := pz.out.cell 2; have q3 := pz.out.cell 3; have q4 := pz.out.cell 4; have q5 := pz.out.cell 5; have q6 := pz.out.cell 6; have q7 := pz.out.cell 7; have hfz := fun o => pz.out.frozen o) | (have pz := Lib.hid (zero_newd hb5.out); have q0 := pz.out.cell 0; have q1 := pz.out.cell 1; have q2 := pz.out.cell 2; have q3 := pz.out.cell 3; have q4 := pz.out.cell 4; have q5 := pz.out.cell 5; have q6 := pz.out.cell 6; have q7 := pz.out.cell 7; have hfz := fun o => pz.out.frozen o) | skip)))
     all_goals
      go_wp2_with fail
      go_meet
     all_goals first | exact ⟨y, A', n', c', er, _, rfl, rfl, Lib.hid (made_a hb5.out hy.out).1, Lib.hid (made_a hb5.out hy.out).2⟩ | exact ⟨y, A', n', c', er, _, rfl, rfl, Lib.hid (made_b hb5.out hy.out).1, Lib.hid (made_b hb5.out hy.out).2⟩
    case rest =>
     obtain ⟨y, A', n', c', er, pe, rfl, rfl, HM, HY⟩ := hcut
     clear a0 a1 a2 a3 a4 a5 a6 t0 t1 htl z2 hl CI hb
     have IC := Lib.hid (I.out.below HM.out.1)
     have BWC := Lib.hid (bt HM.out.1 (bt BW1.out B1.out))
     have ZSC := Lib.hid (ZS.out.below HM.out.1)
     by_cases her : er = 0
     rotate_left
     ·have r1' : (er != 0) = true := by simpa using her
      have r2' : (er == 0) = false := by simpa using her
      have HER := Lib.hid her
      have YC := Lib.hid ((BX.out.blk Y3.out (by omega)).below HM.out.1)
      clear her
      go_upto_region 12 with fail
      rename_i hx
      revert hx
      generalize hQQ : bodyPost Tryz.prog Tryz.f17 (OfQPost w) = QQ
      intro hx
      have HQQ := Lib.hid hQQ
      clear hQQ
      have hfz := fun o => YC.out.frozen o
      have r0 := YC.out.cell 0
      have r1 := YC.out.cell 1
      have r2 := YC.out.cell 2
      have r3 := YC.out.cell 3
      have r4 := YC.out.cell 4
      have r5 := YC.out.cell 5
      have r6 := YC.out.cell 6
      have r7 := YC.out.cell 7
      have hrl := YC.out.lt
      go_wp2_with fail
      rw [← HQQ.out]
      refine bodyPost_ret (results_qi (s := 4) (k := 5) rfl rfl rfl (ex_set YC.out _ _ _ _ _ _ _ _)) rfl (ofq_err _ HER (by have hb := BWC.out; have hs := hb.size; go_grown))
     subst her
     have z2 := ZSC.out.cell 2
     have hl := ZSC.out.lt
     have a7 := (BWC.out.cell (p := ⟨b, off + i * 8 + 7, none⟩) HB0.out).trans HS7.out
     have hb := Nat.lt_of_lt_of_le HB0.out BWC.out.size
     have hlen : its.length = ni := HX.out.at_.items.len
     go_upto_region 13 with fail
     go_cut [12] from 67 to 73 (fun s12 wx => s12 = .string e.2 ∧ wx = wc)
     case first =>
      go_wp2_with fail
      go_meet
      case rel => exact ⟨rfl, rfl⟩
     case rest =>
     obtain ⟨rfl, rfl⟩ := hcut
     rename World => wc
     clear a7
     obtain ⟨a0, a1, a2, a3, a4, a5, a6⟩ := HE2.out wc BWC.out
     have e0 := HM.out.2.2.2.cell 0
     have hpe := HM.out.2.2.1
     obtain ⟨k1, h1⟩ : ∃ q, (e.2.toList == []) = q := ⟨_, rfl⟩
     obtain ⟨k2, h2⟩ : ∃ q, (y.op.toList == [99, 111, 108]) = q := ⟨_, rfl⟩
     obtain ⟨k3, h3⟩ : ∃ q, (y.op.toList == [108, 97, 98, 101, 108]) = q := ⟨_, rfl⟩
     go_step
     go_step
     go_cut [12] from 73 to 95 (fun s12 wx => ∃ s, s12 = .string s ∧ Hid (Below wc.heap.size wc wx))
     case first =>
      cases k1
      ·go_wp2_with fail
       go_meet
       case rel => exact ⟨_, rfl, Lib.hid (Below.refl _ _)⟩
      ·cases k2
       rotate_left
       ·go_wp2_with fail
        go_meet
        case rel => exact ⟨_, rfl, Lib.hid (Below.refl _ _)⟩
       ·cases k3
        rotate_left
        ·go_wp2_with fail
         go_meet
         case rel => exact ⟨_, rfl, Lib.hid (Below.refl _ _)⟩
        ·have CD := Lib.hid (show Calls Tryz.prog 48 #[.int .i64 ((i : Int) + 1)] wc (DigPost wc) by
          have h := digits48 wc (i + 1) (by omega)
          rw [show ((i + 1 : Nat) : Int) = (i : Int) + 1 by omega] at h
          exact h)
         unfold DigPost at CD
         go_wp2_with fail
         refine CD.out.mono ?_
         rintro e5 w5 ⟨s, rfl, hs, h5⟩
         have hs2 : ¬ 9223372036854775807 < 6 + s.size := by omega
         go_wp2_with fail
         go_meet
         case rel => exact ⟨_, rfl, h5⟩
     case rest =>
     obtain ⟨s, rfl, HBX⟩ := hcut
     rename World => wx
     clear a0 a1 a2 a3 a4 a5 a6 e0 hpe k1 h1 k2 h2 k3 h3 z2 hl hb
     have IX := Lib.hid (IC.out.below HBX.out)
     have ME := Lib.hid (HM.out.2.2.2.below HBX.out)
     have hwx : wr.heap.size ≤ wx.heap.size := Nat.le_trans HM.out.1.size HBX.out.size
     have hws : w3.heap.size ≤ wr.heap.size := BX.out.size
     have HYX := Lib.hid (show ExIn wx (fun b => w3.heap.size ≤ b ∧ some b ≠ (Value.slice T1 ti.length u1).ownBlock ∧ some b ≠ (Value.slice IA gs.length u2).ownBlock) y A' n' c' from
      (HY.out rfl).2.keep (fun b _ hl => HBX.out.block b hl) (fun b hb _ => ⟨by omega, fun e => by have := (I.out.tO.lt b e.symm).2; omega, fun e => by have := (I.out.iO.lt b e.symm).2; omega⟩) HBX.out.size)
     obtain ⟨An, cn', w4, hrun, f1, f2, f3, fk, I4⟩ := IX.out.pushI (by have := HGL.out; omega) (HY.out rfl).1 HYX.out (below_alloc wx (.cells #[.string y.op, .int .i64 y.kind, .int .i64 y.col, .int .i64 y.val.kind, .int .i64 y.val.int, .string y.val.text, .bool y.val.bool, .slice A' n' c'] 38)) (Blk.new wx 38 _)
     have HRUN := Lib.hid hrun
     have J4 := Lib.hid I4
     have ME4 := Lib.hid (show Blk _ pe 38 _ from (fk pe (by have := ME.out.lt; simp; omega) (by have := HM.out.2.1; omega) (fun e => by have := (I.out.iO.lt pe e.symm).2; have := HM.out.2.1; omega)).trans (ME.out.alloc _))
     have q2 := IX.out.qb.cell 2
     have e0 := ME.out.cell 0
     have e1 := ME.out.cell 1
     have e2 := ME.out.cell 2
     have e3 := ME.out.cell 3
     have e4 := ME.out.cell 4
     have e5 := ME.out.cell 5
     have e6 := ME.out.cell 6
     have e7 := ME.out.cell 7
     have hme := ME.out.lt
     have hq8 := IX.out.qb.lt
     clear hrun I4 fk
     go_upto_region 21 with (at_builtin; refine wpList_append_runI _ rfl _ _ 36 36 rfl (.slice IA gs.length u2) (.slice (some ⟨wx.heap.size, 0, none⟩) 1 1) rfl rfl HRUN.out ?_)
     clear q2 e0 e1 e2 e3 e4 e5 e6 e7 hme hq8 f1 f2 f3
     obtain ⟨wy, hwy⟩ : ∃ z, z = w4.setCell ⟨p8, 2, none⟩ (.slice An (gs.length + 1) cn') := ⟨_, rfl⟩
     rw [← hwy] at J4 ME4 ⊢
     clear hwy
     obtain ⟨Bn, dn, w6, hrun, g1, g2, g3, gk2, I6⟩ := J4.out.pushT (by have := HTL.out; omega) s (below_alloc wy (.cells #[.string s] 9)) (Blk.new wy 9 _)
     have HRUN := Lib.hid hrun
     have J6 := Lib.hid I6
     have ME6 := Lib.hid (show Blk _ pe 38 _ from (gk2 pe (by have := ME4.out.lt; simp; omega) (by have := HM.out.2.1; omega) (fun e => by have := (I.out.tO.lt pe e.symm).2; have := HM.out.2.1; omega)).trans (ME4.out.alloc _))
     have q1 := J4.out.qb.cell 1
     have hq8 := J4.out.qb.lt
     clear hrun I6 gk2
     go_upto_region 22 with (at_builtin; refine wpList_append_runI _ rfl _ _ 33 33 rfl (.slice T1 ti.length u1) (.slice (some ⟨wy.heap.size, 0, none⟩) 1 1) rfl rfl HRUN.out ?_)
     clear q1 hq8 g1 g2 g3 HRUN
     obtain ⟨wz, hwz⟩ : ∃ z, z = w6.setCell ⟨p8, 1, none⟩ (.slice Bn (ti.length + 1) dn) := ⟨_, rfl⟩
     rw [← hwz] at J6 ME6 ⊢
     clear hwz
     have q7 := J6.out.qb.cell 7
     have hf7 := J6.out.qb.frozen 7
     have hq8 := J6.out.qb.lt
     cases ag with
     | true =>
      have J7 := Lib.hid (J6.out.setAg true)
      go_wp2_with fail
      go_roundg (gk - 1)
      case measure => omega
      case rel => exact ⟨i + 1, true, ti ++ [s], Bn, dn, gs ++ [(y, A', n', c')], An, cn', by first | rfl | (simp; done), by omega, Lib.hid (by simp [HTL.out]), Lib.hid (by simp [HGL.out]), Lib.hid (fun h => by omega), J7⟩
     | false =>
      have e0 := ME6.out.cell 0
      have e1 := ME6.out.cell 1
      have e2 := ME6.out.cell 2
      have e3 := ME6.out.cell 3
      have e4 := ME6.out.cell 4
      have e5 := ME6.out.cell 5
      have e6 := ME6.out.cell 6
      have e7 := ME6.out.cell 7
      have hme := ME6.out.lt
      have CA9 := Lib.hid (aggregates49 (J6.out.kids (y, A', n', c') (by simp)).2.is wz (Below.refl _ _))
      go_wp2_with fail
      refine CA9.out.mono ?_
      rintro e9 w9 ⟨q, rfl, h9⟩
      have J9 := Lib.hid ((J6.out.below h9.out).setAg q)
      have q7 := (J6.out.below h9.out).qb.cell 7
      have hf7 := (J6.out.below h9.out).qb.frozen 7
      have hq9 := (J6.out.below h9.out).qb.lt
      clear e0 e1 e2 e3 e4 e5 e6 e7 hme
      go_wp2_with fail
      go_roundg (gk - 1)
      case measure => omega
      case rel => exact ⟨i + 1, q, ti ++ [s], Bn, dn, gs ++ [(y, A', n', c')], An, cn', by first | rfl | (simp; done), by omega, Lib.hid (by simp [HTL.out]), Lib.hid (by simp [HGL.out]), Lib.hid (fun h => by omega), J9⟩
   ·have hiz : ¬ (i : Int) < (ni : Int) := by omega
    obtain rfl : i = ni := by omega
    rename World => w4
    have z3 := ZS.out.cell 3
    have t0 := ZT.out.cell 0
    have t1 := ZT.out.cell 1
    have htl := ZT.out.lt
    have BW := Lib.hid (bt BW1.out B1.out)
    have CW := Lib.hid (where50 w4 t.name CA cn cc t.cols (HC.out.below BW1.out) (by omega) wa nw cw wh (HX.out.at_.where_.below BW.out) (fun e he => HDP.out e (by simp only [St.all, List.mem_append]; exact .inl (.inr he))))
    unfold WherePost at CW
    go_wp2_with fail
    refine CW.out.mono ?_
    clear CW z2 z3 t0 t1 htl hl
    rintro e5 w5 ⟨lw, WA, wn, wcap, er, rfl, hwn, hwcap, hok, h5⟩
    have q3 := (I.out.qb.below h5.out).cell 3
    have hf3 := (I.out.qb.below h5.out).frozen 3
    have hq8 := (I.out.qb.below h5.out).lt
    go_upto_region 24 with fail
    obtain ⟨w6, hw6⟩ : ∃ z, z = w5.setCell ⟨p8, 3, none⟩ (.slice WA wn wcap) := ⟨_, rfl⟩
    have BX5 := Lib.hid (show Bx p8 w4 w6 by rw [hw6]; exact (Bx.of h5.out).trans (.set _ _ _ _))
    have BX6 := Lib.hid (BX.out.trans BX5.out)
    have B16 := Lib.hid (BX6.out.below B13.out (by omega) (by omega))
    have Z6S := Lib.hid (BX6.out.blk Z3.out (by omega))
    have Y6 := Lib.hid (BX6.out.blk Y3.out (by omega))
    have Z66 := Lib.hid (BX6.out.blk Z63.out (by omega))
    have Q6 := Lib.hid (show Blk w6 p8 68 #[.string tb, .slice T1 ti.length u1, .slice IA gs.length u2, .slice WA wn wcap, .slice none 0 0, .slice none 0 0, .int .i64 lim, .bool ag] by rw [hw6]; exact (I.out.qb.below h5.out).set_ 3 _)
    have hs36 : w3.heap.size ≤ w6.heap.size := BX6.out.size
    have hs34 : w3.heap.size ≤ w4.heap.size := BX.out.size
    have hs46 : w4.heap.size ≤ w6.heap.size := BX5.out.size
    have FT := Lib.hid (show CellsIn w6 (fun b => w1.heap.size ≤ b ∧ b ≠ p8) T1 ti.length (ti.map Value.string) from (own_cells I.out.tO).keep (fun b hb hl => BX5.out.block b hl (by omega)) (fun b hb _ => by omega) hs46)
    have FI_ := Lib.hid (show ExsIn w6 (fun b => w1.heap.size ≤ b ∧ b ≠ p8) IA gs.length (gs.map (·.1)) from (own_exs (S := fun b => w3.heap.size ≤ b) I.out.iO (fun b hb => (I.out.iO.lt b hb).1) (fun g hg => (I.out.kids g hg).2.keep (fun _ _ _ => rfl) (fun b hb _ => hb.1) (Nat.le_refl _))).keep (fun b hb hl => BX5.out.block b hl (by omega)) (fun b hb _ => by omega) hs46)
    have AI := Lib.hid (show ∀ e ∈ gs.map (·.1), ArOk e from fun e he => by
     obtain ⟨g, hg, rfl⟩ := List.mem_map.1 he
     exact typed_ar (I.out.kids g hg).1)
    have FW := Lib.hid (show er = 0 → ExsIn w6 (fun b => w1.heap.size ≤ b ∧ b ≠ p8) WA wn lw from fun h => (hok.out h).2.keep (fun b hb hl => by rw [hw6]; exact Below.heap_setCell _ _ _ _ (by show b ≠ p8; omega)) (fun b hb _ => by omega) (by rw [hw6]; simp [World.setCell]))
    rw [← hw6]
    have BW6 := Lib.hid (bt B16.out B1.out)
    clear hw6 q3 hf3 hq8 h5 hok BX5 BX ZS ZT BW BW1
    by_cases her : er = 0
    rotate_left
    ·have r1' : (er != 0) = true := by simpa using her
     have r2' : (er == 0) = false := by simpa using her
     have HER := Lib.hid her
     clear her
     go_upto_region 25 with fail
     rename_i hx
     revert hx
     generalize hQQ : bodyPost Tryz.prog Tryz.f17 (OfQPost w) = QQ
     intro hx
     have HQQ := Lib.hid hQQ
     clear hQQ
     have hfz := fun o => Y6.out.frozen o
     have r0 := Y6.out.cell 0
     have r1 := Y6.out.cell 1
     have r2 := Y6.out.cell 2
     have r3 := Y6.out.cell 3
     have r4 := Y6.out.cell 4
     have r5 := Y6.out.cell 5
     have r6 := Y6.out.cell 6
     have r7 := Y6.out.cell 7
     have hrl := Y6.out.lt
     go_wp2_with fail
     rw [← HQQ.out]
     refine bodyPost_ret (results_qi (s := 4) (k := 5) rfl rfl rfl (ex_set Y6.out _ _ _ _ _ _ _ _)) rfl (ofq_err _ HER (by have hb := BW6.out; have hs := hb.size; go_grown))
    subst her
    have FWR := Lib.hid (FW.out rfl)
    have hp86 : p8 < w6.heap.size := Q6.out.lt
    go_wp2_with fail
    go_loopg [13] ng (fun kx s13 wr => ∃ (i' : Nat) (ag : Bool) (gr : List Int) (GA : Option Addr) (u : Nat), s13 = .int .i64 i' ∧ kx + i' = ng ∧ Hid (gr.length = i') ∧ Hid (L2 p8 w6 wr tb (.slice T1 ti.length u1) (.slice IA gs.length u2) (.slice WA wn wcap) (.slice none 0 0) lim ag gr GA u))
    case atStart => exact ⟨0, ag, [], none, 0, rfl, rfl, Lib.hid rfl, Lib.hid ⟨Bx.refl _ _, hp86, Q6.out, World.ownsRow_nil _ _ _ _⟩⟩
    case round =>
     obtain ⟨i', ag', gr, GA, u, rfl, hki', HGR, I2⟩ := hrel
     have hi9' : (i' : Int) ≤ 1048576 := by omega
     have hi0' : (0 : Int) ≤ (i' : Int) := by omega
     have BX := Lib.hid I2.out.old
     have B1r := Lib.hid (BX.out.below B16.out (by omega) (by omega))
     have ZS := Lib.hid (BX.out.blk Z6S.out (by omega))
     have ZT := Lib.hid (BX.out.blk Z66.out (by omega))
     have z4 := ZS.out.cell 4
     have hl := ZS.out.lt
     by_cases hi' : i' < ng
     ·have hiz' : (i' : Int) < (ng : Int) := by omega
      obtain ⟨z, hz⟩ : ∃ z, grp[i']? = some z := ⟨_, List.getElem?_eq_getElem (by have := HX.out.at_.group.len; simp only at this; omega)⟩
      obtain ⟨b, off, hga, hb0, hcz⟩ := HX.out.at_.group.at_ i' z hz
      simp only at hga
      subst hga
      have BW := Lib.hid (bt B1r.out B1.out)
      have x0 := (BW.out.cell (p := ⟨b, off + i', none⟩) hb0).trans hcz
      have hb := Nat.lt_of_lt_of_le hb0 BW.out.size
      have t0 := ZT.out.cell 0
      have t1 := ZT.out.cell 1
      have htl := ZT.out.lt
      have CI := Lib.hid (fun (W : World) (h : Below wr.heap.size wr W) => column51 W t.name CA cn cc t.cols (HC.out.below (bt h B1r.out)) (by omega) z)
      clear hz hcz
      go_upto_region 29 with fail
      go_cut [14, 15] from 133 to 143 (fun s14 s15 wx => ∃ (k : Nat) (er : Int), s14 = .int .i64 k ∧ s15 = .int .i64 er ∧ Hid (Below wr.heap.size wr wx) ∧ Hid (er = 0 → k < cn))
      case first =>
       go_region_law (first | (go_simp; go_at_call 51; refine (CI.out _ (below_drew _)).mono ?_; rintro e w5 ⟨k, er, rfl, hk', her', hb5⟩))
       all_goals
        go_wp2_with fail
        go_meet
        case rel => exact ⟨k, er, rfl, rfl, Lib.hid (bt hb5.out (below_drew _)), hk'⟩
      case rest =>
      obtain ⟨k, er, rfl, rfl, HB5, HK⟩ := hcut
      clear x0 hb t0 t1 htl z4 hl CI
      have BWC := Lib.hid (bt HB5.out BW.out)
      have YC := Lib.hid ((BX.out.blk Y6.out (by omega)).below HB5.out)
      have I2C := Lib.hid (I2.out.below HB5.out)
      by_cases her : er = 0
      rotate_left
      ·have r1' : (er != 0) = true := by simpa using her
       have r2' : (er == 0) = false := by simpa using her
       have HER := Lib.hid her
       clear her
       go_upto_region 31 with fail
       rename_i hx
       revert hx
       generalize hQQ : bodyPost Tryz.prog Tryz.f17 (OfQPost w) = QQ
       intro hx
       have HQQ := Lib.hid hQQ
       clear hQQ
       have hfz := fun o => YC.out.frozen o
       have r0 := YC.out.cell 0
       have r1 := YC.out.cell 1
       have r2 := YC.out.cell 2
       have r3 := YC.out.cell 3
       have r4 := YC.out.cell 4
       have r5 := YC.out.cell 5
       have r6 := YC.out.cell 6
       have r7 := YC.out.cell 7
       have hrl := YC.out.lt
       go_wp2_with fail
       rw [← HQQ.out]
       refine bodyPost_ret (results_qi (s := 4) (k := 5) rfl rfl rfl (ex_set YC.out _ _ _ _ _ _ _ _)) rfl (ofq_err _ HER (by have hb := BWC.out; have hs := hb.size; go_grown))
      subst her
      have hg9 : gr.length ≤ 1048576 := by have := HGR.out; omega
      obtain ⟨gko, hgo⟩ : ∃ q, q = gk := ⟨_, rfl⟩
      go_wp2_with fail
      go_loopg [16] gr.length (fun kx s16 wy => ∃ m : Nat, s16 = .int .i64 m ∧ kx + m = gr.length ∧ wy = wc)
      case atStart => exact ⟨0, rfl, rfl, rfl⟩
      case round =>
       obtain ⟨m, rfl, hkm, rfl⟩ := hrel
       rename World => wc
       have hm9 : (m : Int) ≤ 1048576 := by omega
       have hm0 : (0 : Int) ≤ (m : Int) := by omega
       have q4 := I2C.out.qb.cell 4
       have hf4 := I2C.out.qb.frozen 4
       have hq8 := I2C.out.qb.lt
       by_cases hm : m < gr.length
       ·have hmz : (m : Int) < (gr.length : Int) := by omega
        obtain ⟨z', hz'⟩ : ∃ z, gr[m]? = some z := ⟨_, List.getElem?_eq_getElem hm⟩
        obtain ⟨g, eg, hg, -, cg, -⟩ := own_at I2C.out.gO (show (gr.map (Value.int .i64))[m]? = some (.int .i64 z') by rw [List.getElem?_map, hz']; rfl)
        subst eg
        clear hz'
        by_cases heq : z' = (k : Int)
        ·have e1 : (z' == (k : Int)) = true := by simpa using heq
         have HER := Lib.hid (show (9 : Int) ≠ 0 by decide)
         clear heq
         go_upto_region 36 with fail
         rename_i hx
         revert hx
         generalize hQQ : bodyPost Tryz.prog Tryz.f17 (OfQPost w) = QQ
         intro hx
         have HQQ := Lib.hid hQQ
         clear hQQ
         have hfz := fun o => YC.out.frozen o
         have r0 := YC.out.cell 0
         have r1 := YC.out.cell 1
         have r2 := YC.out.cell 2
         have r3 := YC.out.cell 3
         have r4 := YC.out.cell 4
         have r5 := YC.out.cell 5
         have r6 := YC.out.cell 6
         have r7 := YC.out.cell 7
         have hrl := YC.out.lt
         go_wp2_with fail
         rw [← HQQ.out]
         refine bodyPost_ret (results_qi (s := 4) (k := 5) rfl rfl rfl (ex_set YC.out _ _ _ _ _ _ _ _)) rfl (ofq_err _ HER (by have hb := BWC.out; have hs := hb.size; go_grown))
        ·have e1 : (z' == (k : Int)) = false := by simpa using heq
         clear heq
         go_wp2_with fail
         go_roundg (gk - 1)
         case measure => omega
         case rel => exact ⟨m + 1, by first | rfl | (simp; done), by omega, rfl⟩
       ·have hmz : ¬ (m : Int) < (gr.length : Int) := by omega
        obtain ⟨An, cn', w7, hrun, f1, f2, f3, I7⟩ := I2C.out.push (by have := HGR.out; omega) k (below_alloc wc (.cells #[.int .i64 k] 3)) (Blk.new wc 3 _)
        have HRUN := Lib.hid hrun
        have J7 := Lib.hid I7
        clear hrun I7
        go_upto_region 38 with (at_builtin; refine wpList_append_runI _ rfl _ _ 65 65 rfl (.slice GA gr.length u) (.slice (some ⟨wc.heap.size, 0, none⟩) 1 1) rfl rfl HRUN.out ?_)
        clear q4 hf4 hq8 f1 f2 f3 HRUN
        obtain ⟨wz, hwz⟩ : ∃ z, z = w7.setCell ⟨p8, 4, none⟩ (.slice An (gr.length + 1) cn') := ⟨_, rfl⟩
        rw [← hwz] at J7 ⊢
        clear hwz
        have q7 := J7.out.qb.cell 7
        have hf7 := J7.out.qb.frozen 7
        have hq8 := J7.out.qb.lt
        have J8 := Lib.hid (J7.out.setAg true)
        go_wp2_with fail
        go_roundg (gko - 1)
        case measure => omega
        case rel => exact ⟨i' + 1, true, gr ++ [(k : Int)], An, cn', by first | rfl | (simp; done), by omega, Lib.hid (by simp [HGR.out]), J8⟩
     ·have hiz' : ¬ (i' : Int) < (ng : Int) := by omega
      obtain rfl : i' = ng := by omega
      rename World => w7
      have hg9 : gr.length ≤ 1048576 := by have := HGR.out; omega
      have FG := Lib.hid (show CellsIn w7 (fun b => w1.heap.size ≤ b ∧ b ≠ p8) GA gr.length (gr.map (Value.int .i64)) from (own_cells I2.out.gO).keep (fun _ _ _ => rfl) (fun b hb _ => by omega) (Nat.le_refl _))
      have hs67 : w6.heap.size ≤ w7.heap.size := BX.out.size
      have FT7 := Lib.hid (FT.out.keep (fun b hb hl => BX.out.block b hl hb.2) (fun _ hb _ => hb) hs67)
      have FI7 := Lib.hid (FI_.out.keep (fun b hb hl => BX.out.block b hl hb.2) (fun _ hb _ => hb) hs67)
      have FW7 := Lib.hid (FWR.out.keep (fun b hb hl => BX.out.block b hl hb.2) (fun _ hb _ => hb) hs67)
      have Q7 := Lib.hid I2.out.qb
      have Y7 := Lib.hid (BX.out.blk Y6.out (by omega))
      have hp87 : p8 < w7.heap.size := Q7.out.lt
      go_wp2_with fail
      clear z4 hl
      go_loopg [17] no (fun kx s17 wr => ∃ (i2 : Nat) (ag : Bool) (os : List OGiven) (OA : Option Addr) (uo : Nat), s17 = .int .i64 i2 ∧ kx + i2 = no ∧ Hid (os.length = i2) ∧ Hid (L4 t.cols p8 w7 wr tb (.slice T1 ti.length u1) (.slice IA gs.length u2) (.slice WA wn wcap) (.slice GA gr.length u) lim ag os OA uo))
      case atStart => exact ⟨0, ag', [], none, 0, rfl, rfl, Lib.hid rfl, Lib.hid ⟨Bx.refl _ _, hp87, Q7.out, World.ownsRow_nil _ _ _ _, fun g hg => (by cases hg)⟩⟩
      case round =>
       obtain ⟨i2, ag2, os, OA, uo, rfl, hki2, HOL, I4⟩ := hrel
       have hi29 : (i2 : Int) ≤ 51 := by omega
       have hi20 : (0 : Int) ≤ (i2 : Int) := by omega
       have BY := Lib.hid I4.out.old
       have B1x := Lib.hid (BY.out.below B1r.out (by omega) (by omega))
       have ZSx := Lib.hid (BY.out.blk ZS.out (by omega))
       have ZTx := Lib.hid (BY.out.blk ZT.out (by omega))
       have z5 := ZSx.out.cell 5
       have hl := ZSx.out.lt
       by_cases hi2 : i2 < no
       ·have hi2z : (i2 : Int) < (no : Int) := by omega
        obtain ⟨e, he⟩ : ∃ e, ord[i2]? = some e := ⟨_, List.getElem?_eq_getElem (by have := HX.out.at_.order.len; simp only at this; omega)⟩
        have HDE := Lib.hid (HDP.out e.1 (by simp only [St.all, List.mem_append, List.mem_map]; exact .inr ⟨e, List.mem_of_getElem? he, rfl⟩))
        obtain ⟨b, off, Ae, ne, ce, hoa, hb0, hcx, hix, hs7⟩ := HX.out.at_.order.at_ i2 e he
        simp only at hoa
        subst hoa
        have BW := Lib.hid (bt B1x.out B1.out)
        obtain ⟨a0, a1, a2, a3, a4, a5, a6⟩ := hcx.below hb0 BW.out
        have hb := Nat.lt_of_lt_of_le hb0 BW.out.size
        have t0 := ZTx.out.cell 0
        have t1 := ZTx.out.cell 1
        have htl := ZTx.out.lt
        have CI := Lib.hid (fun (W : World) (h : Below wr.heap.size wr W) => ofExpr6 W t.name CA cn cc t.cols (HC.out.below (bt h B1x.out)) (by omega) e.1 Ae ne ce (hix.bel (bt h BW.out)) HDE.out true)
        have HS7 := Lib.hid hs7
        have HB0 := Lib.hid hb0
        clear he hcx hix hs7
        go_upto_region 42 with fail
        go_cut [18, 19] from 176 to 187 (fun s18 s19 wx => ∃ (y : Ex) (A' : Option Addr) (n' c' : Nat) (er : Int) (p : Nat), s18 = .pointer (some ⟨p, 0, none⟩) ∧ s19 = .int .i64 er ∧ Hid (Made wr p y A' n' c' wx) ∧ Hid (er = 0 → Typed t.cols true y ∧ ExIn wx (fun b => wr.heap.size ≤ b) y A' n' c'))
        case first =>
         go_region_law (first | (go_simp; go_at_call 6; refine (CI.out _ (by first | exact below_drew _ | exact bt (below_alloc _ _) (below_drew _) | exact bt (below_drew _) (below_alloc _ _))).mono ?_; rintro e w5 ⟨y, A', n', c', er, rfl, hy, hb5⟩; (first | (have pz := Lib.hid (zero_new hb5.out); have q0 := pz.out.cell 0; have q1 := pz.out.cell 1; have q2 := pz.out.cell 2; have q3 := pz.out.cell 3; have q4 := pz.out.cell 4; have q5 := pz.out.cell 5; have q6 := pz.out.cell 6; have q7 := pz.out.cell 7; have hfz := fun o => pz.out.frozen o) | (have pz := Lib.hid (zero_newd hb5.out); have q0 := pz.out.cell 0; have q1 := pz.out.cell 1; have q2 := pz.out.cell 2; have q3 := pz.out.cell 3; have q4 := pz.out.cell 4; have q5 := pz.out.cell 5; have q6 := pz.out.cell 6; have q7 := pz.out.cell 7; have hfz := fun o => pz.out.frozen o) | skip)))
         all_goals
          go_wp2_with fail
          go_meet
         all_goals first | exact ⟨y, A', n', c', er, _, rfl, rfl, Lib.hid (made_a hb5.out hy.out).1, Lib.hid (made_a hb5.out hy.out).2⟩ | exact ⟨y, A', n', c', er, _, rfl, rfl, Lib.hid (made_b hb5.out hy.out).1, Lib.hid (made_b hb5.out hy.out).2⟩
        case rest =>
         obtain ⟨y, A', n', c', er, pe, rfl, rfl, HM, HY⟩ := hcut
         clear a0 a1 a2 a3 a4 a5 a6 t0 t1 htl z5 hl CI hb
         have IC4 := Lib.hid (I4.out.below HM.out.1)
         have BWC := Lib.hid (bt HM.out.1 (bt B1x.out B1.out))
         have ZSC := Lib.hid (ZSx.out.below HM.out.1)
         by_cases her : er = 0
         rotate_left
         ·have r1' : (er != 0) = true := by simpa using her
          have r2' : (er == 0) = false := by simpa using her
          have HER := Lib.hid her
          have YC := Lib.hid ((BY.out.blk Y7.out (by omega)).below HM.out.1)
          clear her
          go_upto_region 44 with fail
          rename_i hx
          revert hx
          generalize hQQ : bodyPost Tryz.prog Tryz.f17 (OfQPost w) = QQ
          intro hx
          have HQQ := Lib.hid hQQ
          clear hQQ
          have hfz := fun o => YC.out.frozen o
          have r0 := YC.out.cell 0
          have r1 := YC.out.cell 1
          have r2 := YC.out.cell 2
          have r3 := YC.out.cell 3
          have r4 := YC.out.cell 4
          have r5 := YC.out.cell 5
          have r6 := YC.out.cell 6
          have r7 := YC.out.cell 7
          have hrl := YC.out.lt
          go_wp2_with fail
          rw [← HQQ.out]
          refine bodyPost_ret (results_qi (s := 4) (k := 5) rfl rfl rfl (ex_set YC.out _ _ _ _ _ _ _ _)) rfl (ofq_err _ HER (by have hb := BWC.out; have hs := hb.size; go_grown))
         subst her
         have hwx : wr.heap.size ≤ wc.heap.size := HM.out.1.size
         have hws : w7.heap.size ≤ wr.heap.size := BY.out.size
         have HYX := Lib.hid (show ExIn wc (fun b => w7.heap.size ≤ b ∧ some b ≠ (Value.slice OA os.length uo).ownBlock) y A' n' c' from
          (HY.out rfl).2.keep (fun _ _ _ => rfl) (fun b hb _ => ⟨by omega, fun e => by have := (I4.out.oO.lt b e.symm).2; omega⟩) (Nat.le_refl _))
         obtain ⟨An, cn', w8, hrun, f1, f2, f3, fk, J4⟩ := IC4.out.push (by have := HOL.out; omega) e.2 (HY.out rfl).1 HYX.out (bt (below_alloc wc.drew (.cells #[.string y.op, .int .i64 y.kind, .int .i64 y.col, .int .i64 y.val.kind, .int .i64 y.val.int, .string y.val.text, .bool y.val.bool, .slice A' n' c', .bool e.2] 133)) (below_drew wc)) (Blk.new wc.drew 133 _)
         have HRUN := Lib.hid hrun
         have J8 := Lib.hid J4
         have ME8 := Lib.hid (show Blk _ pe 38 _ from (fk pe (by have := HM.out.2.2.1; simp; omega) (by have := HM.out.2.1; omega) (fun e => by have := (I4.out.oO.lt pe e.symm).2; have := HM.out.2.1; omega)).trans ((HM.out.2.2.2.below (below_drew wc)).alloc _))
         have z5 := ZSC.out.cell 5
         have hl := ZSC.out.lt
         have a7 := (BWC.out.cell (p := ⟨b, off + i2 * 8 + 7, none⟩) HB0.out).trans HS7.out
         have hb := Nat.lt_of_lt_of_le HB0.out BWC.out.size
         have q5 := IC4.out.qb.cell 5
         have hq8 := IC4.out.qb.lt
         have e0 := HM.out.2.2.2.cell 0
         have e1 := HM.out.2.2.2.cell 1
         have e2 := HM.out.2.2.2.cell 2
         have e3 := HM.out.2.2.2.cell 3
         have e4 := HM.out.2.2.2.cell 4
         have e5 := HM.out.2.2.2.cell 5
         have e6 := HM.out.2.2.2.cell 6
         have e7 := HM.out.2.2.2.cell 7
         have hme := HM.out.2.2.1
         clear hrun J4
         have hb9 : b < wc.heap.size := hb
         have B9 := Lib.hid (bt (below_alloc wc.drew (.cells #[.string y.op, .int .i64 y.kind, .int .i64 y.col, .int .i64 y.val.kind, .int .i64 y.val.int, .string y.val.text, .bool y.val.bool, .slice A' n' c', .bool e.2] 133)) (below_drew wc))
         have hwo : w.heap.size < wc.heap.size := hl
         have own9 : ∀ x, (Value.slice OA os.length uo).ownBlock = some x → w7.heap.size ≤ x ∧ x < wr.heap.size := I4.out.oO.lt
         have KP := Lib.hid (show ∀ x, x < wc.heap.size → x ≠ p8 → some x ≠ (Value.slice OA os.length uo).ownBlock → w8.heap[x]? = wc.heap[x]? from fun x hx hp hn => by
          have h1 := fk x (by simp; omega) hp hn
          rw [Below.heap_setCell _ _ _ _ hp] at h1
          rw [h1]; exact B9.out.block x hx)
         have hpr : wr.heap.size ≤ pe := HM.out.2.1
         have hbl : b < w.heap.size := HB0.out
         have hS0 : (fun w' : World => w'.cell? ⟨p8, 5, none⟩ = some (.slice OA os.length uo) ∧ w'.cell? ⟨pe, 0, none⟩ = some (.string y.op) ∧ w'.cell? ⟨pe, 1, none⟩ = some (.int .i64 y.kind) ∧ w'.cell? ⟨pe, 2, none⟩ = some (.int .i64 y.col) ∧ w'.cell? ⟨pe, 3, none⟩ = some (.int .i64 y.val.kind) ∧ w'.cell? ⟨pe, 4, none⟩ = some (.int .i64 y.val.int) ∧ w'.cell? ⟨pe, 5, none⟩ = some (.string y.val.text) ∧ w'.cell? ⟨pe, 6, none⟩ = some (.bool y.val.bool) ∧ w'.cell? ⟨pe, 7, none⟩ = some (.slice A' n' c') ∧ w'.cell? ⟨w.heap.size, 5, none⟩ = some (.slice (some ⟨b, off, none⟩) no co) ∧ w'.cell? ⟨b, off + i2 * 8 + 7, none⟩ = some (.bool e.2)) wc.drew := ⟨q5, e0, e1, e2, e3, e4, e5, e6, e7, z5, a7⟩
         have hS1 : (fun w' : World => w'.cell? ⟨p8, 5, none⟩ = some (.slice OA os.length uo) ∧ w'.cell? ⟨pe, 0, none⟩ = some (.string y.op) ∧ w'.cell? ⟨pe, 1, none⟩ = some (.int .i64 y.kind) ∧ w'.cell? ⟨pe, 2, none⟩ = some (.int .i64 y.col) ∧ w'.cell? ⟨pe, 3, none⟩ = some (.int .i64 y.val.kind) ∧ w'.cell? ⟨pe, 4, none⟩ = some (.int .i64 y.val.int) ∧ w'.cell? ⟨pe, 5, none⟩ = some (.string y.val.text) ∧ w'.cell? ⟨pe, 6, none⟩ = some (.bool y.val.bool) ∧ w'.cell? ⟨pe, 7, none⟩ = some (.slice A' n' c') ∧ w'.cell? ⟨w.heap.size, 5, none⟩ = some (.slice (some ⟨b, off, none⟩) no co) ∧ w'.cell? ⟨b, off + i2 * 8 + 7, none⟩ = some (.bool e.2)) (wc.drew.alloc (.cells #[.string y.op, .int .i64 y.kind, .int .i64 y.col, .int .i64 y.val.kind, .int .i64 y.val.int, .string y.val.text, .bool y.val.bool, .slice A' n' c', .bool e.2] 133)) := by
          have k := fun (x o : Nat) (hx : x < wc.heap.size) => B9.out.cell (p := ⟨x, o, none⟩) hx
          exact ⟨(k p8 5 hq8).trans q5, (k pe 0 hme).trans e0, (k pe 1 hme).trans e1, (k pe 2 hme).trans e2, (k pe 3 hme).trans e3, (k pe 4 hme).trans e4, (k pe 5 hme).trans e5, (k pe 6 hme).trans e6, (k pe 7 hme).trans e7, (k _ 5 hwo).trans z5, (k b _ hb9).trans a7⟩
         have hS2 : (fun w' : World => w'.cell? ⟨p8, 5, none⟩ = some (.slice OA os.length uo) ∧ w'.cell? ⟨pe, 0, none⟩ = some (.string y.op) ∧ w'.cell? ⟨pe, 1, none⟩ = some (.int .i64 y.kind) ∧ w'.cell? ⟨pe, 2, none⟩ = some (.int .i64 y.col) ∧ w'.cell? ⟨pe, 3, none⟩ = some (.int .i64 y.val.kind) ∧ w'.cell? ⟨pe, 4, none⟩ = some (.int .i64 y.val.int) ∧ w'.cell? ⟨pe, 5, none⟩ = some (.string y.val.text) ∧ w'.cell? ⟨pe, 6, none⟩ = some (.bool y.val.bool) ∧ w'.cell? ⟨pe, 7, none⟩ = some (.slice A' n' c') ∧ w'.cell? ⟨w.heap.size, 5, none⟩ = some (.slice (some ⟨b, off, none⟩) no co) ∧ w'.cell? ⟨b, off + i2 * 8 + 7, none⟩ = some (.bool e.2)) w8 := by
          have k1 := KP.out pe hme (by omega) (fun h => by have := (own9 pe h.symm).2; omega)
          have k2 := KP.out w.heap.size hwo (by omega) (fun h => by have := (own9 _ h.symm).1; omega)
          have k3 := KP.out b hb9 (by omega) (fun h => by have := (own9 _ h.symm).1; omega)
          have c := fun {x : Nat} (o : Nat) (h : w8.heap[x]? = wc.heap[x]?) => World.cell?_of_block (a := ⟨x, o, none⟩) h
          exact ⟨f1, (c 0 k1).trans e0, (c 1 k1).trans e1, (c 2 k1).trans e2, (c 3 k1).trans e3, (c 4 k1).trans e4, (c 5 k1).trans e5, (c 6 k1).trans e6, (c 7 k1).trans e7, (c 5 k2).trans z5, (c _ k3).trans a7⟩
         clear fk z5 hl a7 hb q5 hq8 e0 e1 e2 e3 e4 e5 e6 e7 hme own9 KP B9 hwx hws hb9 hwo hpr hbl
         go_upto_region 45 with fail
         refine wp_region_noPanic ?_
         refine wp_region_late (fun w' : World => w'.cell? ⟨p8, 5, none⟩ = some (.slice OA os.length uo) ∧ w'.cell? ⟨pe, 0, none⟩ = some (.string y.op) ∧ w'.cell? ⟨pe, 1, none⟩ = some (.int .i64 y.kind) ∧ w'.cell? ⟨pe, 2, none⟩ = some (.int .i64 y.col) ∧ w'.cell? ⟨pe, 3, none⟩ = some (.int .i64 y.val.kind) ∧ w'.cell? ⟨pe, 4, none⟩ = some (.int .i64 y.val.int) ∧ w'.cell? ⟨pe, 5, none⟩ = some (.string y.val.text) ∧ w'.cell? ⟨pe, 6, none⟩ = some (.bool y.val.bool) ∧ w'.cell? ⟨pe, 7, none⟩ = some (.slice A' n' c') ∧ w'.cell? ⟨w.heap.size, 5, none⟩ = some (.slice (some ⟨b, off, none⟩) no co) ∧ w'.cell? ⟨b, off + i2 * 8 + 7, none⟩ = some (.bool e.2)) [13] (by kernel_rfl) ?_
         refine wpAnyL_take 0 191 (v := ?_) rfl rfl (by kernel_rfl) (by kernel_rfl) (by kernel_rfl) (by kernel_rfl) (fun _ _ _ h => h) (by rfl) ?_ hS0 ?_
         rotate_left
         ·(intro w' hSw; obtain ⟨s0, s1, s2, s3, s4, s5, s6, s7, s8, s9, s10⟩ := hSw; go_simp; try with_reducible rfl)
         simp only [List.setIfInBounds_toArray, List.set_cons_zero, List.set_cons_succ]
         refine wpAnyL_take 1 192 (v := ?_) rfl rfl (by kernel_rfl) (by kernel_rfl) (by kernel_rfl) (by kernel_rfl) (fun _ _ _ h => h) (by rfl) ?_ hS0 ?_
         rotate_left
         ·(intro w' hSw; obtain ⟨s0, s1, s2, s3, s4, s5, s6, s7, s8, s9, s10⟩ := hSw; go_simp; try with_reducible rfl)
         simp only [List.setIfInBounds_toArray, List.set_cons_zero, List.set_cons_succ]
         refine wpAnyL_take 2 193 (v := ?_) rfl rfl (by kernel_rfl) (by kernel_rfl) (by kernel_rfl) (by kernel_rfl) (fun _ _ _ h => h) (by rfl) ?_ hS0 ?_
         rotate_left
         ·(intro w' hSw; obtain ⟨s0, s1, s2, s3, s4, s5, s6, s7, s8, s9, s10⟩ := hSw; go_simp; try with_reducible rfl)
         simp only [List.setIfInBounds_toArray, List.set_cons_zero, List.set_cons_succ]
         refine wpAnyL_take 3 194 (v := ?_) rfl rfl (by kernel_rfl) (by kernel_rfl) (by kernel_rfl) (by kernel_rfl) (fun _ _ _ h => h) (by rfl) ?_ hS0 ?_
         rotate_left
         ·(intro w' hSw; obtain ⟨s0, s1, s2, s3, s4, s5, s6, s7, s8, s9, s10⟩ := hSw; go_simp; try with_reducible rfl)
         simp only [List.setIfInBounds_toArray, List.set_cons_zero, List.set_cons_succ]
         refine wpAnyL_take 4 195 (v := ?_) rfl rfl (by kernel_rfl) (by kernel_rfl) (by kernel_rfl) (by kernel_rfl) (fun _ _ _ h => h) (by rfl) ?_ hS0 ?_
         rotate_left
         ·(intro w' hSw; obtain ⟨s0, s1, s2, s3, s4, s5, s6, s7, s8, s9, s10⟩ := hSw; go_simp; try with_reducible rfl)
         simp only [List.setIfInBounds_toArray, List.set_cons_zero, List.set_cons_succ]
         refine wpAnyL_take 5 196 (v := ?_) rfl rfl (by kernel_rfl) (by kernel_rfl) (by kernel_rfl) (by kernel_rfl) (fun _ _ _ h => h) (by rfl) ?_ hS0 ?_
         rotate_left
         ·(intro w' hSw; obtain ⟨s0, s1, s2, s3, s4, s5, s6, s7, s8, s9, s10⟩ := hSw; go_simp; try with_reducible rfl)
         simp only [List.setIfInBounds_toArray, List.set_cons_zero, List.set_cons_succ]
         refine wpAnyL_take 6 197 (v := ?_) rfl rfl (by kernel_rfl) (by kernel_rfl) (by kernel_rfl) (by kernel_rfl) (fun _ _ _ h => h) (by rfl) ?_ hS0 ?_
         rotate_left
         ·(intro w' hSw; obtain ⟨s0, s1, s2, s3, s4, s5, s6, s7, s8, s9, s10⟩ := hSw; go_simp; try with_reducible rfl)
         simp only [List.setIfInBounds_toArray, List.set_cons_zero, List.set_cons_succ]
         refine wpAnyL_take 7 198 (v := ?_) rfl rfl (by kernel_rfl) (by kernel_rfl) (by kernel_rfl) (by kernel_rfl) (fun _ _ _ h => h) (by rfl) ?_ hS0 ?_
         rotate_left
         ·(intro w' hSw; obtain ⟨s0, s1, s2, s3, s4, s5, s6, s7, s8, s9, s10⟩ := hSw; go_simp; try with_reducible rfl)
         simp only [List.setIfInBounds_toArray, List.set_cons_zero, List.set_cons_succ]
         refine wpAnyL_take 8 199 (v := ?_) rfl rfl (by kernel_rfl) (by kernel_rfl) (by kernel_rfl) (by kernel_rfl) (fun _ _ _ h => h) (by rfl) ?_ hS0 ?_
         rotate_left
         ·(intro w' hSw; obtain ⟨s0, s1, s2, s3, s4, s5, s6, s7, s8, s9, s10⟩ := hSw; go_simp; try with_reducible rfl)
         simp only [List.setIfInBounds_toArray, List.set_cons_zero, List.set_cons_succ]
         refine wpAnyL_take 9 200 (v := ?_) rfl rfl (by kernel_rfl) (by kernel_rfl) (by kernel_rfl) (by kernel_rfl) (fun _ _ _ h => h) (by rfl) ?_ hS0 ?_
         rotate_left
         ·(intro w' hSw; obtain ⟨s0, s1, s2, s3, s4, s5, s6, s7, s8, s9, s10⟩ := hSw; go_simp; try with_reducible rfl)
         simp only [List.setIfInBounds_toArray, List.set_cons_zero, List.set_cons_succ]
         refine wpAnyL_val 10 201 (v := .slice (some ⟨wc.heap.size, 0, none⟩) 1 1) (w' := wc.drew.alloc (.cells #[.string y.op, .int .i64 y.kind, .int .i64 y.col, .int .i64 y.val.kind, .int .i64 y.val.int, .string y.val.text, .bool y.val.bool, .slice A' n' c', .bool e.2] 133)) rfl rfl (by kernel_rfl) (by rfl) (by go_simp; try rfl) (.inr hS1) ?_
         simp only [List.setIfInBounds_toArray, List.set_cons_zero, List.set_cons_succ]
         refine wpAnyL_val 11 202 (v := .slice An (os.length + 1) cn') (w' := w8) rfl rfl (by kernel_rfl) (by rfl) (exec_append _ _ 66 66 rfl (.slice OA os.length uo) (.slice (some ⟨wc.heap.size, 0, none⟩) 1 1) rfl rfl HRUN.out) (.inr hS2) ?_
         simp only [List.setIfInBounds_toArray, List.set_cons_zero, List.set_cons_succ]
         refine wpAnyL_val 12 203 (v := .pointer (some ⟨p8, 5, none⟩)) (w' := w8) rfl rfl (by kernel_rfl) (by rfl) (by go_simp; try rfl) (.inr hS2) ?_
         simp only [List.setIfInBounds_toArray, List.set_cons_zero, List.set_cons_succ]
         refine wpAnyL_skip 13 (w' := w8.setCell ⟨p8, 5, none⟩ (.slice An (os.length + 1) cn')) rfl rfl (by kernel_rfl) (by rfl) (by go_simp; try rfl) (.inl (by simp)) ?_
         refine wpAnyL_done (by kernel_rfl) ?_ _
         refine NoPanic.normal ?_
         clear hS0 hS1 hS2 f1 f2 f3 HRUN
         obtain ⟨wz, hwz⟩ : ∃ z, z = w8.setCell ⟨p8, 5, none⟩ (.slice An (os.length + 1) cn') := ⟨_, rfl⟩
         rw [← hwz] at J8 ME8 ⊢
         clear hwz
         have q7 := J8.out.qb.cell 7
         have hf7 := J8.out.qb.frozen 7
         have hq8 := J8.out.qb.lt
         cases ag2 with
         | true =>
          have J9 := Lib.hid (J8.out.setAg true)
          go_wp2_with fail
          go_roundg (gk - 1)
          case measure => omega
          case rel => exact ⟨i2 + 1, true, os ++ [((y, A', n', c'), e.2)], An, cn', by first | rfl | (simp; done), by omega, Lib.hid (by simp [HOL.out]), J9⟩
         | false =>
          have e0 := ME8.out.cell 0
          have e1 := ME8.out.cell 1
          have e2 := ME8.out.cell 2
          have e3 := ME8.out.cell 3
          have e4 := ME8.out.cell 4
          have e5 := ME8.out.cell 5
          have e6 := ME8.out.cell 6
          have e7 := ME8.out.cell 7
          have hme := ME8.out.lt
          have CA9 := Lib.hid (aggregates49 (J8.out.kids ((y, A', n', c'), e.2) (by simp)).2.is wz (Below.refl _ _))
          go_wp2_with fail
          refine CA9.out.mono ?_
          rintro e9 w9 ⟨q, rfl, h9⟩
          have J9 := Lib.hid ((J8.out.below h9.out).setAg q)
          have q7 := (J8.out.below h9.out).qb.cell 7
          have hf7 := (J8.out.below h9.out).qb.frozen 7
          have hq9 := (J8.out.below h9.out).qb.lt
          clear e0 e1 e2 e3 e4 e5 e6 e7 hme
          go_wp2_with fail
          go_roundg (gk - 1)
          case measure => omega
          case rel => exact ⟨i2 + 1, q, os ++ [((y, A', n', c'), e.2)], An, cn', by first | rfl | (simp; done), by omega, Lib.hid (by simp [HOL.out]), J9⟩
       ·have hi2z : ¬ (i2 : Int) < (no : Int) := by omega
        obtain rfl : i2 = no := by omega
        rename World => w8
        have hs78 : w7.heap.size ≤ w8.heap.size := BY.out.size
        have hos9 : os.length ≤ 1048576 := by have := HOL.out; omega
        have FO8 := Lib.hid (show OrdsIn w8 (fun b => w1.heap.size ≤ b ∧ b ≠ p8) OA os.length (os.map fun g => (g.1.1, g.2)) from own_ords I4.out.oO (fun b hb => by have := (I4.out.oO.lt b hb).1; omega) (fun g hg => (I4.out.kids g hg).2.keep (fun _ _ _ => rfl) (fun b hb _ => by have := hb.1; omega) (Nat.le_refl _)))
        have AO := Lib.hid (show ∀ e ∈ os.map (fun g => (g.1.1, g.2)), ArOk e.1 from fun e he => by
         obtain ⟨g, hg, rfl⟩ := List.mem_map.1 he
         exact typed_ar (I4.out.kids g hg).1)
        have FT8 := Lib.hid (FT7.out.keep (fun b hb hl => BY.out.block b hl hb.2) (fun _ hb _ => hb) hs78)
        have FI8 := Lib.hid (FI7.out.keep (fun b hb hl => BY.out.block b hl hb.2) (fun _ hb _ => hb) hs78)
        have FW8 := Lib.hid (FW7.out.keep (fun b hb hl => BY.out.block b hl hb.2) (fun _ hb _ => hb) hs78)
        have FG8 := Lib.hid (FG.out.keep (fun b hb hl => BY.out.block b hl hb.2) (fun _ hb _ => hb) hs78)
        have Q8 := Lib.hid I4.out.qb
        have Y8 := Lib.hid (BY.out.blk Y7.out (by omega))
        have BW8 := Lib.hid (bt B1x.out B1.out)
        have hp88 : p8 < w8.heap.size := Q8.out.lt
        have hti9 : ti.length ≤ 1048576 := by have := HTL.out; omega
        have hgs9 : gs.length ≤ 1048576 := by have := HGL.out; omega
        have CG := Lib.hid (fun a => grouped52 w8 tb T1 ti.length u1 IA gs.length u2 WA wn wcap GA gr.length u OA os.length uo lim a t.name CA cn cc (gs.map (·.1)) FI8.out.is (os.map fun g => (g.1.1, g.2)) FO8.out.is gr (ints_of FG8.out) hgs9 hos9 hg9 hcn)
        clear FT7 FI7 FW7 FG Q7 Y7 FT FI_ FWR
        go_upto_region 47 with fail
        clear z5 hl
        go_cut [218] from 211 to 219 (fun s218 wx => ∃ q : Bool, s218 = .bool q ∧ Hid (Below w8.heap.size w8 wx))
        case first =>
         have zc := Q8.out.cell
         have q0 := zc 0
         have q1 := zc 1
         have q2 := zc 2
         have q3 := zc 3
         have q4 := zc 4
         have q5 := zc 5
         have q6 := zc 6
         have q7 := zc 7
         have t0 := ZTx.out.cell 0
         have t1 := ZTx.out.cell 1
         have htl := ZTx.out.lt
         clear zc
         cases ag2 with
         | false =>
          go_wp2_with fail
          go_meet
          case rel => exact ⟨false, rfl, Lib.hid (Below.refl _ _)⟩
         | true =>
          have CG2 := Lib.hid (CG.out true)
          unfold SomeB at CG2
          go_wp2_with fail
          refine CG2.out.mono ?_
          rintro e9 w9 ⟨q, rfl, h9⟩
          cases q
          ·go_wp2_with fail
           go_meet
           case rel => exact ⟨true, rfl, h9⟩
          ·go_wp2_with fail
           go_meet
           case rel => exact ⟨false, rfl, h9⟩
        case rest =>
        obtain ⟨q, rfl, HB9⟩ := hcut
        clear CG
        rename World => wc
        have BWC := Lib.hid (bt HB9.out BW8.out)
        have YC := Lib.hid (Y8.out.below HB9.out)
        cases q with
        | true =>
         have HER := Lib.hid (show (40 : Int) ≠ 0 by decide)
         go_upto_region 48 with fail
         rename_i hx
         revert hx
         generalize hQQ : bodyPost Tryz.prog Tryz.f17 (OfQPost w) = QQ
         intro hx
         have HQQ := Lib.hid hQQ
         clear hQQ
         have hfz := fun o => YC.out.frozen o
         have r0 := YC.out.cell 0
         have r1 := YC.out.cell 1
         have r2 := YC.out.cell 2
         have r3 := YC.out.cell 3
         have r4 := YC.out.cell 4
         have r5 := YC.out.cell 5
         have r6 := YC.out.cell 6
         have r7 := YC.out.cell 7
         have hrl := YC.out.lt
         go_wp2_with fail
         rw [← HQQ.out]
         refine bodyPost_ret (results_qi (s := 4) (k := 5) rfl rfl rfl (ex_set YC.out _ _ _ _ _ _ _ _)) rfl (ofq_err _ HER (by have hb := BWC.out; have hs := hb.size; go_grown))
        | false =>
         have hs8c : w8.heap.size ≤ wc.heap.size := HB9.out.size
         have QC := Lib.hid (Q8.out.below HB9.out)
         have ZSC := Lib.hid (ZSx.out.below HB9.out)
         have ZTC := Lib.hid (ZTx.out.below HB9.out)
         have FOC := Lib.hid (FO8.out.keep (fun b _ hl => HB9.out.block b hl) (fun _ hb _ => hb) hs8c)
         have FTC := Lib.hid (FT8.out.keep (fun b _ hl => HB9.out.block b hl) (fun _ hb _ => hb) hs8c)
         have FIC := Lib.hid (FI8.out.keep (fun b _ hl => HB9.out.block b hl) (fun _ hb _ => hb) hs8c)
         have FWC := Lib.hid (FW8.out.keep (fun b _ hl => HB9.out.block b hl) (fun _ hb _ => hb) hs8c)
         have FGC := Lib.hid (FG8.out.keep (fun b _ hl => HB9.out.block b hl) (fun _ hb _ => hb) hs8c)
         have B1C := Lib.hid (bt HB9.out B1x.out)
         have hpc : p8 < wc.heap.size := QC.out.lt
         clear FO8 FT8 FI8 FW8 FG8 Q8 Y8 BW8 hp88 hs78
         have z2 := ZSC.out.cell 2
         have hl := ZSC.out.lt
         have t1 := ZTC.out.cell 1
         have htl := ZTC.out.lt
         by_cases hi0 : i = 0
         rotate_left
         ·have QE := Lib.hid (show QuIn wc (fun b => w.heap.size + 2 ≤ b) ⟨ti, gs.map (·.1), lw, gr, os.map fun g => (g.1.1, g.2)⟩ ⟨T1, ti.length, u1, IA, gs.length, u2, WA, wn, wcap, GA, gr.length, u, OA, os.length, uo⟩ from
           ⟨FTC.out.keep (fun _ _ _ => rfl) (fun b hb _ => by have := hb.1; omega) (Nat.le_refl _), FIC.out.keep (fun _ _ _ => rfl) (fun b hb _ => by have := hb.1; omega) (Nat.le_refl _), FWC.out.keep (fun _ _ _ => rfl) (fun b hb _ => by have := hb.1; omega) (Nat.le_refl _), FGC.out.keep (fun _ _ _ => rfl) (fun b hb _ => by have := hb.1; omega) (Nat.le_refl _), FOC.out.keep (fun _ _ _ => rfl) (fun b hb _ => by have := hb.1; omega) (Nat.le_refl _), hti9, hgs9, (show wn ≤ 1048576 by omega), hg9, hos9, AI.out, AO.out⟩)
          have hi1 : ((i : Int) == 0) = false := by simp; omega
          have hi2 : (i == 0) = false := by simp; omega
          have hi3 : ¬ (i : Int) = 0 := by omega
          clear FTC FIC FWC FGC FOC hi0
          go_wp2_with fail
          refine wp_loop_rounds 1 ?_
          rw [rounds_succ]
          rcases Nat.eq_zero_or_pos cn with hcn0 | hcn0
          ·subst hcn0
           go_upto_region 54 with fail
           rename_i hx
           revert hx
           generalize hQQ : bodyPost Tryz.prog Tryz.f17 (OfQPost w) = QQ
           intro hx
           have HQQ := Lib.hid hQQ
           clear hQQ
           have zc := QC.out.cell
           have q0 := zc 0
           have q1 := zc 1
           have q2 := zc 2
           have q3 := zc 3
           have q4 := zc 4
           have q5 := zc 5
           have q6 := zc 6
           have q7 := zc 7
           have hfz := fun o => YC.out.frozen o
           have r0 := YC.out.cell 0
           have r1 := YC.out.cell 1
           have r2 := YC.out.cell 2
           have r3 := YC.out.cell 3
           have r4 := YC.out.cell 4
           have r5 := YC.out.cell 5
           have r6 := YC.out.cell 6
           have r7 := YC.out.cell 7
           have hrl := YC.out.lt
           clear zc
           go_wp2_with fail
           rw [← HQQ.out]
           refine bodyPost_ret (results_qi (s := 4) (k := 5) rfl rfl rfl (ex_set YC.out _ _ _ _ _ _ _ _)) rfl (ofq_fin QE.out BWC.out hrl _ _ _ _ _ _ _ _)
          ·have hcn1 : (0 : Int) < (cn : Int) := by omega
           go_upto_region 54 with fail
           rename_i hx
           revert hx
           generalize hQQ : bodyPost Tryz.prog Tryz.f17 (OfQPost w) = QQ
           intro hx
           have HQQ := Lib.hid hQQ
           clear hQQ
           have zc := QC.out.cell
           have q0 := zc 0
           have q1 := zc 1
           have q2 := zc 2
           have q3 := zc 3
           have q4 := zc 4
           have q5 := zc 5
           have q6 := zc 6
           have q7 := zc 7
           have hfz := fun o => YC.out.frozen o
           have r0 := YC.out.cell 0
           have r1 := YC.out.cell 1
           have r2 := YC.out.cell 2
           have r3 := YC.out.cell 3
           have r4 := YC.out.cell 4
           have r5 := YC.out.cell 5
           have r6 := YC.out.cell 6
           have r7 := YC.out.cell 7
           have hrl := YC.out.lt
           clear zc
           go_wp2_with fail
           rw [← HQQ.out]
           refine bodyPost_ret (results_qi (s := 4) (k := 5) rfl rfl rfl (ex_set YC.out _ _ _ _ _ _ _ _)) rfl (ofq_fin QE.out BWC.out hrl _ _ _ _ _ _ _ _)
         ·subst hi0
          obtain ⟨rfl, rfl, rfl, rfl⟩ := H0.out rfl
          obtain rfl : ti = [] := List.eq_nil_of_length_eq_zero HTL.out
          obtain rfl : gs = [] := List.eq_nil_of_length_eq_zero HGL.out
          have LZ := Lib.hid (show L1 t.cols p8 wc wc tb (.slice WA wn wcap) (.slice GA gr.length u) (.slice OA os.length uo) lim ag2 [] none 0 [] none 0 from ⟨Bx.refl _ _, hpc, QC.out, World.ownsRow_nil _ _ _ _, World.ownsRow_nil _ _ _ _, (fun k hk => by cases hk), (fun g hg => by cases hg)⟩)
          clear FTC FIC
          go_wp2_with fail
          go_loopg [20] cn (fun kx s20 wr => ∃ (i5 : Nat) (ti : List ByteArray) (T1 : Option Addr) (u1 : Nat) (gs : List Given) (IA : Option Addr) (u2 : Nat), s20 = .int .i64 i5 ∧ kx + i5 = cn ∧ Hid (ti.length = i5) ∧ Hid (gs.length = i5) ∧ Hid (L1 t.cols p8 wc wr tb (.slice WA wn wcap) (.slice GA gr.length u) (.slice OA os.length uo) lim ag2 ti T1 u1 gs IA u2))
          case atStart => exact ⟨0, [], none, 0, [], none, 0, rfl, rfl, Lib.hid rfl, Lib.hid rfl, LZ⟩
          case round =>
           obtain ⟨i5, ti, T1, u1, gs, IA, u2, rfl, hk5, HTL5, HGL5, I5⟩ := hrel
           have hi59 : (i5 : Int) ≤ 1048576 := by omega
           have hi50 : (0 : Int) ≤ (i5 : Int) := by omega
           have BZ := Lib.hid I5.out.old
           have hszr : wc.heap.size ≤ wr.heap.size := BZ.out.size
           have B1z := Lib.hid (BZ.out.below B1C.out (by omega) (by omega))
           have ZSz := Lib.hid (BZ.out.blk ZSC.out (by omega))
           have ZTz := Lib.hid (BZ.out.blk ZTC.out (by omega))
           have z2 := ZSz.out.cell 2
           have hl := ZSz.out.lt
           have t1 := ZTz.out.cell 1
           have htl := ZTz.out.lt
           by_cases hi5 : i5 < cn
           ·have hi5z : (i5 : Int) < (cn : Int) := by omega
            obtain ⟨c, hc⟩ : ∃ c, t.cols[i5]? = some c := ⟨_, List.getElem?_eq_getElem (by rw [HC.out.len]; exact hi5)⟩
            obtain ⟨b, off, rfl, hb0, k0, k1, -, -⟩ := HC.out.at_ i5 c hc
            have x0 := (B1z.out.cell (p := ⟨b, off + i5 * 4, none⟩) hb0).trans k0
            have x1 := (B1z.out.cell (p := ⟨b, off + i5 * 4 + 1, none⟩) hb0).trans k1
            have hb1 : w1.heap.size ≤ wr.heap.size := B1z.out.size
            have hbr : b < wr.heap.size := by omega
            obtain ⟨An, cn', wv, hrun, f1, f2, f3, fk, J4⟩ := I5.out.pushI (by have := HGL5.out; omega) (e := .mk ⟨#[99, 111, 108]⟩ c.kind i5 Val.null []) (Ae := none) (ne := 0) (ce := 0) (.mk true _ _ _ _ _ (.inr (.inr (.inl ⟨rfl, rfl, i5, c, rfl, hc, rfl⟩))) (fun j e h => by simp at h))
             (.mk _ _ _ _ _ none 0 0 rfl (by unfold TB; omega) (by unfold TB; simp [Val.null, ByteArray.size]) 0 0 (fun h => absurd h (Nat.lt_irrefl 0)) (fun _ => none) (fun _ => 0) (fun _ => 0) (fun j e h => by simp at h) (fun j e h => by simp at h))
             (bt (below_alloc wr.drew (.cells #[.string ⟨#[99, 111, 108]⟩, .int .i64 c.kind, .int .i64 (i5 : Int), .int .i64 0, .int .i64 0, .string ⟨#[]⟩, .bool false, .slice none 0 0] 38)) (below_drew wr)) (Blk.new wr.drew 38 _)
            have HRUN := Lib.hid hrun
            have J5 := Lib.hid J4
            have B9 := Lib.hid (bt (below_alloc wr.drew (.cells #[.string ⟨#[99, 111, 108]⟩, .int .i64 c.kind, .int .i64 (i5 : Int), .int .i64 0, .int .i64 0, .string ⟨#[]⟩, .bool false, .slice none 0 0] 38)) (below_drew wr))
            have own9 : ∀ x, (Value.slice IA gs.length u2).ownBlock = some x → wc.heap.size ≤ x ∧ x < wr.heap.size := I5.out.iO.lt
            have KP := Lib.hid (show ∀ x, x < wr.heap.size → x ≠ p8 → some x ≠ (Value.slice IA gs.length u2).ownBlock → wv.heap[x]? = wr.heap[x]? from fun x hx hp hn => by
             have h1 := fk x (by simp; omega) hp hn
             rw [Below.heap_setCell _ _ _ _ hp] at h1
             rw [h1]; exact B9.out.block x hx)
            have q2 := I5.out.qb.cell 2
            have hq8 := I5.out.qb.lt
            have hS0 : (fun w' : World => w'.cell? ⟨p8, 2, none⟩ = some (.slice IA gs.length u2) ∧ w'.cell? ⟨p6, 1, none⟩ = some (.slice (some ⟨b, off, none⟩) cn cc) ∧ w'.cell? ⟨b, off + i5 * 4 + 1, none⟩ = some (.int .i64 c.kind)) wr.drew := ⟨q2, t1, x1⟩
            have hS1 : (fun w' : World => w'.cell? ⟨p8, 2, none⟩ = some (.slice IA gs.length u2) ∧ w'.cell? ⟨p6, 1, none⟩ = some (.slice (some ⟨b, off, none⟩) cn cc) ∧ w'.cell? ⟨b, off + i5 * 4 + 1, none⟩ = some (.int .i64 c.kind)) (wr.drew.alloc (.cells #[.string ⟨#[99, 111, 108]⟩, .int .i64 c.kind, .int .i64 (i5 : Int), .int .i64 0, .int .i64 0, .string ⟨#[]⟩, .bool false, .slice none 0 0] 38)) := by
             have k := fun (x o : Nat) (hx : x < wr.heap.size) => B9.out.cell (p := ⟨x, o, none⟩) hx
             exact ⟨(k p8 2 hq8).trans q2, (k p6 1 htl).trans t1, (k b _ hbr).trans x1⟩
            have hS2 : (fun w' : World => w'.cell? ⟨p8, 2, none⟩ = some (.slice IA gs.length u2) ∧ w'.cell? ⟨p6, 1, none⟩ = some (.slice (some ⟨b, off, none⟩) cn cc) ∧ w'.cell? ⟨b, off + i5 * 4 + 1, none⟩ = some (.int .i64 c.kind)) wv := by
             have k2 := KP.out p6 htl (by omega) (fun h => by have := (own9 _ h.symm).1; omega)
             have k3 := KP.out b hbr (by omega) (fun h => by have := (own9 _ h.symm).1; omega)
             have c := fun {x : Nat} (o : Nat) (h : wv.heap[x]? = wr.heap[x]?) => World.cell?_of_block (a := ⟨x, o, none⟩) h
             exact ⟨f1, (c 1 k2).trans t1, (c _ k3).trans x1⟩
            have HB0 := Lib.hid hb0
            have HK0 := Lib.hid k0
            clear fk hrun J4 own9 KP B9 x0 k0 k1 hc hb0
            go_upto_region 52 with fail
            clear q2 hq8 t1 htl x1 z2 hl
            refine wp_region_noPanic ?_
            refine wp_region_late (fun w' : World => w'.cell? ⟨p8, 2, none⟩ = some (.slice IA gs.length u2) ∧ w'.cell? ⟨p6, 1, none⟩ = some (.slice (some ⟨b, off, none⟩) cn cc) ∧ w'.cell? ⟨b, off + i5 * 4 + 1, none⟩ = some (.int .i64 c.kind)) [13] (by kernel_rfl) ?_
            refine wpAnyL_take 0 233 (v := ?_) rfl rfl (by kernel_rfl) (by kernel_rfl) (by kernel_rfl) (by kernel_rfl) (fun _ _ _ h => h) (by rfl) ?_ hS0 ?_
            rotate_left
            ·(intro w' hSw; obtain ⟨s0, s1, s2⟩ := hSw; go_simp; try with_reducible rfl)
            simp only [List.setIfInBounds_toArray, List.set_cons_zero, List.set_cons_succ]
            refine wpAnyL_take 1 234 (v := ?_) rfl rfl (by kernel_rfl) (by kernel_rfl) (by kernel_rfl) (by kernel_rfl) (fun _ _ _ h => h) (by rfl) ?_ hS0 ?_
            rotate_left
            ·(intro w' hSw; obtain ⟨s0, s1, s2⟩ := hSw; go_simp; try with_reducible rfl)
            simp only [List.setIfInBounds_toArray, List.set_cons_zero, List.set_cons_succ]
            refine wpAnyL_take 2 235 (v := ?_) rfl rfl (by kernel_rfl) (by kernel_rfl) (by kernel_rfl) (by kernel_rfl) (fun _ _ _ h => h) (by rfl) ?_ hS0 ?_
            rotate_left
            ·(intro w' hSw; obtain ⟨s0, s1, s2⟩ := hSw; go_simp; try with_reducible rfl)
            simp only [List.setIfInBounds_toArray, List.set_cons_zero, List.set_cons_succ]
            refine wpAnyL_take 3 236 (v := ?_) rfl rfl (by kernel_rfl) (by kernel_rfl) (by kernel_rfl) (by kernel_rfl) (fun _ _ _ h => h) (by rfl) ?_ hS0 ?_
            rotate_left
            ·(intro w' hSw; obtain ⟨s0, s1, s2⟩ := hSw; go_simp; try with_reducible rfl)
            simp only [List.setIfInBounds_toArray, List.set_cons_zero, List.set_cons_succ]
            refine wpAnyL_take 4 237 (v := ?_) rfl rfl (by kernel_rfl) (by kernel_rfl) (by kernel_rfl) (by kernel_rfl) (fun _ _ _ h => h) (by rfl) ?_ hS0 ?_
            rotate_left
            ·(intro w' hSw; obtain ⟨s0, s1, s2⟩ := hSw; go_simp; try with_reducible rfl)
            simp only [List.setIfInBounds_toArray, List.set_cons_zero, List.set_cons_succ]
            refine wpAnyL_take 5 238 (v := ?_) rfl rfl (by kernel_rfl) (by kernel_rfl) (by kernel_rfl) (by kernel_rfl) (fun _ _ _ h => h) (by rfl) ?_ hS0 ?_
            rotate_left
            ·(intro w' hSw; obtain ⟨s0, s1, s2⟩ := hSw; go_simp; try with_reducible rfl)
            simp only [List.setIfInBounds_toArray, List.set_cons_zero, List.set_cons_succ]
            refine wpAnyL_take 6 239 (v := ?_) rfl rfl (by kernel_rfl) (by kernel_rfl) (by kernel_rfl) (by kernel_rfl) (fun _ _ _ h => h) (by rfl) ?_ hS0 ?_
            rotate_left
            ·(intro w' hSw; obtain ⟨s0, s1, s2⟩ := hSw; go_simp; try with_reducible rfl)
            simp only [List.setIfInBounds_toArray, List.set_cons_zero, List.set_cons_succ]
            refine wpAnyL_take 7 240 (v := ?_) rfl rfl (by kernel_rfl) (by kernel_rfl) (by kernel_rfl) (by kernel_rfl) (fun _ _ _ h => h) (by rfl) ?_ hS0 ?_
            rotate_left
            ·(intro w' hSw; obtain ⟨s0, s1, s2⟩ := hSw; go_simp; try with_reducible rfl)
            simp only [List.setIfInBounds_toArray, List.set_cons_zero, List.set_cons_succ]
            refine wpAnyL_take 8 241 (v := ?_) rfl rfl (by kernel_rfl) (by kernel_rfl) (by kernel_rfl) (by kernel_rfl) (fun _ _ _ h => h) (by rfl) ?_ hS0 ?_
            rotate_left
            ·(intro w' hSw; obtain ⟨s0, s1, s2⟩ := hSw; go_simp; try with_reducible rfl)
            simp only [List.setIfInBounds_toArray, List.set_cons_zero, List.set_cons_succ]
            refine wpAnyL_take 9 242 (v := ?_) rfl rfl (by kernel_rfl) (by kernel_rfl) (by kernel_rfl) (by kernel_rfl) (fun _ _ _ h => h) (by rfl) ?_ hS0 ?_
            rotate_left
            ·(intro w' hSw; obtain ⟨s0, s1, s2⟩ := hSw; go_simp; try with_reducible rfl)
            simp only [List.setIfInBounds_toArray, List.set_cons_zero, List.set_cons_succ]
            refine wpAnyL_val 10 243 (v := .slice (some ⟨wr.heap.size, 0, none⟩) 1 1) (w' := wr.drew.alloc (.cells #[.string ⟨#[99, 111, 108]⟩, .int .i64 c.kind, .int .i64 (i5 : Int), .int .i64 0, .int .i64 0, .string ⟨#[]⟩, .bool false, .slice none 0 0] 38)) rfl rfl (by kernel_rfl) (by rfl) (by go_simp; try rfl) (.inr hS1) ?_
            simp only [List.setIfInBounds_toArray, List.set_cons_zero, List.set_cons_succ]
            refine wpAnyL_val 11 244 (v := .slice An (gs.length + 1) cn') (w' := wv) rfl rfl (by kernel_rfl) (by rfl) (exec_append _ _ 36 36 rfl (.slice IA gs.length u2) (.slice (some ⟨wr.heap.size, 0, none⟩) 1 1) rfl rfl HRUN.out) (.inr hS2) ?_
            simp only [List.setIfInBounds_toArray, List.set_cons_zero, List.set_cons_succ]
            refine wpAnyL_val 12 245 (v := .pointer (some ⟨p8, 2, none⟩)) (w' := wv) rfl rfl (by kernel_rfl) (by rfl) (by go_simp; try rfl) (.inr hS2) ?_
            simp only [List.setIfInBounds_toArray, List.set_cons_zero, List.set_cons_succ]
            refine wpAnyL_skip 13 (w' := wv.setCell ⟨p8, 2, none⟩ (.slice An (gs.length + 1) cn')) rfl rfl (by kernel_rfl) (by rfl) (by go_simp; try rfl) (.inl (by simp)) ?_
            refine wpAnyL_done (by kernel_rfl) ?_ _
            refine NoPanic.normal ?_
            clear hS0 hS1 hS2 f1 f2 f3 HRUN
            obtain ⟨wz, hwz⟩ : ∃ z, z = wv.setCell ⟨p8, 2, none⟩ (.slice An (gs.length + 1) cn') := ⟨_, rfl⟩
            rw [← hwz] at J5 ⊢
            clear hwz
            have BY5 := Lib.hid J5.out.old
            have B1y := Lib.hid (BY5.out.below B1C.out (by omega) (by omega))
            have hszy : wc.heap.size ≤ wz.heap.size := BY5.out.size
            have hb1y : w1.heap.size ≤ wz.heap.size := B1y.out.size
            have hbz : b < wz.heap.size := by have := HB0.out; omega
            have t1 := (BY5.out.blk ZTC.out (by omega)).cell 1
            have htl := (BY5.out.blk ZTC.out (by omega)).lt
            have x0 := (B1y.out.cell (p := ⟨b, off + i5 * 4, none⟩) HB0.out).trans HK0.out
            have hb1 : b < w1.heap.size := HB0.out
            obtain ⟨Bn, dn, wv, hrun, f1, f2, f3, fk, J6⟩ := J5.out.pushT (by have := HTL5.out; omega) c.name (bt (below_alloc wz.drew (.cells #[.string c.name] 9)) (below_drew wz)) (Blk.new wz.drew 9 _)
            have HRUN := Lib.hid hrun
            have J7 := Lib.hid J6
            have B9 := Lib.hid (bt (below_alloc wz.drew (.cells #[.string c.name] 9)) (below_drew wz))
            have own9 : ∀ x, (Value.slice T1 ti.length u1).ownBlock = some x → wc.heap.size ≤ x ∧ x < wz.heap.size := J5.out.tO.lt
            have KP := Lib.hid (show ∀ x, x < wz.heap.size → x ≠ p8 → some x ≠ (Value.slice T1 ti.length u1).ownBlock → wv.heap[x]? = wz.heap[x]? from fun x hx hp hn => by
             have h1 := fk x (by simp; omega) hp hn
             rw [Below.heap_setCell _ _ _ _ hp] at h1
             rw [h1]; exact B9.out.block x hx)
            have q1 := J5.out.qb.cell 1
            have hq8 := J5.out.qb.lt
            have hS0 : (fun w' : World => w'.cell? ⟨p8, 1, none⟩ = some (.slice T1 ti.length u1) ∧ w'.cell? ⟨p6, 1, none⟩ = some (.slice (some ⟨b, off, none⟩) cn cc) ∧ w'.cell? ⟨b, off + i5 * 4, none⟩ = some (.string c.name)) wz.drew := ⟨q1, t1, x0⟩
            have hS1 : (fun w' : World => w'.cell? ⟨p8, 1, none⟩ = some (.slice T1 ti.length u1) ∧ w'.cell? ⟨p6, 1, none⟩ = some (.slice (some ⟨b, off, none⟩) cn cc) ∧ w'.cell? ⟨b, off + i5 * 4, none⟩ = some (.string c.name)) (wz.drew.alloc (.cells #[.string c.name] 9)) := by
             have k := fun (x o : Nat) (hx : x < wz.heap.size) => B9.out.cell (p := ⟨x, o, none⟩) hx
             exact ⟨(k p8 1 hq8).trans q1, (k p6 1 htl).trans t1, (k b _ hbz).trans x0⟩
            have hS2 : (fun w' : World => w'.cell? ⟨p8, 1, none⟩ = some (.slice T1 ti.length u1) ∧ w'.cell? ⟨p6, 1, none⟩ = some (.slice (some ⟨b, off, none⟩) cn cc) ∧ w'.cell? ⟨b, off + i5 * 4, none⟩ = some (.string c.name)) wv := by
             have k2 := KP.out p6 htl (by omega) (fun h => by have := (own9 _ h.symm).1; omega)
             have k3 := KP.out b hbz (by omega) (fun h => by have := (own9 _ h.symm).1; omega)
             have c := fun {x : Nat} (o : Nat) (h : wv.heap[x]? = wz.heap[x]?) => World.cell?_of_block (a := ⟨x, o, none⟩) h
             exact ⟨f1, (c 1 k2).trans t1, (c _ k3).trans x0⟩
            clear fk hrun J6 own9 KP B9 x0
            go_upto_region 53 with fail
            clear q1 hq8 t1 htl
            refine wp_region_noPanic ?_
            refine wp_region_late (fun w' : World => w'.cell? ⟨p8, 1, none⟩ = some (.slice T1 ti.length u1) ∧ w'.cell? ⟨p6, 1, none⟩ = some (.slice (some ⟨b, off, none⟩) cn cc) ∧ w'.cell? ⟨b, off + i5 * 4, none⟩ = some (.string c.name)) [11] (by kernel_rfl) ?_
            refine wpAnyL_take 0 246 (v := ?_) rfl rfl (by kernel_rfl) (by kernel_rfl) (by kernel_rfl) (by kernel_rfl) (fun _ _ _ h => h) (by rfl) ?_ hS0 ?_
            rotate_left
            ·(intro w' hSw; obtain ⟨s0, s1, s2⟩ := hSw; go_simp; try with_reducible rfl)
            simp only [List.setIfInBounds_toArray, List.set_cons_zero, List.set_cons_succ]
            refine wpAnyL_take 1 247 (v := ?_) rfl rfl (by kernel_rfl) (by kernel_rfl) (by kernel_rfl) (by kernel_rfl) (fun _ _ _ h => h) (by rfl) ?_ hS0 ?_
            rotate_left
            ·(intro w' hSw; obtain ⟨s0, s1, s2⟩ := hSw; go_simp; try with_reducible rfl)
            simp only [List.setIfInBounds_toArray, List.set_cons_zero, List.set_cons_succ]
            refine wpAnyL_take 2 248 (v := ?_) rfl rfl (by kernel_rfl) (by kernel_rfl) (by kernel_rfl) (by kernel_rfl) (fun _ _ _ h => h) (by rfl) ?_ hS0 ?_
            rotate_left
            ·(intro w' hSw; obtain ⟨s0, s1, s2⟩ := hSw; go_simp; try with_reducible rfl)
            simp only [List.setIfInBounds_toArray, List.set_cons_zero, List.set_cons_succ]
            refine wpAnyL_take 3 249 (v := ?_) rfl rfl (by kernel_rfl) (by kernel_rfl) (by kernel_rfl) (by kernel_rfl) (fun _ _ _ h => h) (by rfl) ?_ hS0 ?_
            rotate_left
            ·(intro w' hSw; obtain ⟨s0, s1, s2⟩ := hSw; go_simp; try with_reducible rfl)
            simp only [List.setIfInBounds_toArray, List.set_cons_zero, List.set_cons_succ]
            refine wpAnyL_take 4 250 (v := ?_) rfl rfl (by kernel_rfl) (by kernel_rfl) (by kernel_rfl) (by kernel_rfl) (fun _ _ _ h => h) (by rfl) ?_ hS0 ?_
            rotate_left
            ·(intro w' hSw; obtain ⟨s0, s1, s2⟩ := hSw; go_simp; try with_reducible rfl)
            simp only [List.setIfInBounds_toArray, List.set_cons_zero, List.set_cons_succ]
            refine wpAnyL_take 5 251 (v := ?_) rfl rfl (by kernel_rfl) (by kernel_rfl) (by kernel_rfl) (by kernel_rfl) (fun _ _ _ h => h) (by rfl) ?_ hS0 ?_
            rotate_left
            ·(intro w' hSw; obtain ⟨s0, s1, s2⟩ := hSw; go_simp; try with_reducible rfl)
            simp only [List.setIfInBounds_toArray, List.set_cons_zero, List.set_cons_succ]
            refine wpAnyL_take 6 252 (v := ?_) rfl rfl (by kernel_rfl) (by kernel_rfl) (by kernel_rfl) (by kernel_rfl) (fun _ _ _ h => h) (by rfl) ?_ hS0 ?_
            rotate_left
            ·(intro w' hSw; obtain ⟨s0, s1, s2⟩ := hSw; go_simp; try with_reducible rfl)
            simp only [List.setIfInBounds_toArray, List.set_cons_zero, List.set_cons_succ]
            refine wpAnyL_take 7 253 (v := ?_) rfl rfl (by kernel_rfl) (by kernel_rfl) (by kernel_rfl) (by kernel_rfl) (fun _ _ _ h => h) (by rfl) ?_ hS0 ?_
            rotate_left
            ·(intro w' hSw; obtain ⟨s0, s1, s2⟩ := hSw; go_simp; try with_reducible rfl)
            simp only [List.setIfInBounds_toArray, List.set_cons_zero, List.set_cons_succ]
            refine wpAnyL_val 8 254 (v := .slice (some ⟨wz.heap.size, 0, none⟩) 1 1) (w' := wz.drew.alloc (.cells #[.string c.name] 9)) rfl rfl (by kernel_rfl) (by rfl) (by go_simp; try rfl) (.inr hS1) ?_
            simp only [List.setIfInBounds_toArray, List.set_cons_zero, List.set_cons_succ]
            refine wpAnyL_val 9 255 (v := .slice Bn (ti.length + 1) dn) (w' := wv) rfl rfl (by kernel_rfl) (by rfl) (exec_append _ _ 33 33 rfl (.slice T1 ti.length u1) (.slice (some ⟨wz.heap.size, 0, none⟩) 1 1) rfl rfl HRUN.out) (.inr hS2) ?_
            simp only [List.setIfInBounds_toArray, List.set_cons_zero, List.set_cons_succ]
            refine wpAnyL_val 10 256 (v := .pointer (some ⟨p8, 1, none⟩)) (w' := wv) rfl rfl (by kernel_rfl) (by rfl) (by go_simp; try rfl) (.inr hS2) ?_
            simp only [List.setIfInBounds_toArray, List.set_cons_zero, List.set_cons_succ]
            refine wpAnyL_skip 11 (w' := wv.setCell ⟨p8, 1, none⟩ (.slice Bn (ti.length + 1) dn)) rfl rfl (by kernel_rfl) (by rfl) (by go_simp; try rfl) (.inl (by simp)) ?_
            refine wpAnyL_done (by kernel_rfl) ?_ _
            refine NoPanic.normal ?_
            clear hS0 hS1 hS2 f1 f2 f3 HRUN
            obtain ⟨wy, hwy⟩ : ∃ z, z = wv.setCell ⟨p8, 1, none⟩ (.slice Bn (ti.length + 1) dn) := ⟨_, rfl⟩
            rw [← hwy] at J7 ⊢
            clear hwy
            go_wp2_with fail
            go_roundg (gk - 1)
            case measure => omega
            case rel => exact ⟨i5 + 1, ti ++ [c.name], Bn, dn, gs ++ [(.mk ⟨#[99, 111, 108]⟩ c.kind i5 Val.null [], none, 0, 0)], An, cn', by first | rfl | (simp; done), by omega, Lib.hid (by simp [HTL5.out]), Lib.hid (by simp [HGL5.out]), J7⟩
           ·have hi5z : ¬ (i5 : Int) < (cn : Int) := by omega
            have hti9 : ti.length ≤ 1048576 := by have := HTL5.out; omega
            have hgs9 : gs.length ≤ 1048576 := by have := HGL5.out; omega
            have QE := Lib.hid (show QuIn wr (fun b => w.heap.size + 2 ≤ b) ⟨ti, gs.map (·.1), lw, gr, os.map fun g => (g.1.1, g.2)⟩ ⟨T1, ti.length, u1, IA, gs.length, u2, WA, wn, wcap, GA, gr.length, u, OA, os.length, uo⟩ from
             ⟨(own_cells I5.out.tO).keep (fun _ _ _ => rfl) (fun b hb _ => by omega) (Nat.le_refl _), own_exs I5.out.iO (fun b hb => by have := (I5.out.iO.lt b hb).1; omega) (fun g hg => (I5.out.kids g hg).2.keep (fun _ _ _ => rfl) (fun b hb _ => by have := hb.1; omega) (Nat.le_refl _)), FWC.out.keep (fun b hb hl => BZ.out.block b hl hb.2) (fun b hb _ => by have := hb.1; omega) hszr, FGC.out.keep (fun b hb hl => BZ.out.block b hl hb.2) (fun b hb _ => by have := hb.1; omega) hszr, FOC.out.keep (fun b hb hl => BZ.out.block b hl hb.2) (fun b hb _ => by have := hb.1; omega) hszr, hti9, hgs9, (show wn ≤ 1048576 by omega), hg9, hos9, (fun e he => by
              obtain ⟨g, hg, rfl⟩ := List.mem_map.1 he
              exact typed_ar (I5.out.kids g hg).1), AO.out⟩)
            have QC := Lib.hid I5.out.qb
            have YC := Lib.hid (BZ.out.blk YC.out (by omega))
            have BWC := Lib.hid (bt B1z.out B1.out)
            clear FWC FGC FOC
            go_upto_region 54 with fail
            rename_i hx
            revert hx
            generalize hQQ : bodyPost Tryz.prog Tryz.f17 (OfQPost w) = QQ
            intro hx
            have HQQ := Lib.hid hQQ
            clear hQQ
            have zc := QC.out.cell
            have q0 := zc 0
            have q1 := zc 1
            have q2 := zc 2
            have q3 := zc 3
            have q4 := zc 4
            have q5 := zc 5
            have q6 := zc 6
            have q7 := zc 7
            have hfz := fun o => YC.out.frozen o
            have r0 := YC.out.cell 0
            have r1 := YC.out.cell 1
            have r2 := YC.out.cell 2
            have r3 := YC.out.cell 3
            have r4 := YC.out.cell 4
            have r5 := YC.out.cell 5
            have r6 := YC.out.cell 6
            have r7 := YC.out.cell 7
            have hrl := YC.out.lt
            clear zc
            go_wp2_with fail
            rw [← HQQ.out]
            refine bodyPost_ret (results_qi (s := 4) (k := 5) rfl rfl rfl (ex_set YC.out _ _ _ _ _ _ _ _)) rfl (ofq_fin QE.out BWC.out hrl _ _ _ _ _ _ _ _)

end Go.Proofs.YtbcmmecilheicaaGreatDoor
