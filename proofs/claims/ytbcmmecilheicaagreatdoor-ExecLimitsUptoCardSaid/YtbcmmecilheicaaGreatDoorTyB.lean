/- The document's check of an expression: the walk. The document's check of an expression, whole: of, OfExpr. -/
import Derived.Test.YtbcmmecilheicaaGreatDoorTyA

/- The document's check of an expression: the walk. -/
namespace Go.Proofs.YtbcmmecilheicaaGreatDoor
open Go Go.RowKit

set_option maxRecDepth 100000 in
set_option maxHeartbeats 16000000 in
theorem of35_mk (w : World) (tn : ByteArray) (CA : Option Addr) (cn cc : Nat) (cols : List Col) (hc : ColsAt w CA cn cols) (hcn : cn ≤ 1466015503701) (op : ByteArray) (v : Val) (name : ByteArray) (args : List PEx) (A : Option Addr) (n c : Nat) (len : args.length = n) (small : n ≤ 1466015503701) (t1 : v.text.size ≤ TB) (b off : Nat) (hA : 0 < n → A = some ⟨b, off, none⟩ ∧ b < w.heap.size)
  (As : Nat → Option Addr) (ns cs : Nat → Nat) (cells : ∀ (j : Nat) (e : PEx), args[j]? = some e → PExC w b (off + j * 7) e (As j) (ns j) (cs j))
  (ar : (args.length = 0 ∧ Among op opsN) ∨ (args.length = 1 ∧ Among op opsO) ∨ (args.length = 2 ∧ Among op opsT)) (hv : validV v) (wh : Int) (hwh : wh = 0 ∨ wh = 1 ∨ wh = 2)
  (ih : ∀ (j : Nat) (e : PEx), args[j]? = some e → ∀ wh : Int, (wh = 0 ∨ wh = 1 ∨ wh = 2) → ∀ W, Below w.heap.size w W → Calls Tryz.prog 35 #[.agg #[.string tn, .slice CA cn cc], .agg #[.string e.op, .int .i64 e.val.kind, .int .i64 e.val.int, .string e.val.text, .bool e.val.bool, .string e.name, .slice (As j) (ns j) (cs j)], .int .i64 wh] W (OfPost cols (wh == 1) W)) :
  Calls Tryz.prog 35 #[.agg #[.string tn, .slice CA cn cc], .agg #[.string op, .int .i64 v.kind, .int .i64 v.int, .string v.text, .bool v.bool, .string name, .slice A n c], .int .i64 wh] w (OfPost cols (wh == 1) w) := by
 obtain ⟨w1, hw1⟩ : ∃ z, z = (((w.alloc (.cells #[.string tn, .slice CA cn cc] 24)).alloc (.cells #[.string op, .int .i64 v.kind, .int .i64 v.int, .string v.text, .bool v.bool, .string name, .slice A n c] 29)).alloc (.cells #[.string ⟨#[]⟩, .int .i64 0, .int .i64 0, .int .i64 0, .int .i64 0, .string ⟨#[]⟩, .bool false, .slice none 0 0] 38)).alloc (.cells #[.string op, .int .i64 0, .int .i64 0, .int .i64 0, .int .i64 0, .string ⟨#[]⟩, .bool false, .slice none 0 0] 38) := ⟨_, rfl⟩
 have I1 := Lib.hid (show OI w tn CA cn cc op v name A n c w1 [] 0 0 Val.null none 0 by
  rw [hw1]
  exact ⟨bt (below_alloc _ _) (bt (below_alloc _ _) (bt (below_alloc _ _) (below_alloc _ _))), by simp, (((Blk.new w 24 _).alloc _).alloc _).alloc _, ((blk_new' (w := w.alloc _) rfl (by simp)).alloc _).alloc _, (blk_new' (w := (w.alloc _).alloc _) rfl (by simp)).alloc _, blk_new' (w := ((w.alloc _).alloc _).alloc _) rfl (by simp), World.ownsRow_nil _ _ _ _, fun g hg => by cases hg⟩)
 have HA := Lib.hid hA
 have HCL := Lib.hid cells
 have HIH := Lib.hid ih
 have HLEN := Lib.hid len
 have HC := Lib.hid hc
 have HAR := Lib.hid ar
 have HV := Lib.hid hv
 have HWH := Lib.hid hwh
 have T1 := Lib.hid t1
 clear hA cells ih len hc ar hv hwh t1
 have hn9 : (n : Int) ≤ 1466015503701 := by omega
 go_enter Tryz.func35, Tryz.ntmps35
 go_upto_region 2 with fail
 rw [← hw1]
 clear hw1
 obtain ⟨ag, hag⟩ : ∃ q, inP op aggsR = q := ⟨_, rfl⟩
 obtain ⟨bw, hbw⟩ : ∃ q : Int, q = if ag = true then 2 else wh := ⟨_, rfl⟩
 have HAG := Lib.hid hag
 have HBW := Lib.hid hbw
 clear hbw
 have I1z := I1.out.xb.cell 0
 have I1l := I1.out.xb.lt
 go_cut [9] from 20 to 20 (fun s9 wx => s9 = .int .i64 wh ∧ wx = w1)
 case first =>
  go_wp2_with fail
  go_meet
  case rel => exact ⟨rfl, rfl⟩
 case rest =>
 obtain ⟨rfl, rfl⟩ := hcut
 go_step
 go_step
 go_cut [9] from 21 to 23 (fun s9 wx => s9 = .int .i64 bw ∧ Hid (Below wc.heap.size wc wx))
 case first =>
  go_wp2_with fail
  refine (aggregate76 _ _).mono ?_
  rintro e w2 ⟨rfl, hb2⟩
  rw [hag]
  clear hag
  cases ag with
  | true =>
   go_wp2_with fail
   go_meet
   case rel => exact ⟨by rw [HBW.out]; rfl, hb2⟩
  | false =>
   go_wp2_with fail
   go_meet
   case rel => exact ⟨by rw [HBW.out]; rfl, hb2⟩
 case rest =>
 obtain ⟨rfl, HB0⟩ := hcut
 rename World => w2
 have I2 := Lib.hid (I1.out.below HB0.out)
 have GB := Lib.hid (show (bw == 1) = ((wh == 1) && !aggOp op) by
  rw [HBW.out]
  unfold aggOp
  rw [HAG.out]
  cases ag <;> simp)
 have BW := Lib.hid (show bw = 0 ∨ bw = 1 ∨ bw = 2 by
  rw [HBW.out]
  split
  ·omega
  ·exact HWH.out)
 clear hag HB0 I1 I1z I1l
 go_wp2_with fail
 go_loopg [10] n (fun kx s10 wr => ∃ (i : Nat) (gs : List Given) (Ao : Option Addr) (co : Nat), s10 = .int .i64 i ∧ kx + i = n ∧ gs.length = i ∧ Hid (OI w tn CA cn cc op v name A n c wr gs 0 0 Val.null Ao co) ∧ Hid (∀ g ∈ gs, Typed cols ((wh == 1) && !aggOp op) g.1))
 case atStart => exact ⟨0, [], none, 0, rfl, rfl, rfl, I2, Lib.hid (fun g hg => by cases hg)⟩
 case round =>
  obtain ⟨i, gs, Ao, co, rfl, hki, hgl, I, TY⟩ := hrel
  have hi9 : (i : Int) ≤ 1466015503701 := by omega
  have hi0 : (0 : Int) ≤ (i : Int) := by omega
  have x6 := I.out.xb.cell 6
  have hlx := I.out.xb.lt
  by_cases hi : i < n
  ·have hiz : (i : Int) < (n : Int) := by omega
   obtain ⟨a, ha⟩ : ∃ a, args[i]? = some a := ⟨_, List.getElem?_eq_getElem (by rw [HLEN.out]; exact hi)⟩
   obtain ⟨rfl, hb⟩ := HA.out (by omega)
   obtain ⟨a0, a1, a2, a3, a4, a5, a6⟩ := (HCL.out i a ha).below hb I.out.old
   have hbr := Nat.lt_of_lt_of_le hb I.out.old.size
   have t0 := I.out.tb.cell 0
   have t1 := I.out.tb.cell 1
   have hlt := I.out.tb.lt
   have CI := Lib.hid (fun (W : World) (h : Below wr.heap.size wr W) => HIH.out i a ha bw BW.out W (bt h I.out.old))
   clear ha
   go_upto_region 8 with fail
   go_cut [11, 12] from 24 to 51 (fun s11 s12 wx => ∃ (y : Ex) (A' : Option Addr) (n' c' : Nat) (er : Int) (p : Nat), s11 = .pointer (some ⟨p, 0, none⟩) ∧ s12 = .int .i64 er ∧ Hid (Made wr p y A' n' c' wx) ∧ Hid (er = 0 → Typed cols (bw == 1) y ∧ ExIn wx (fun b => wr.heap.size ≤ b) y A' n' c'))
   case first =>
    go_region_law (first | (go_simp; go_at_call 35; refine (CI.out _ (by first | exact below_drew _ | exact bt (below_alloc _ _) (below_drew _) | exact bt (below_drew _) (below_alloc _ _))).mono ?_; rintro e w5 ⟨y, A', n', c', er, rfl, hy, hb5⟩; (first | (have pz := Lib.hid (zero_new hb5.out); have q0 := pz.out.cell 0; have q1 := pz.out.cell 1; have q2 := pz.out.cell 2; have q3 := pz.out.cell 3; have q4 := pz.out.cell 4; have q5 := pz.out.cell 5; have q6 := pz.out.cell 6; have q7 := pz.out.cell 7; have hfz := fun o => pz.out.frozen o) | (have pz := Lib.hid (zero_newd hb5.out); have q0 := pz.out.cell 0; have q1 := pz.out.cell 1; have q2 := pz.out.cell 2; have q3 := pz.out.cell 3; have q4 := pz.out.cell 4; have q5 := pz.out.cell 5; have q6 := pz.out.cell 6; have q7 := pz.out.cell 7; have hfz := fun o => pz.out.frozen o) | skip)))
    all_goals
     go_wp2_with fail
     go_meet
    all_goals first | exact ⟨y, A', n', c', er, _, rfl, rfl, Lib.hid (made_a hb5.out hy.out).1, Lib.hid (made_a hb5.out hy.out).2⟩ | exact ⟨y, A', n', c', er, _, rfl, rfl, Lib.hid (made_b hb5.out hy.out).1, Lib.hid (made_b hb5.out hy.out).2⟩
   case rest =>
    obtain ⟨y, A', n', c', er, p, rfl, rfl, HM, HY⟩ := hcut
    clear a0 a1 a2 a3 a4 a5 a6 hbr t0 t1 hlt x6 hlx CI
    have IW := Lib.hid (I.out.below HM.out.1)
    by_cases her : er = 0
    ·subst her
     have hs1 : (gs.length + 1) * 96 ≤ TB := by unfold TB; omega
     obtain ⟨An, cn', w4, hr, f1, f2, f3, I4⟩ := I.out.push hs1 HM.out.1 (HY.out rfl).2
     have HR := Lib.hid hr
     have I4 := Lib.hid I4
     clear hr
     have p0 := HM.out.2.2.2.cell 0
     have p1 := HM.out.2.2.2.cell 1
     have p2 := HM.out.2.2.2.cell 2
     have p3 := HM.out.2.2.2.cell 3
     have p4 := HM.out.2.2.2.cell 4
     have p5 := HM.out.2.2.2.cell 5
     have p6 := HM.out.2.2.2.cell 6
     have p7 := HM.out.2.2.2.cell 7
     have hp := HM.out.2.2.1
     have y7 := IW.out.y.cell 7
     have hyl := IW.out.y.lt
     have TN := Lib.hid (show ∀ g ∈ gs ++ [(y, A', n', c')], Typed cols ((wh == 1) && !aggOp op) g.1 from fun g hg => by
      rcases List.mem_append.1 hg with h | h
      ·exact TY.out g h
      ·obtain rfl : g = (y, A', n', c') := by simpa using h
       rw [← GB.out]
       exact (HY.out rfl).1)
     subst hgl
     go_wp2_with (at_builtin; (refine wpList_append_runI _ rfl _ _ 36 36 rfl (.slice Ao gs.length co) (.slice (some ⟨wc.heap.size, 0, none⟩) 1 1) rfl rfl HR.out ?_))
     go_roundg (gk - 1)
     case measure => omega
     case rel => exact ⟨gs.length + 1, gs ++ [(y, A', n', c')], An, cn', by first | rfl | (simp; done), by omega, by simp, I4, TN⟩
    ·have r1 : (er != 0) = true := by simpa using her
     have r2 : (er == 0) = false := by simpa using her
     have HER := Lib.hid her
     have RZ := Lib.hid IW.out.res
     have hfz := fun o => RZ.out.frozen o
     have q0 := RZ.out.cell 0
     have q1 := RZ.out.cell 1
     have q2 := RZ.out.cell 2
     have q3 := RZ.out.cell 3
     have q4 := RZ.out.cell 4
     have q5 := RZ.out.cell 5
     have q6 := RZ.out.cell 6
     have q7 := RZ.out.cell 7
     have hrl := RZ.out.lt
     clear her
     go_wp2_with fail
     refine bodyPost_ret (results_ei (s := 6) (k := 7) rfl rfl rfl (ex_set RZ.out _ _ _ _ _ _ _ _)) rfl ⟨zeroEx, none, 0, 0, er, rfl, Lib.hid (fun h => absurd h HER.out), Lib.hid ?_⟩
     have hb := IW.out.old
     have hs := hb.size
     have hs2 := IW.out.size
     go_grown
  ·have hiz : ¬ (i : Int) < (n : Int) := by omega
   obtain rfl : gs.length = n := by omega
   subst hgl
   have IA := Lib.hid I.out
   go_upto_region 12 with fail
   clear hiz hi hki hi9 hi0 x6 hlx I
   obtain ⟨q, hq⟩ : ∃ q, (ag && (wh != 1)) = q := ⟨_, rfl⟩
   have HQ := Lib.hid hq
   go_cut [58] from 52 to 58 (fun s58 wx => s58 = .bool q ∧ Hid (Below wr.heap.size wr wx))
   case first =>
    have x0 := IA.out.xb.cell 0
    have hlx := IA.out.xb.lt
    go_wp2_with fail
    refine (aggregate76 _ _).mono ?_
    rintro e w3 ⟨rfl, hb3⟩
    rw [HAG.out]
    clear x0 hlx HQ
    by_cases hw1 : wh = 1
    ·subst hw1
     cases ag with
     | true =>
      obtain rfl : false = q := hq
      go_wp2_with fail
      go_meet
      case rel => exact ⟨rfl, hb3⟩
     | false =>
      obtain rfl : false = q := hq
      go_wp2_with fail
      go_meet
      case rel => exact ⟨rfl, hb3⟩
    ·have e1 : (wh != 1) = true := by simpa using hw1
     have e2 : (wh == 1) = false := by simpa using hw1
     cases ag with
     | true =>
      obtain rfl : true = q := by rw [← hq, e1]; rfl
      clear hq
      go_wp2_with fail
      go_meet
      case rel => exact ⟨by first | rfl | simp, hb3⟩
     | false =>
      obtain rfl : false = q := hq
      go_wp2_with fail
      go_meet
      case rel => exact ⟨rfl, hb3⟩
   case rest =>
    obtain ⟨rfl, HB3⟩ := hcut
    clear hq
    have IB := Lib.hid (IA.out.below HB3.out)
    cases q with
    | true =>
     have RZ := Lib.hid IB.out.res
     have hfz := fun o => RZ.out.frozen o
     have q0 := RZ.out.cell 0
     have q1 := RZ.out.cell 1
     have q2 := RZ.out.cell 2
     have q3 := RZ.out.cell 3
     have q4 := RZ.out.cell 4
     have q5 := RZ.out.cell 5
     have q6 := RZ.out.cell 6
     have q7 := RZ.out.cell 7
     have hrl := RZ.out.lt
     go_wp2_with fail
     refine bodyPost_ret (results_ei (s := 6) (k := 7) rfl rfl rfl (ex_set RZ.out _ _ _ _ _ _ _ _)) rfl ⟨zeroEx, none, 0, 0, 40, rfl, Lib.hid (fun h => by omega), Lib.hid ?_⟩
     have hb := IB.out.old
     have hs := hb.size
     have hs2 := IB.out.size
     go_grown
    | false =>
     have HG := Lib.hid (show aggOp op = true → (wh == 1) = true from fun h => by
      have h2 := HQ.out
      rw [show ag = true from HAG.out.symm.trans h] at h2
      simpa using h2)
     clear IA HB3 HQ
     rename World => w4
     go_upto_region 14 with fail
     go_cut [13] from 60 to 60 (fun s13 wx => s13 = .int .i64 0 ∧ wx = w4)
     case first =>
      go_wp2_with fail
      go_meet
      case rel => exact ⟨rfl, rfl⟩
     case rest =>
     obtain ⟨rfl, rfl⟩ := hcut
     go_step
     go_step
     go_cut [13] from 61 to 142 (fun s13 wx => ∃ (k cl asked : Int) (u : Val), s13 = .int .i64 asked ∧ Hid (OI w tn CA cn cc op v name A gs.length c wx gs k cl u Ao co) ∧ Hid (u.text.size ≤ TB) ∧ Hid (KA cols op v (gs.map (·.1)) k cl asked u))
     case first =>
      have TN := Lib.hid (show (Val.null).text.size ≤ TB by decide)
      have x0 := IB.out.xb.cell 0
      have x1 := IB.out.xb.cell 1
      have x2 := IB.out.xb.cell 2
      have x3 := IB.out.xb.cell 3
      have x4 := IB.out.xb.cell 4
      have x5 := IB.out.xb.cell 5
      have hlx := IB.out.xb.lt
      have y1 := IB.out.y.cell 1
      have hyl := IB.out.y.lt
      have hfy := fun o => IB.out.y.frozen o
      have y2 := IB.out.y.cell 2
      have y3 := IB.out.y.cell 3
      have y4 := IB.out.y.cell 4
      have y5 := IB.out.y.cell 5
      have y6 := IB.out.y.cell 6
      by_cases c1 : op.toList = [108, 105, 116]
      ·have k1 : (op.toList == [108, 105, 116]) = true := by simpa using c1
       have E1 := Lib.hid (bytes_lit c1)
       clear c1
       go_upto_region 17 with fail
       go_region
       all_goals
        go_wp2_with fail
        go_meet
        case rel => exact ⟨v.kind, 0, 0, v, rfl, Lib.hid (by first | exact ((IB.out.below (below_drew _)).setV v.kind v.int v.text v.bool).setK v.kind | exact ((IB.out.below (below_drew _)).setK v.kind).setV v.kind v.int v.text v.bool), T1, Lib.hid (.inl ⟨E1.out, rfl, rfl, rfl⟩)⟩
      have k1 : (op.toList == [108, 105, 116]) = false := by simpa using c1
      by_cases c2 : op.toList = [108, 97, 98, 101, 108]
      ·have k2 : (op.toList == [108, 97, 98, 101, 108]) = true := by simpa using c2
       have E2 := Lib.hid (bytes_lit c2)
       clear c1 c2
       go_wp2_with fail
       go_meet
       case rel => exact ⟨2, 0, 0, Val.null, rfl, Lib.hid (IB.out.setK 2), TN, Lib.hid (.inr (.inl ⟨E2.out, rfl, rfl⟩))⟩
      have k2 : (op.toList == [108, 97, 98, 101, 108]) = false := by simpa using c2
      by_cases c3 : op.toList = [99, 111, 108]
      ·have k3 : (op.toList == [99, 111, 108]) = true := by simpa using c3
       have E3 := Lib.hid (bytes_lit c3)
       clear c1 c2 c3
       have z0 := IB.out.tb.cell 0
       have z1 := IB.out.tb.cell 1
       have hlz := IB.out.tb.lt
       have HCC := Lib.hid (HC.out.below IB.out.old)
       go_wp2_with fail
       refine (column51 wc tn CA cn cc cols HCC.out hcn name).mono ?_
       rintro e w5 ⟨ci, er, rfl, hci, her, hb5⟩
       have IC := Lib.hid (IB.out.below hb5.out)
       clear x0 x1 x2 x3 x4 x5 hlx y1 y2 y3 y4 y5 y6 hyl hfy z0 z1 hlz hb5
       by_cases he0 : er = 0
       ·subst he0
        have hci := hci.out rfl
        clear her
        have z1 := IC.out.tb.cell 1
        have hlz := IC.out.tb.lt
        have y1 := IC.out.y.cell 1
        have y2 := IC.out.y.cell 2
        have hyl := IC.out.y.lt
        have hfy := fun o => IC.out.y.frozen o
        obtain ⟨cl, hcl⟩ : ∃ a, cols[ci]? = some a := ⟨_, List.getElem?_eq_getElem (by rw [HC.out.len]; exact hci)⟩
        obtain ⟨cb, co2, rfl, hcb0, -⟩ := HC.out.at_ ci cl hcl
        obtain ⟨cb2, co3, he2, hcb, d0, d1, d2, d3⟩ := (HC.out.below IC.out.old).at_ ci cl hcl
        injection he2 with he2
        injection he2 with he2 he3
        subst he2 he3
        have hne1 : ¬ (cb = w.heap.size + 1 + 1 + 1) := by omega
        have hne2 : ¬ (w.heap.size + 1 + 1 + 1 = cb) := by omega
        have HCL2 := Lib.hid hcl
        have hcz : (ci : Int) < (cn : Int) := by omega
        have hc9 : (ci : Int) ≤ 1466015503701 := by omega
        have hc0 : (0 : Int) ≤ (ci : Int) := by omega
        clear hcl d0 d2 d3 hci
        go_upto_region 24 with fail
        go_region
        all_goals
         go_wp2_with fail
         go_meet
         case rel => exact ⟨cl.kind, ci, 0, Val.null, rfl, Lib.hid (by first | exact ((IC.out.below (below_drew _)).setC ci).setK cl.kind | exact ((IC.out.below (below_drew _)).setK cl.kind).setC ci), TN, Lib.hid (.inr (.inr (.inl ⟨E3.out, rfl, ci, cl, rfl, HCL2.out, rfl⟩)))⟩
       ·have r1 : (er != 0) = true := by simpa using he0
        have r2 : (er == 0) = false := by simpa using he0
        have HER := Lib.hid he0
        have RZ := Lib.hid IC.out.res
        have hfz := fun o => RZ.out.frozen o
        have q0 := RZ.out.cell 0
        have q1 := RZ.out.cell 1
        have q2 := RZ.out.cell 2
        have q3 := RZ.out.cell 3
        have q4 := RZ.out.cell 4
        have q5 := RZ.out.cell 5
        have q6 := RZ.out.cell 6
        have q7 := RZ.out.cell 7
        have hrl := RZ.out.lt
        clear he0 her hci
        go_wp2_with fail
        refine bodyPost_ret (results_ei (s := 6) (k := 7) rfl rfl rfl (ex_set RZ.out _ _ _ _ _ _ _ _)) rfl ⟨zeroEx, none, 0, 0, er, rfl, Lib.hid (fun h => absurd h HER.out), Lib.hid ?_⟩
        have hb := IC.out.old
        have hs := hb.size
        have hs2 := IC.out.size
        go_grown
      have k3 : (op.toList == [99, 111, 108]) = false := by simpa using c3
      obtain ⟨q4, hq4⟩ : ∃ q, inP op sums7R = q := ⟨_, rfl⟩
      have HQ4 := Lib.hid hq4
      have C4 := Lib.hid (in77 (wc.alloc (.cells (sums7R.map Value.string).toArray 9)) op (some ⟨wc.heap.size, 0, none⟩) 7 7 sums7R (strs_at sums7R (Blk.new _ 9 _)) (by omega))
      rw [hq4] at C4
      clear hq4
      go_wp2_with fail
      refine C4.out.mono ?_
      rintro e w5 ⟨rfl, hw5⟩
      have ID := Lib.hid (show OI w tn CA cn cc op v name A gs.length c w5 gs 0 0 Val.null Ao co by rw [hw5]; exact IB.out.below (below_alloc wc (.cells (sums7R.map Value.string).toArray 9)))
      clear C4 hw5 x0 x1 x2 x3 x4 x5 hlx y1 y2 y3 y4 y5 y6 hyl hfy
      have x0 := ID.out.xb.cell 0
      have hlx := ID.out.xb.lt
      have y1 := ID.out.y.cell 1
      have hyl := ID.out.y.lt
      have hfy := fun o => ID.out.y.frozen o
      cases q4 with
      | true =>
       go_wp2_with fail
       go_meet
       case rel => exact ⟨1, 0, 1, Val.null, rfl, Lib.hid (ID.out.setK 1), TN, Lib.hid (.inr (.inr (.inr (.inl ⟨in_mem.1 HQ4.out, rfl, rfl⟩))))⟩
      | false =>
       by_cases c5 : op.toList = [99, 111, 117, 110, 116]
       ·have k5 : (op.toList == [99, 111, 117, 110, 116]) = true := by simpa using c5
        have E5 := Lib.hid (bytes_lit c5)
        clear c5
        go_wp2_with fail
        go_meet
        case rel => exact ⟨1, 0, 0, Val.null, rfl, Lib.hid (ID.out.setK 1), TN, Lib.hid (.inr (.inr (.inr (.inr (.inl ⟨.inl E5.out, rfl, rfl⟩)))))⟩
       have k5 : (op.toList == [99, 111, 117, 110, 116]) = false := by simpa using c5
       by_cases c6 : op.toList = [114, 111, 119, 115]
       ·have k6 : (op.toList == [114, 111, 119, 115]) = true := by simpa using c6
        have E6 := Lib.hid (bytes_lit c6)
        clear c6
        go_wp2_with fail
        go_meet
        case rel => exact ⟨1, 0, 0, Val.null, rfl, Lib.hid (ID.out.setK 1), TN, Lib.hid (.inr (.inr (.inr (.inr (.inl ⟨.inr E6.out, rfl, rfl⟩)))))⟩
       have k6 : (op.toList == [114, 111, 119, 115]) = false := by simpa using c6
       by_cases c7 : op.toList = [124, 124]
       ·have k7 : (op.toList == [124, 124]) = true := by simpa using c7
        have E7 := Lib.hid (bytes_lit c7)
        clear c7
        go_wp2_with fail
        go_meet
        case rel => exact ⟨2, 0, 2, Val.null, rfl, Lib.hid (ID.out.setK 2), TN, Lib.hid (.inr (.inr (.inr (.inr (.inr (.inl ⟨E7.out, rfl, rfl⟩))))))⟩
       have k7 : (op.toList == [124, 124]) = false := by simpa using c7
       by_cases c8 : op.toList = [109, 105, 110]
       ·have k8 : (op.toList == [109, 105, 110]) = true := by simpa using c8
        have E8 := Lib.hid (bytes_lit c8)
        obtain ⟨g0, l0, hgs⟩ : ∃ g0 l0, gs = g0 :: l0 := agg_one HAR.out HLEN.out (by simp [E8.out, opsN]) (by simp [E8.out, opsT])
        have HG0 := Lib.hid (show gs[0]? = some g0 by rw [hgs]; rfl)
        have HGS := Lib.hid hgs
        have hlen1 : 0 < gs.length := by rw [hgs]; exact Nat.succ_pos _
        have hlen2 : (0 : Int) < (gs.length : Int) := by omega
        obtain ⟨ab, hab, habl, habc⟩ := ID.out.arg HG0.out
        rw [Nat.zero_mul, Nat.zero_add] at habc
        have y7 := ID.out.y.cell 7
        rw [hab] at y7
        clear c8 hgs
        go_wp2_with fail
        go_meet
        case rel => exact ⟨g0.1.kind, 0, 0, Val.null, rfl, Lib.hid (ID.out.setK g0.1.kind), TN, Lib.hid (.inr (.inr (.inr (.inr (.inr (.inr (.inl ⟨.inl E8.out, rfl, g0.1, l0.map (·.1), by rw [HGS.out]; rfl, rfl⟩)))))))⟩
       have k8 : (op.toList == [109, 105, 110]) = false := by simpa using c8
       by_cases c9 : op.toList = [109, 97, 120]
       ·have k9 : (op.toList == [109, 97, 120]) = true := by simpa using c9
        have E9 := Lib.hid (bytes_lit c9)
        obtain ⟨g0, l0, hgs⟩ : ∃ g0 l0, gs = g0 :: l0 := agg_one HAR.out HLEN.out (by simp [E9.out, opsN]) (by simp [E9.out, opsT])
        have HG0 := Lib.hid (show gs[0]? = some g0 by rw [hgs]; rfl)
        have HGS := Lib.hid hgs
        have hlen1 : 0 < gs.length := by rw [hgs]; exact Nat.succ_pos _
        have hlen2 : (0 : Int) < (gs.length : Int) := by omega
        obtain ⟨ab, hab, habl, habc⟩ := ID.out.arg HG0.out
        rw [Nat.zero_mul, Nat.zero_add] at habc
        have y7 := ID.out.y.cell 7
        rw [hab] at y7
        clear c9 hgs
        go_wp2_with fail
        go_meet
        case rel => exact ⟨g0.1.kind, 0, 0, Val.null, rfl, Lib.hid (ID.out.setK g0.1.kind), TN, Lib.hid (.inr (.inr (.inr (.inr (.inr (.inr (.inl ⟨.inr E9.out, rfl, g0.1, l0.map (·.1), by rw [HGS.out]; rfl, rfl⟩)))))))⟩
       have k9 : (op.toList == [109, 97, 120]) = false := by simpa using c9
       obtain ⟨q8, hq8⟩ : ∃ q, inP op logicsR = q := ⟨_, rfl⟩
       have HQ8 := Lib.hid hq8
       have C8 := Lib.hid (in77 (w5.alloc (.cells (logicsR.map Value.string).toArray 9)) op (some ⟨w5.heap.size, 0, none⟩) 3 3 logicsR (strs_at logicsR (Blk.new _ 9 _)) (by omega))
       rw [hq8] at C8
       clear hq8
       have NE := Lib.hid (And.intro (ne_lit c1) (And.intro (ne_lit c2) (And.intro (ne_lit c3) (And.intro (ne_lit c5) (And.intro (ne_lit c6) (And.intro (ne_lit c7) (And.intro (ne_lit c8) (ne_lit c9))))))))
       clear c1 c2 c3 c5 c6 c7 c8 c9
       go_wp2_with fail
       refine C8.out.mono ?_
       rintro e w6 ⟨rfl, hw6⟩
       have IE := Lib.hid (show OI w tn CA cn cc op v name A gs.length c w6 gs 0 0 Val.null Ao co by rw [hw6]; exact ID.out.below (below_alloc w5 (.cells (logicsR.map Value.string).toArray 9)))
       clear C8 hw6 x0 hlx y1 hyl hfy
       have y1 := IE.out.y.cell 1
       have hyl := IE.out.y.lt
       have hfy := fun o => IE.out.y.frozen o
       cases q8 with
       | true =>
        go_wp2_with fail
        go_meet
        case rel => exact ⟨3, 0, 3, Val.null, rfl, Lib.hid (IE.out.setK 3), TN, Lib.hid (.inr (.inr (.inr (.inr (.inr (.inr (.inr (.inl ⟨in_mem.1 HQ8.out, rfl, rfl⟩))))))))⟩
       | false =>
        go_wp2_with fail
        go_meet
        case rel => exact ⟨3, 0, 0, Val.null, rfl, Lib.hid (IE.out.setK 3), TN, Lib.hid (.inr (.inr (.inr (.inr (.inr (.inr (.inr (.inr ⟨⟨NE.out.1, NE.out.2.1, NE.out.2.2.1, not_in HQ4.out, NE.out.2.2.2.1, NE.out.2.2.2.2.1, NE.out.2.2.2.2.2.1, NE.out.2.2.2.2.2.2.1, NE.out.2.2.2.2.2.2.2, not_in HQ8.out⟩, rfl, rfl⟩))))))))⟩
     case rest =>
     obtain ⟨k, cl, asked, u, rfl, IK, TU, HKA⟩ := hcut
     clear IB
     rename World => w7
     go_wp2_with fail
     go_loopg [16] gs.length (fun kx s16 wr => ∃ i : Nat, s16 = .int .i64 i ∧ kx + i = gs.length ∧ Hid (OI w tn CA cn cc op v name A gs.length c wr gs k cl u Ao co) ∧ Hid (∀ (j : Nat) (a : Given), j < i → gs[j]? = some a → fitP a.1.kind asked = true ∧ ∀ b, gs[0]? = some b → fitP a.1.kind b.1.kind = true))
     case atStart => exact ⟨0, rfl, by omega, IK, Lib.hid (fun j a h => absurd h (Nat.not_lt_zero _))⟩
     case round =>
      obtain ⟨i, rfl, hki, IR, HO⟩ := hrel
      have hi9 : (i : Int) ≤ 1466015503701 := by omega
      have hi0 : (0 : Int) ≤ (i : Int) := by omega
      have y7 := IR.out.y.cell 7
      have hyl := IR.out.y.lt
      by_cases hi : i < gs.length
      ·have hiz : (i : Int) < (gs.length : Int) := by omega
       have h0z : (0 : Int) < (gs.length : Int) := by omega
       have h0n : 0 < gs.length := by omega
       obtain ⟨ga, hga⟩ : ∃ a, gs[i]? = some a := ⟨_, List.getElem?_eq_getElem hi⟩
       obtain ⟨gb, hgb⟩ : ∃ a, gs[0]? = some a := ⟨_, List.getElem?_eq_getElem h0n⟩
       obtain ⟨ab, hab, habl, habc⟩ := IR.out.arg hga
       obtain ⟨ab2, hab2, -, habc2⟩ := IR.out.arg hgb
       obtain rfl : ab = ab2 := by
        rw [hab] at hab2
        cases hab2
        rfl
       clear hab2
       rw [Nat.zero_mul, Nat.zero_add] at habc2
       rw [hab] at y7
       clear hab
       obtain ⟨f1, hf1⟩ : ∃ q, fitP ga.1.kind asked = q := ⟨_, rfl⟩
       obtain ⟨f2, hf2⟩ : ∃ q, fitP ga.1.kind gb.1.kind = q := ⟨_, rfl⟩
       have FA := Lib.hid (fun W => fit62 W ga.1.kind asked)
       have FB := Lib.hid (fun W => fit62 W ga.1.kind gb.1.kind)
       rw [hf1] at FA
       rw [hf2] at FB
       have HF := Lib.hid (And.intro hga (And.intro hgb (And.intro hf1 hf2)))
       clear hga hgb hf1 hf2
       have hgk : 0 < gk := by omega
       have hk2 : gk - 1 + (i + 1) = gs.length := by omega
       go_upto_region 38 with fail
       cases f1 with
       | false =>
        go_quiet (first | (go_at_call 62; exact Calls.quiet_of_same (FA.out _)))
        have ID := Lib.hid (IR.out.below (below_drewN wr nq))
        have RZ := Lib.hid ID.out.res
        have hfz := fun o => RZ.out.frozen o
        have q0 := RZ.out.cell 0
        have q1 := RZ.out.cell 1
        have q2 := RZ.out.cell 2
        have q3 := RZ.out.cell 3
        have q4 := RZ.out.cell 4
        have q5 := RZ.out.cell 5
        have q6 := RZ.out.cell 6
        have q7 := RZ.out.cell 7
        have hrl := RZ.out.lt
        obtain ⟨wz, hwz⟩ : ∃ x, x = wr.drewN nq := ⟨_, rfl⟩
        rw [← hwz] at ID RZ hfz q0 q1 q2 q3 q4 q5 q6 q7 hrl ⊢
        clear hwz y7 hyl habc habc2 habl
        go_wp2_with fail
        refine bodyPost_ret (results_ei (s := 6) (k := 7) rfl rfl rfl (ex_set RZ.out _ _ _ _ _ _ _ _)) rfl ⟨zeroEx, none, 0, 0, 7, rfl, Lib.hid (fun h => absurd h (by decide)), Lib.hid ?_⟩
        have hb := ID.out.old
        have hs := hb.size
        have hs2 := ID.out.size
        clear hi9 hi0 hiz h0z h0n hki hi
        go_grown
       | true =>
        cases f2 with
        | false =>
         go_quiet (first | (go_at_call 62; first | (with_reducible exact Calls.quiet_of_same (FA.out _)) | (with_reducible exact Calls.quiet_of_same (FB.out _))))
         have ID := Lib.hid (IR.out.below (below_drewN wr nq))
         have RZ := Lib.hid ID.out.res
         have hfz := fun o => RZ.out.frozen o
         have q0 := RZ.out.cell 0
         have q1 := RZ.out.cell 1
         have q2 := RZ.out.cell 2
         have q3 := RZ.out.cell 3
         have q4 := RZ.out.cell 4
         have q5 := RZ.out.cell 5
         have q6 := RZ.out.cell 6
         have q7 := RZ.out.cell 7
         have hrl := RZ.out.lt
         obtain ⟨wz, hwz⟩ : ∃ x, x = wr.drewN nq := ⟨_, rfl⟩
         rw [← hwz] at ID RZ hfz q0 q1 q2 q3 q4 q5 q6 q7 hrl ⊢
         clear hwz y7 hyl habc habc2 habl
         go_wp2_with fail
         refine bodyPost_ret (results_ei (s := 6) (k := 7) rfl rfl rfl (ex_set RZ.out _ _ _ _ _ _ _ _)) rfl ⟨zeroEx, none, 0, 0, 7, rfl, Lib.hid (fun h => absurd h (by decide)), Lib.hid ?_⟩
         have hb := ID.out.old
         have hs := hb.size
         have hs2 := ID.out.size
         clear hi9 hi0 hiz h0z h0n hki hi
         go_grown
        | true =>
         go_quiet (first | (go_at_call 62; first | (with_reducible exact Calls.quiet_of_same (FA.out _)) | (with_reducible exact Calls.quiet_of_same (FB.out _))))
         have ID := Lib.hid (IR.out.below (below_drewN wr nq))
         have NX := Lib.hid (show ∀ (j : Nat) (a : Given), j < i + 1 → gs[j]? = some a → fitP a.1.kind asked = true ∧ ∀ b, gs[0]? = some b → fitP a.1.kind b.1.kind = true from fun j a hj ha => by
          rcases Nat.lt_or_ge j i with h | h
          ·exact HO.out j a h ha
          ·obtain rfl : j = i := Nat.le_antisymm (Nat.le_of_lt_succ hj) h
           obtain rfl := Option.some.inj (ha.symm.trans HF.out.1)
           refine ⟨HF.out.2.2.1, fun b hb => ?_⟩
           obtain rfl := Option.some.inj (hb.symm.trans HF.out.2.1)
           exact HF.out.2.2.2)
         clear HO
         go_wp2_with fail
         go_roundg (gk - 1)
         case measure => exact Nat.sub_lt hgk Nat.one_pos
         case rel => exact ⟨i + 1, by first | rfl | (simp; done), hk2, ID, NX⟩
      ·have hiz : ¬ (i : Int) < (gs.length : Int) := by omega
       have y0 := IR.out.y.cell 0
       have y1 := IR.out.y.cell 1
       have y2 := IR.out.y.cell 2
       have y3 := IR.out.y.cell 3
       have y4 := IR.out.y.cell 4
       have y5 := IR.out.y.cell 5
       have y6 := IR.out.y.cell 6
       have RZ := Lib.hid IR.out.res
       have hfz := fun o => RZ.out.frozen o
       have q0 := RZ.out.cell 0
       have q1 := RZ.out.cell 1
       have q2 := RZ.out.cell 2
       have q3 := RZ.out.cell 3
       have q4 := RZ.out.cell 4
       have q5 := RZ.out.cell 5
       have q6 := RZ.out.cell 6
       have q7 := RZ.out.cell 7
       have hrl := RZ.out.lt
       have TT := Lib.hid (show Typed cols (wh == 1) (.mk op k cl u (gs.map (·.1))) from .mk _ _ _ _ _ _ (ok_of (by rw [List.length_map, ← HLEN.out]; exact HAR.out) HG.out HV.out HKA.out (fun j a ha => by
         rw [List.getElem?_map] at ha
         obtain ⟨g, hg, rfl⟩ := Option.map_eq_some_iff.1 ha
         have := HO.out j g (by have := (List.getElem?_eq_some_iff.1 hg).1; omega) hg
         refine ⟨this.1, fun b hb => ?_⟩
         rw [List.getElem?_map] at hb
         obtain ⟨g2, hg2, rfl⟩ := Option.map_eq_some_iff.1 hb
         exact this.2 g2 hg2)) (fun j a ha => by
         rw [List.getElem?_map] at ha
         obtain ⟨g, hg, rfl⟩ := Option.map_eq_some_iff.1 ha
         exact TY.out g (List.mem_of_getElem? hg)))
       have EE := Lib.hid (IR.out.end_ (by unfold TB; omega) TU.out)
       clear HO
       go_wp2_with fail
       refine bodyPost_ret (results_ei (s := 6) (k := 7) rfl rfl rfl (ex_set RZ.out _ _ _ _ _ _ _ _)) rfl ⟨.mk op k cl u (gs.map (·.1)), Ao, gs.length, co, 0, rfl, Lib.hid (fun _ => ⟨TT.out, EE.out.keep (fun b hb hl => ex_far (by omega) _ _ _ _ _ _ _ _) (fun b hb _ => by omega) (by simp [World.setCell])⟩), Lib.hid ?_⟩
       have hb := IR.out.old
       have hs := hb.size
       have hs2 := IR.out.size
       go_grown

end Go.Proofs.YtbcmmecilheicaaGreatDoor

/- The document's check of an expression, whole: of, OfExpr. -/
namespace Go.Proofs.YtbcmmecilheicaaGreatDoor
open Go Go.RowKit

theorem of35 {W : World} {tn : ByteArray} {CA : Option Addr} {cn cc : Nat} {cols : List Col} (hc : ColsAt W CA cn cols) (hcn : cn ≤ 1466015503701) {x : PEx} {A : Option Addr} {n c : Nat} (h : PExIs W x A n c) : MayOk x → ∀ wh : Int, (wh = 0 ∨ wh = 1 ∨ wh = 2) → ∀ W', Below W.heap.size W W' →
  Calls Tryz.prog 35 #[.agg #[.string tn, .slice CA cn cc], .agg #[.string x.op, .int .i64 x.val.kind, .int .i64 x.val.int, .string x.val.text, .bool x.val.bool, .string x.name, .slice A n c], .int .i64 wh] W' (OfPost cols (wh == 1) W') := by
 induction h with
 | mk op v name args A n c len small t0 t1 t2 b off hA As ns cs cells sub ih =>
  intro hm wh hwh W' hW
  cases hm with
  | mk _ _ _ _ ar hv hk nm hsub =>
   exact of35_mk W' tn CA cn cc cols (hc.below hW) hcn op v name args A n c len small t1 b off (fun h0 => ⟨(hA h0).1, Nat.lt_of_lt_of_le (hA h0).2 hW.size⟩) As ns cs (fun j e hj => (cells j e hj).below (hA (by have := (List.getElem?_eq_some_iff.1 hj).1; omega)).2 hW) ar hv wh hwh (fun j e hj wh' hw' W2 h2 => ih j e hj (hsub j e hj) wh' hw' W2 (bt h2 hW))

set_option maxRecDepth 100000 in
set_option maxHeartbeats 16000000 in
theorem ofExpr6 (w : World) (tn : ByteArray) (CA : Option Addr) (cn cc : Nat) (cols : List Col) (hc : ColsAt w CA cn cols) (hcn : cn ≤ 1466015503701) (x : PEx) (A : Option Addr) (n c : Nat) (hx : PExIs w x A n c) (hd : depthP x ≤ 4611686018427387904) (agg : Bool) :
  Calls Tryz.prog 6 #[.agg #[.string tn, .slice CA cn cc], .agg #[.string x.op, .int .i64 x.val.kind, .int .i64 x.val.int, .string x.val.text, .bool x.val.bool, .string x.name, .slice A n c], .bool agg] w (OfPost cols agg w) := by
 obtain ⟨w1, hw1⟩ : ∃ z, z = ((w.alloc (.cells #[.string tn, .slice CA cn cc] 24)).alloc (.cells #[.string x.op, .int .i64 x.val.kind, .int .i64 x.val.int, .string x.val.text, .bool x.val.bool, .string x.name, .slice A n c] 29)).alloc (.cells #[.string ⟨#[]⟩, .int .i64 0, .int .i64 0, .int .i64 0, .int .i64 0, .string ⟨#[]⟩, .bool false, .slice none 0 0] 38) := ⟨_, rfl⟩
 have B1 := Lib.hid (show Below w.heap.size w w1 by rw [hw1]; exact bt (below_alloc _ _) (bt (below_alloc _ _) (below_alloc _ _)))
 have Z0 := Lib.hid (show Blk w1 w.heap.size 24 #[.string tn, .slice CA cn cc] by rw [hw1]; exact ((Blk.new w 24 _).alloc _).alloc _)
 have Z1 := Lib.hid (show Blk w1 (w.heap.size + 1) 29 #[.string x.op, .int .i64 x.val.kind, .int .i64 x.val.int, .string x.val.text, .bool x.val.bool, .string x.name, .slice A n c] by rw [hw1]; exact (blk_new' (w := w.alloc _) rfl (by simp)).alloc _)
 have Z2 := Lib.hid (show Blk w1 (w.heap.size + 2) 38 #[.string ⟨#[]⟩, .int .i64 0, .int .i64 0, .int .i64 0, .int .i64 0, .string ⟨#[]⟩, .bool false, .slice none 0 0] by rw [hw1]; exact blk_new' (w := (w.alloc _).alloc _) rfl (by simp))
 have HC := Lib.hid hc
 have HX := Lib.hid hx
 have CP := Lib.hid (printExpr34 w1 x A n c (hx.bel B1.out) hd)
 have z0 := Z1.out.cell 0
 have z1 := Z1.out.cell 1
 have z2 := Z1.out.cell 2
 have z3 := Z1.out.cell 3
 have z4 := Z1.out.cell 4
 have z5 := Z1.out.cell 5
 have z6 := Z1.out.cell 6
 have hl := Z1.out.lt
 clear hc hx
 go_enter Tryz.func6, Tryz.ntmps6
 go_upto_region 1 with fail
 rw [← hw1]
 clear hw1
 go_wp2_with fail
 refine CP.out.mono ?_
 clear CP z0 z1 z2 z3 z4 z5 z6 hl
 rintro e w2 ⟨s, er, rfl, hok, hb2⟩
 have B2 := Lib.hid (bt hb2.out B1.out)
 have Y2 := Lib.hid (Z2.out.below hb2.out)
 by_cases her : er = 0
 ·subst her
  have OK := Lib.hid (hok.out rfl).1
  have Y0 := Lib.hid (Z0.out.below hb2.out)
  have Y1 := Lib.hid (Z1.out.below hb2.out)
  clear hok hb2
  have t0 := Y0.out.cell 0
  have t1 := Y0.out.cell 1
  have z0 := Y1.out.cell 0
  have z1 := Y1.out.cell 1
  have z2 := Y1.out.cell 2
  have z3 := Y1.out.cell 3
  have z4 := Y1.out.cell 4
  have z5 := Y1.out.cell 5
  have z6 := Y1.out.cell 6
  have hl0 := Y0.out.lt
  have hl1 := Y1.out.lt
  have CO := Lib.hid (fun (wh : Int) (h : wh = 0 ∨ wh = 1 ∨ wh = 2) => of35 (tn := tn) (cc := cc) HC.out hcn HX.out OK.out wh h w2 B2.out)
  cases agg with
  | true =>
   go_wp2_with fail
   refine (CO.out 1 (by omega)).mono ?_
   clear CO t0 t1 z0 z1 z2 z3 z4 z5 z6 hl0 hl1
   rintro e w3 ⟨y, Ay, ny, cy, er, rfl, hy, hb3⟩
   have B3 := Lib.hid (bt hb3.out B2.out)
   have RZ := Lib.hid (Y2.out.below hb3.out)
   have hfz := fun o => RZ.out.frozen o
   have q0 := RZ.out.cell 0
   have q1 := RZ.out.cell 1
   have q2 := RZ.out.cell 2
   have q3 := RZ.out.cell 3
   have q4 := RZ.out.cell 4
   have q5 := RZ.out.cell 5
   have q6 := RZ.out.cell 6
   have q7 := RZ.out.cell 7
   have hrl := RZ.out.lt
   have hyl := Y2.out.lt
   go_wp2_with fail
   refine bodyPost_ret (results_ei (s := 6) (k := 7) rfl rfl rfl (ex_set RZ.out _ _ _ _ _ _ _ _)) rfl ⟨y, Ay, ny, cy, er, rfl, Lib.hid (fun h => ⟨(hy.out h).1, (hy.out h).2.keep (fun b hb hl => ex_far (by omega) _ _ _ _ _ _ _ _) (fun b hb _ => by omega) (by simp [World.setCell])⟩), Lib.hid ?_⟩
   have hb := B3.out
   have hs := hb.size
   go_grown
  | false =>
   go_wp2_with fail
   refine (CO.out 0 (by omega)).mono ?_
   clear CO t0 t1 z0 z1 z2 z3 z4 z5 z6 hl0 hl1
   rintro e w3 ⟨y, Ay, ny, cy, er, rfl, hy, hb3⟩
   have B3 := Lib.hid (bt hb3.out B2.out)
   have RZ := Lib.hid (Y2.out.below hb3.out)
   have hfz := fun o => RZ.out.frozen o
   have q0 := RZ.out.cell 0
   have q1 := RZ.out.cell 1
   have q2 := RZ.out.cell 2
   have q3 := RZ.out.cell 3
   have q4 := RZ.out.cell 4
   have q5 := RZ.out.cell 5
   have q6 := RZ.out.cell 6
   have q7 := RZ.out.cell 7
   have hrl := RZ.out.lt
   have hyl := Y2.out.lt
   go_wp2_with fail
   refine bodyPost_ret (results_ei (s := 6) (k := 7) rfl rfl rfl (ex_set RZ.out _ _ _ _ _ _ _ _)) rfl ⟨y, Ay, ny, cy, er, rfl, Lib.hid (fun h => ⟨(hy.out h).1, (hy.out h).2.keep (fun b hb hl => ex_far (by omega) _ _ _ _ _ _ _ _) (fun b hb _ => by omega) (by simp [World.setCell])⟩), Lib.hid ?_⟩
   have hb := B3.out
   have hs := hb.size
   go_grown
 ·have r1 : (er != 0) = true := by simpa using her
  have r2 : (er == 0) = false := by simpa using her
  have HER := Lib.hid her
  have RZ := Lib.hid Y2.out
  have hfz := fun o => RZ.out.frozen o
  have q0 := RZ.out.cell 0
  have q1 := RZ.out.cell 1
  have q2 := RZ.out.cell 2
  have q3 := RZ.out.cell 3
  have q4 := RZ.out.cell 4
  have q5 := RZ.out.cell 5
  have q6 := RZ.out.cell 6
  have q7 := RZ.out.cell 7
  have hrl := RZ.out.lt
  clear her hok
  go_wp2_with fail
  refine bodyPost_ret (results_ei (s := 6) (k := 7) rfl rfl rfl (ex_set RZ.out _ _ _ _ _ _ _ _)) rfl ⟨zeroEx, none, 0, 0, er, rfl, Lib.hid (fun h => absurd h HER.out), Lib.hid ?_⟩
  have hb := B2.out
  have hs := hb.size
  go_grown

end Go.Proofs.YtbcmmecilheicaaGreatDoor
