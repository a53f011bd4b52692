/- exec's runner.before, whatever the order. -/
import Derived.Test.YtbcmmecilheicaaGreatDoorTruA
import Derived.Test.YtbcmmecilheicaaGreatDoorSrtBP
namespace Go.Proofs.YtbcmmecilheicaaGreatDoor
open Go Go.RowKit

set_option maxRecDepth 100000 in
set_option maxHeartbeats 8000000 in
theorem before32 (w : World) (tb : ByteArray) (T1 : Option Addr) (t1 u1 : Nat) (T2 : Option Addr) (t2 u2 : Nat) (T3 : Option Addr) (t3 u3 : Nat) (T4 : Option Addr) (t4 u4 : Nat) (OA : Option Addr) (m u5 : Nat) (lim : Int) (ag : Bool) (T8 : Option Addr) (t8 u8 : Nat) (LA : Option Addr) (ln lc : Nat)
  (a b : ElP) (os : List (Ex × Bool)) (ho : OrdsAt w OA m os) (hm : m ≤ 3518437208881) (la lb : List Val) (ha : ValsAt w a.a2 a.n2 la) (hb : ValsAt w b.a2 b.n2 lb) (ham : a.n2 = m) (hbm : b.n2 = m) :
  Calls Tryz.prog 59 #[.agg #[.string tb, .slice T1 t1 u1, .slice T2 t2 u2, .slice T3 t3 u3, .slice T4 t4 u4, .slice OA m u5, .int .i64 lim, .bool ag, .slice T8 t8 u8, .slice LA ln lc], .agg #[.slice a.a a.n a.c, .slice a.a' a.n' a.c', .slice a.a2 a.n2 a.c2], .agg #[.slice b.a b.n b.c, .slice b.a' b.n' b.c', .slice b.a2 b.n2 b.c2]] w
   fun e w' => e = .returned (.int .i64 (ordCmp (os.map (·.2)) la lb)) ∧ Hid (Below w.heap.size w w') := by
 obtain ⟨w1, hw1⟩ : ∃ z, z = ((w.alloc (.cells #[.string tb, .slice T1 t1 u1, .slice T2 t2 u2, .slice T3 t3 u3, .slice T4 t4 u4, .slice OA m u5, .int .i64 lim, .bool ag, .slice T8 t8 u8, .slice LA ln lc] 141)).alloc (.cells #[.slice a.a a.n a.c, .slice a.a' a.n' a.c', .slice a.a2 a.n2 a.c2] 147)).alloc (.cells #[.slice b.a b.n b.c, .slice b.a' b.n' b.c', .slice b.a2 b.n2 b.c2] 147) := ⟨_, rfl⟩
 have Z1 := Lib.hid (show Blk w1 w.heap.size 141 #[.string tb, .slice T1 t1 u1, .slice T2 t2 u2, .slice T3 t3 u3, .slice T4 t4 u4, .slice OA m u5, .int .i64 lim, .bool ag, .slice T8 t8 u8, .slice LA ln lc] by rw [hw1]; exact ((Blk.new w 141 _).alloc _).alloc _)
 have Z2 := Lib.hid (show Blk w1 (w.heap.size + 1) 147 #[.slice a.a a.n a.c, .slice a.a' a.n' a.c', .slice a.a2 a.n2 a.c2] by rw [hw1]; exact (blk_new' (w := w.alloc _) rfl (by simp)).alloc _)
 have Z3 := Lib.hid (show Blk w1 (w.heap.size + 1 + 1) 147 #[.slice b.a b.n b.c, .slice b.a' b.n' b.c', .slice b.a2 b.n2 b.c2] by rw [hw1]; exact blk_new' (w := (w.alloc _).alloc _) rfl (by simp))
 have B1 := Lib.hid (show Below w.heap.size w w1 by rw [hw1]; exact bt (below_alloc _ _) (bt (below_alloc _ _) (below_alloc _ _)))
 have HO := Lib.hid (ho.below B1.out)
 have HA := Lib.hid (ha.below B1.out)
 have HB := Lib.hid (hb.below B1.out)
 have HAM := Lib.hid ham
 have HBM := Lib.hid hbm
 have z5 := Z1.out.cell 5
 have hs1 := Z3.out.lt
 clear ho ha hb ham hbm
 go_enter Tryz.func59, Tryz.ntmps59
 go_upto_region 1 with fail
 rw [← hw1]
 clear hw1
 go_wp2_with fail
 clear z5
 go_loopg [14] m (fun kx s14 wr => ∃ i : Nat, s14 = .int .i64 i ∧ kx + i = m ∧ Hid (Below w1.heap.size w1 wr ∧ ordCmp (os.map (·.2)) la lb = ordCmp ((os.map (·.2)).drop i) (la.drop i) (lb.drop i)))
 case atStart => exact ⟨0, rfl, rfl, Lib.hid ⟨Below.refl _ _, rfl⟩⟩
 case round =>
  obtain ⟨i, rfl, hk, I⟩ := hrel
  have hi9 : (i : Int) < 3518437208882 := by omega
  have hi0 : (0 : Int) ≤ (i : Int) := by omega
  by_cases hi : i < m
  ·have hiz : (i : Int) < (m : Int) := by omega
   obtain ⟨o, ho⟩ : ∃ o, os[i]? = some o := ⟨_, List.getElem?_eq_getElem (by rw [HO.out.len]; exact hi)⟩
   obtain ⟨u, hu⟩ : ∃ u, la[i]? = some u := ⟨_, List.getElem?_eq_getElem (by rw [HA.out.len, HAM.out]; exact hi)⟩
   obtain ⟨v, hv⟩ : ∃ v, lb[i]? = some v := ⟨_, List.getElem?_eq_getElem (by rw [HB.out.len, HBM.out]; exact hi)⟩
   have hod : (os.map (·.2))[i]? = some o.2 := by rw [List.getElem?_map, ho]; rfl
   have STEP := Lib.hid (ordCmp_at hod hu hv)
   obtain ⟨pb, off, Ae, ne, ce, rfl, hpb, hx, -, hd⟩ := HO.out.at_ i o ho
   obtain ⟨ab, ao, ea, hab, av⟩ := HA.out.at_ i u hu
   obtain ⟨bb, bo, eb, hbb, bv⟩ := HB.out.at_ i v hv
   have EA := Lib.hid ea
   have EB := Lib.hid eb
   obtain ⟨x0, x1, x2, x3, x4, x5, x6, x7⟩ := hx.below hpb I.out.1
   have x8 := (I.out.1.cell (p := ⟨pb, off + i * 9 + 8, none⟩) hpb).trans hd
   have hpb' := Nat.lt_of_lt_of_le hpb I.out.1.size
   obtain ⟨od, hod2⟩ : ∃ d, d = o.2 := ⟨_, rfl⟩
   rw [← hod2] at x8 STEP
   have II := Lib.hid I.out
   have AV := Lib.hid av
   have BV := Lib.hid bv
   clear I hx hd av bv ho hu hv hod hod2 ea eb
   go_upto_region 4 with fail
   obtain ⟨w2, hw2⟩ : ∃ z, z = wr.alloc (.cells #[.string o.1.op, .int .i64 o.1.kind, .int .i64 o.1.col, .int .i64 o.1.val.kind, .int .i64 o.1.val.int, .string o.1.val.text, .bool o.1.val.bool, .slice Ae ne ce, .bool od] 137) := ⟨_, rfl⟩
   have ZX := Lib.hid (show Blk w2 wr.heap.size 137 #[.string o.1.op, .int .i64 o.1.kind, .int .i64 o.1.col, .int .i64 o.1.val.kind, .int .i64 o.1.val.int, .string o.1.val.text, .bool o.1.val.bool, .slice Ae ne ce, .bool od] by rw [hw2]; exact Blk.new wr 137 _)
   have B2 := Lib.hid (show Below w1.heap.size w1 w2 by rw [hw2]; exact bt (below_alloc _ _) II.out.1)
   rw [← hw2]
   clear hw2 x0 x1 x2 x3 x4 x5 x6 x7 x8
   have ha1 : ∀ p : BelowW w2, p.w.cell? ⟨w.heap.size + 1, 2, none⟩ = some (.slice (some ⟨ab, ao, none⟩) m a.c2) := fun p => by rw [(Z2.out.below (bt p.h B2.out)).cell 2, EA.out, HAM.out]; rfl
   have hb1 : ∀ p : BelowW w2, p.w.cell? ⟨w.heap.size + 1 + 1, 2, none⟩ = some (.slice (some ⟨bb, bo, none⟩) m b.c2) := fun p => by rw [(Z3.out.below (bt p.h B2.out)).cell 2, EB.out, HBM.out]; rfl
   have u0 : ∀ p : BelowW w2, p.w.cell? ⟨ab, ao + i * 4, none⟩ = some (.int .i64 u.kind) := fun p => (AV.out.below hab (bt p.h B2.out)).c0
   have u1 : ∀ p : BelowW w2, p.w.cell? ⟨ab, ao + i * 4 + 1, none⟩ = some (.int .i64 u.int) := fun p => (AV.out.below hab (bt p.h B2.out)).c1
   have u2 : ∀ p : BelowW w2, p.w.cell? ⟨ab, ao + i * 4 + 2, none⟩ = some (.string u.text) := fun p => (AV.out.below hab (bt p.h B2.out)).c2
   have u3 : ∀ p : BelowW w2, p.w.cell? ⟨ab, ao + i * 4 + 3, none⟩ = some (.bool u.bool) := fun p => (AV.out.below hab (bt p.h B2.out)).c3
   have v0 : ∀ p : BelowW w2, p.w.cell? ⟨bb, bo + i * 4, none⟩ = some (.int .i64 v.kind) := fun p => (BV.out.below hbb (bt p.h B2.out)).c0
   have v1 : ∀ p : BelowW w2, p.w.cell? ⟨bb, bo + i * 4 + 1, none⟩ = some (.int .i64 v.int) := fun p => (BV.out.below hbb (bt p.h B2.out)).c1
   have v2 : ∀ p : BelowW w2, p.w.cell? ⟨bb, bo + i * 4 + 2, none⟩ = some (.string v.text) := fun p => (BV.out.below hbb (bt p.h B2.out)).c2
   have v3 : ∀ p : BelowW w2, p.w.cell? ⟨bb, bo + i * 4 + 3, none⟩ = some (.bool v.bool) := fun p => (BV.out.below hbb (bt p.h B2.out)).c3
   have CC : Hid (∀ p : BelowW w2, Calls Tryz.prog 95 #[.agg #[.int .i64 u.kind, .int .i64 u.int, .string u.text, .bool u.bool], .agg #[.int .i64 v.kind, .int .i64 v.int, .string v.text, .bool v.bool]] p.w fun e w' => e = .returned (.int .i64 (compareP u v)) ∧ Hid (Below p.w.heap.size p.w w')) := Lib.hid (fun p => compare43 p.w u v)
   refine wp_region_quiet_below (by kernel_rfl) (by kernel_rfl) ?_
   repeat (quiet_step ((go_at_call 95; refine calls_below _ (CC.out _))))
   refine wpQuiet_nil ?_
   intro wq hw'
   have hq : Below w2.heap.size w2 wq := by obtain ⟨p, rfl⟩ := hw'; exact p.h
   clear hw' ha1 hb1 u0 u1 u2 u3 v0 v1 v2 v3 CC
   have x8 := (ZX.out.below hq).cell 8
   have hl8 := (ZX.out.below hq).lt
   have HQ := Lib.hid (bt hq B2.out)
   clear hq
   obtain ⟨c, hc⟩ : ∃ c, c = compareP u v := ⟨_, rfl⟩
   have hcs := compareP_is u v
   rw [← hc] at hcs ⊢
   have HE := Lib.hid (show ordCmp (os.map (·.2)) la lb = if dirCmp od u v ≠ 0 then dirCmp od u v else ordCmp ((os.map (·.2)).drop (i + 1)) (la.drop (i + 1)) (lb.drop (i + 1)) by rw [II.out.2]; exact STEP.out)
   have HCV := Lib.hid hc
   clear hc
   cases od with
   | false =>
    have HD : dirCmp false u v = c := HCV.out.symm
    rw [HD] at HE
    clear HD
    by_cases hz : c = 0
    ·subst hz
     go_wp2_with fail
     go_roundg (gk - 1)
     case measure => omega
     case rel => exact ⟨i + 1, by first | rfl | (simp; done), by omega, Lib.hid ⟨HQ.out, by rw [HE.out]; rfl⟩⟩
    ·have hz1 : (c == 0) = false := by simpa using hz
     have hz2 : (c != 0) = true := by simpa using hz
     have HZ := Lib.hid hz
     clear hz hcs
     go_wp2_with fail
     go_ret
     exact ⟨by rw [HE.out, if_pos HZ.out]; rfl, Lib.hid (bt HQ.out B1.out)⟩
   | true =>
    have HD : dirCmp true u v = -c := by rw [HCV.out]; rfl
    rw [HD] at HE
    clear HD
    have HCC := Lib.hid hcs
    clear hcs
    rcases HCC.out with h | h | h
    ·subst h
     go_wp2_with fail
     go_ret
     exact ⟨by rw [HE.out]; rfl, Lib.hid (bt HQ.out B1.out)⟩
    ·subst h
     go_wp2_with fail
     go_roundg (gk - 1)
     case measure => omega
     case rel => exact ⟨i + 1, by first | rfl | (simp; done), by omega, Lib.hid ⟨HQ.out, by rw [HE.out]; rfl⟩⟩
    ·subst h
     go_wp2_with fail
     go_ret
     exact ⟨by rw [HE.out]; rfl, Lib.hid (bt HQ.out B1.out)⟩
  ·have hiz : ¬ (i : Int) < (m : Int) := by omega
   have HE := Lib.hid (show ordCmp (os.map (·.2)) la lb = 0 by rw [I.out.2]; exact ordCmp_end _ _ _ (by simp [HO.out.len]; omega))
   have HQ := Lib.hid (bt I.out.1 B1.out)
   clear I
   go_wp2_with fail
   go_ret
   exact ⟨by rw [HE.out]; rfl, HQ⟩

end Go.Proofs.YtbcmmecilheicaaGreatDoor
