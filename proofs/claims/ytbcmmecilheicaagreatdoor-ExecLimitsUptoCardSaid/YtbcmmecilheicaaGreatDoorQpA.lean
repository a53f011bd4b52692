/- The document's texts of statements: where, items. The document's texts of statements: queries. The document's check of a statement's form, for queries. The document's Print at queries; Find, find: a statement's table. -/
import Derived.Test.YtbcmmecilheicaaGreatDoorStA
import Derived.Deep.RegionLaw
import Derived.Test.YtbcmmecilheicaaGreatDoorQuA

/- The document's texts of statements: where, items. -/
namespace Go.Proofs.YtbcmmecilheicaaGreatDoor
open Go Go.RowKit

/-- a statement of which a text can be told -/
structure StOk (W : World) (x : St) (l : StL) : Prop where
 at_ : StAt W x l
 few : l.ni + l.nw + l.no ≤ 51
 may : ∀ e ∈ x.all, MayOk e ∧ depthP e ≤ 32
 tb : x.table.size ≤ 1048576
 as_ : ∀ e ∈ x.items, e.2.size ≤ 1048576
 gs : ∀ z ∈ x.group, z.size ≤ 1048576
theorem StOk.below {W W' : World} {x : St} {l : StL} (h : StOk W x l) (hW : Below W.heap.size W W') : StOk W' x l := ⟨h.at_.below hW, h.few, h.may, h.tb, h.as_, h.gs⟩
theorem told_KT {W : World} {x : PEx} {A : Option Addr} {n c : Nat} (h : PExIs W x A n c) (hm : MayOk x ∧ depthP x ≤ 32) : Calls Tryz.prog 75 #[pexAgg x A n c] W (SomeText 47244640256000 W) := by
 refine (told75 h hm.1 (by omega) W (Below.refl _ _)).mono fun e w' h => SomeText.mono ?_ h
 have h1 : 2 ^ depthP x ≤ 2 ^ 32 := Nat.pow_le_pow_right (by omega) hm.2
 have h2 : 11000 * (2 ^ depthP x - 1) ≤ 11000 * (2 ^ 32 - 1) := Nat.mul_le_mul_left _ (by omega)
 omega
theorem St.mem_where {x : St} {e : PEx} (h : e ∈ x.where_) : e ∈ x.all := by simp [St.all, h]
theorem St.mem_item {x : St} {e : PEx × ByteArray} (h : e ∈ x.items) : e.1 ∈ x.all := by
 unfold St.all
 exact List.mem_append_left _ (List.mem_append_left _ (List.mem_map.2 ⟨e, h, rfl⟩))
theorem St.mem_order {x : St} {e : PEx × Bool} (h : e ∈ x.order) : e.1 ∈ x.all := by
 unfold St.all
 exact List.mem_append_right _ (List.mem_map.2 ⟨e, h, rfl⟩)

set_option maxRecDepth 100000 in
set_option maxHeartbeats 8000000 in
theorem where125 (w : World) (x : St) (l : StL) (hx : StOk w x l) : Calls Tryz.prog 125 #[.agg (stCells x l)] w (SomeText (47244640256000 + 7) w) := by
 have HX := Lib.hid hx
 obtain ⟨kd, tb, its, wh, grp, ord, lim⟩ := x
 obtain ⟨ia, ni, ci, wa, nw, cw, ga, ng, cg, oa, no, co⟩ := l
 have hf := hx.few
 simp only at hf
 clear hx
 obtain ⟨w1, hw1⟩ : ∃ z, z = w.alloc (.cells #[.int .i64 kd, .string tb, .slice ia ni ci, .slice wa nw cw, .slice ga ng cg, .slice oa no co, .int .i64 lim] 58) := ⟨_, rfl⟩
 have B1 := Lib.hid (show Below w.heap.size w w1 by rw [hw1]; exact below_alloc _ _)
 have Z1 := Lib.hid (show Blk w1 w.heap.size 58 #[.int .i64 kd, .string tb, .slice ia ni ci, .slice wa nw cw, .slice ga ng cg, .slice oa no co, .int .i64 lim] by rw [hw1]; exact Blk.new w 58 _)
 have z3 := Z1.out.cell 3
 have hl := Z1.out.lt
 go_enter Tryz.func125, Tryz.ntmps125
 go_upto_region 1 with fail
 rw [← hw1]
 clear hw1
 by_cases h0 : nw = 0
 ·subst h0
  go_wp2_with fail
  go_ret
  exact ⟨⟨#[]⟩, rfl, Lib.hid (by show 0 ≤ _; omega), B1⟩
 ·have hz : ((nw : Int) == 0) = false := by simp; omega
  have hz2 : ((nw : Int) == 0) = true ↔ False := by simp; omega
  have h0z : (0 : Int) < (nw : Int) := by omega
  have hW := HX.out.at_.where_.below B1.out
  have hlen := hW.len
  simp only at hlen
  obtain ⟨a, ha⟩ : ∃ a, wh[0]? = some a := ⟨_, List.getElem?_eq_getElem (by rw [hlen]; omega)⟩
  obtain ⟨b, off, Ae, ne, ce, e0, hb, ⟨a0, a1, a2, a3, a4, a5, a6⟩, hai⟩ := hW.at_ 0 a ha
  simp only at e0
  subst e0
  simp only [Nat.zero_mul, Nat.add_zero] at a0 a1 a2 a3 a4 a5 a6
  have CT := Lib.hid (told_KT hai (HX.out.may a (St.mem_where (List.mem_of_getElem? ha))))
  clear hz2 hW ha hai
  go_wp2_with fail
  refine CT.out.mono ?_
  clear CT a0 a1 a2 a3 a4 a5 a6 z3 hl
  rintro e w2 ⟨s, rfl, hs, hb2⟩
  have B2 := Lib.hid (bt hb2.out B1.out)
  have hsz : s.size ≤ 47244640256000 := hs.out
  have hc0 : ¬ 9223372036854775807 < 7 + s.size := by omega
  go_wp2_with fail
  go_ret
  exact ⟨_, rfl, Lib.hid (by rw [ByteArray.size_append]; show 7 + s.size ≤ _; omega), B2⟩

set_option maxRecDepth 100000 in
set_option maxHeartbeats 16000000 in
theorem items124 (w : World) (x : St) (l : StL) (hx : StOk w x l) : Calls Tryz.prog 124 #[.agg (stCells x l)] w (SomeText (51 * (47244640256000 + 1048582)) w) := by
 have HX := Lib.hid hx
 obtain ⟨kd, tb, its, wh, grp, ord, lim⟩ := x
 obtain ⟨ia, ni, ci, wa, nw, cw, ga, ng, cg, oa, no, co⟩ := l
 have hf := hx.few
 simp only at hf
 clear hx
 obtain ⟨w1, hw1⟩ : ∃ z, z = w.alloc (.cells #[.int .i64 kd, .string tb, .slice ia ni ci, .slice wa nw cw, .slice ga ng cg, .slice oa no co, .int .i64 lim] 58) := ⟨_, rfl⟩
 have B1 := Lib.hid (show Below w.heap.size w w1 by rw [hw1]; exact below_alloc _ _)
 have Z1 := Lib.hid (show Blk w1 w.heap.size 58 #[.int .i64 kd, .string tb, .slice ia ni ci, .slice wa nw cw, .slice ga ng cg, .slice oa no co, .int .i64 lim] by rw [hw1]; exact Blk.new w 58 _)
 go_enter Tryz.func124, Tryz.ntmps124
 go_upto_region 1 with fail
 rw [← hw1]
 clear hw1
 go_wp2_with fail
 go_loopg [3, 4] ni (fun kx s3 s4 wr => ∃ (i : Nat) (s : ByteArray), s3 = .string s ∧ s4 = .int .i64 i ∧ kx + i = ni ∧ s.size ≤ i * (47244640256000 + 1048582) ∧ Hid (Below w1.heap.size w1 wr))
 case atStart => exact ⟨0, ⟨#[]⟩, rfl, rfl, by omega, by show 0 ≤ _; omega, Lib.hid (Below.refl _ _)⟩
 case round =>
  obtain ⟨i, s, rfl, rfl, hki, hss, HW⟩ := hrel
  have hi9 : (i : Int) ≤ 51 := by omega
  have hi0 : (0 : Int) ≤ (i : Int) := by omega
  have ZR := Lib.hid (Z1.out.below HW.out)
  have z2 := ZR.out.cell 2
  have hl := ZR.out.lt
  by_cases hi : i < ni
  ·have hiz : (i : Int) < (ni : Int) := by omega
   have HI := Lib.hid (HX.out.at_.items)
   simp only at HI
   obtain ⟨a, ha⟩ : ∃ a, its[i]? = some a := ⟨_, List.getElem?_eq_getElem (by rw [HI.out.len]; exact hi)⟩
   have BR := Lib.hid (bt HW.out B1.out)
   obtain ⟨b, off, Ae, ne, ce, rfl, hb, ha1, hai, ha2⟩ := (HI.out.below BR.out).at_ i a ha
   obtain ⟨a0, a1, a2, a3, a4, a5, a6⟩ := ha1
   have has := HX.out.as_ a (List.mem_of_getElem? ha)
   have CT := Lib.hid (fun (W : World) (h : Below wr.heap.size wr W) => told_KT (hai.bel h) (HX.out.may a.1 (St.mem_item (List.mem_of_getElem? ha))))
   have KC := Lib.hid (fun (W : World) (h : Below wr.heap.size wr W) => And.intro ((ZR.out.below h).cell 2) (And.intro ((h.cell (p := ⟨b, off + i * 8 + 7, none⟩) hb).trans ha2) (And.intro (ZR.out.below h).lt (Nat.lt_of_lt_of_le hb h.size))))
   clear ha hai
   have hsi : i * (47244640256000 + 1048582) ≤ 50 * (47244640256000 + 1048582) := Nat.mul_le_mul_right _ (by omega)
   have hmul : (i + 1) * (47244640256000 + 1048582) = i * (47244640256000 + 1048582) + (47244640256000 + 1048582) := Nat.succ_mul _ _
   by_cases hiz0 : i = 0
   ·have hz1 : ¬ (0 : Int) < (i : Int) := by rw [hiz0]; decide
    have hz2 : decide (0 < i) = false := decide_eq_false (Nat.not_lt.2 (Nat.le_of_eq hiz0))
    clear hiz0
    go_upto_region 7 with fail
    clear hz1 hz2
    obtain ⟨s2, hs2⟩ : ∃ q, q = s := ⟨_, rfl⟩
    have hsz2 : s2.size ≤ i * (47244640256000 + 1048582) + 2 := hs2 ▸ Nat.le_trans hss (Nat.le_add_right _ _)
    rw [← hs2]
    clear hs2 hss
    have hz7 : ¬ 9223372036854775807 < s2.size + 3 := by omega
    go_cut [5, 6] from 7 to 48 (fun s5 s6 wx => ∃ t : ByteArray, s5 = .string t ∧ s6 = .string a.2 ∧ Hid (t.size ≤ 47244640256000) ∧ Hid (Below wr.heap.size wr wx))
    case first =>
     go_region_law (first | (go_simp; go_at_call 75; refine (CT.out _ (below_drew wr)).mono ?_; rintro e w5 ⟨t, rfl, ht, hb5⟩; have hb6 := bt hb5.out (below_drew wr); obtain ⟨k0, k1, k2, k3⟩ := KC.out w5 hb6))
     all_goals
      go_wp2_with fail
      go_meet
      case rel => exact ⟨t, rfl, rfl, ht, Lib.hid (bt hb5.out (below_drew wr))⟩
    case rest =>
     obtain ⟨t, rfl, rfl, HT, HB5⟩ := hcut
     have BW := Lib.hid (bt HB5.out HW.out)
     have z0 := (Z1.out.below BW.out).cell 0
     have hl := (Z1.out.below BW.out).lt
     have htz : t.size ≤ 47244640256000 := HT.out
     clear a0 a1 a2 a3 a4 a5 a6 ha2 z2 CT KC hb
     rename_i hl0
     by_cases hk3 : kd = 3
     ·subst hk3
      have hc1 : ¬ 9223372036854775807 < a.2.size + 3 := by omega
      have hc2 : ¬ 9223372036854775807 < a.2.size + 3 + t.size := by omega
      have hc3 : ¬ 9223372036854775807 < s2.size + (a.2.size + 3 + t.size) := by omega
      go_wp2_with fail
      go_roundg (gk - 1)
      case measure => omega
      case rel => exact ⟨i + 1, _, rfl, by first | rfl | (simp; done), by omega, by (rw [ByteArray.size_append, ByteArray.size_append, ByteArray.size_append]; show s2.size + (a.2.size + 3 + t.size) ≤ _; omega), BW⟩
     ·have k1 : (kd == 3) = false := by simpa using hk3
      by_cases has0 : a.2.toList = []
      ·have k2 : (a.2.toList != []) = false := by simp [has0]
       have k3 : a.2.toList.isEmpty = true := by simp [has0]
       go_wp2_with fail
       go_roundg (gk - 1)
       case measure => omega
       case rel => exact ⟨i + 1, _, rfl, by first | rfl | (simp; done), by omega, by (rw [ByteArray.size_append]; omega), BW⟩
      ·have k3 : a.2.toList.isEmpty = false := by simpa using has0
       go_wp2_with fail
       go_roundg (gk - 1)
       case measure => omega
       case rel => exact ⟨i + 1, _, rfl, by first | rfl | (simp; done), by omega, by (rw [ByteArray.size_append, ByteArray.size_append, ByteArray.size_append]; show s2.size + (t.size + 4 + a.2.size) ≤ _; omega), BW⟩
   ·have hz1 : (0 : Int) < (i : Int) := by omega
    have hz2 : 0 < i := by omega
    have hc0 : ¬ 9223372036854775807 < s.size + 2 := by omega
    clear hiz0
    go_upto_region 7 with fail
    obtain ⟨s2, hs2⟩ : ∃ q : ByteArray, q = s ++ ⟨#[44, 32]⟩ := ⟨_, rfl⟩
    have hsz2 : s2.size ≤ i * (47244640256000 + 1048582) + 2 := by rw [hs2, ByteArray.size_append]; show s.size + 2 ≤ _; omega
    rw [← hs2]
    clear hs2 hss
    have hz7 : ¬ 9223372036854775807 < s2.size + 3 := by omega
    go_cut [5, 6] from 7 to 48 (fun s5 s6 wx => ∃ t : ByteArray, s5 = .string t ∧ s6 = .string a.2 ∧ Hid (t.size ≤ 47244640256000) ∧ Hid (Below wr.heap.size wr wx))
    case first =>
     go_region_law (first | (go_simp; go_at_call 75; refine (CT.out _ (below_drew wr)).mono ?_; rintro e w5 ⟨t, rfl, ht, hb5⟩; have hb6 := bt hb5.out (below_drew wr); obtain ⟨k0, k1, k2, k3⟩ := KC.out w5 hb6))
     all_goals
      go_wp2_with fail
      go_meet
      case rel => exact ⟨t, rfl, rfl, ht, Lib.hid (bt hb5.out (below_drew wr))⟩
    case rest =>
     obtain ⟨t, rfl, rfl, HT, HB5⟩ := hcut
     have BW := Lib.hid (bt HB5.out HW.out)
     have z0 := (Z1.out.below BW.out).cell 0
     have hl := (Z1.out.below BW.out).lt
     have htz : t.size ≤ 47244640256000 := HT.out
     clear a0 a1 a2 a3 a4 a5 a6 ha2 z2 CT KC hb
     rename_i hl0
     by_cases hk3 : kd = 3
     ·subst hk3
      have hc1 : ¬ 9223372036854775807 < a.2.size + 3 := by omega
      have hc2 : ¬ 9223372036854775807 < a.2.size + 3 + t.size := by omega
      have hc3 : ¬ 9223372036854775807 < s2.size + (a.2.size + 3 + t.size) := by omega
      go_wp2_with fail
      go_roundg (gk - 1)
      case measure => omega
      case rel => exact ⟨i + 1, _, rfl, by first | rfl | (simp; done), by omega, by (rw [ByteArray.size_append, ByteArray.size_append, ByteArray.size_append]; show s2.size + (a.2.size + 3 + t.size) ≤ _; omega), BW⟩
     ·have k1 : (kd == 3) = false := by simpa using hk3
      by_cases has0 : a.2.toList = []
      ·have k2 : (a.2.toList != []) = false := by simp [has0]
       have k3 : a.2.toList.isEmpty = true := by simp [has0]
       go_wp2_with fail
       go_roundg (gk - 1)
       case measure => omega
       case rel => exact ⟨i + 1, _, rfl, by first | rfl | (simp; done), by omega, by (rw [ByteArray.size_append]; omega), BW⟩
      ·have k3 : a.2.toList.isEmpty = false := by simpa using has0
       go_wp2_with fail
       go_roundg (gk - 1)
       case measure => omega
       case rel => exact ⟨i + 1, _, rfl, by first | rfl | (simp; done), by omega, by (rw [ByteArray.size_append, ByteArray.size_append, ByteArray.size_append]; show s2.size + (t.size + 4 + a.2.size) ≤ _; omega), BW⟩
  ·have hiz : ¬ (i : Int) < (ni : Int) := by omega
   go_wp2_with fail
   go_ret
   exact ⟨s, rfl, Lib.hid (by have := Nat.mul_le_mul_right (47244640256000 + 1048582) (show i ≤ 51 by omega); omega), Lib.hid (bt HW.out B1.out)⟩

end Go.Proofs.YtbcmmecilheicaaGreatDoor

/- The document's texts of statements: queries. -/
namespace Go.Proofs.YtbcmmecilheicaaGreatDoor
open Go Go.RowKit

set_option maxRecDepth 100000 in
set_option maxHeartbeats 16000000 in
theorem query123 (w : World) (x : St) (l : StL) (hx : StOk w x l) : Calls Tryz.prog 123 #[.agg (stCells x l)] w (SomeText 5000000000000000 w) := by
 have HX := Lib.hid hx
 obtain ⟨kd, tb, its, wh, grp, ord, lim⟩ := x
 obtain ⟨ia, ni, ci, wa, nw, cw, ga, ng, cg, oa, no, co⟩ := l
 have hf := hx.few
 have hng := hx.at_.ng
 have htb := hx.tb
 simp only at hf hng htb
 clear hx
 obtain ⟨w1, hw1⟩ : ∃ z, z = w.alloc (.cells #[.int .i64 kd, .string tb, .slice ia ni ci, .slice wa nw cw, .slice ga ng cg, .slice oa no co, .int .i64 lim] 58) := ⟨_, rfl⟩
 have B1 := Lib.hid (show Below w.heap.size w w1 by rw [hw1]; exact below_alloc _ _)
 have Z1 := Lib.hid (show Blk w1 w.heap.size 58 #[.int .i64 kd, .string tb, .slice ia ni ci, .slice wa nw cw, .slice ga ng cg, .slice oa no co, .int .i64 lim] by rw [hw1]; exact Blk.new w 58 _)
 have CI := Lib.hid (items124 w1 ⟨kd, tb, its, wh, grp, ord, lim⟩ ⟨ia, ni, ci, wa, nw, cw, ga, ng, cg, oa, no, co⟩ (HX.out.below B1.out))
 go_enter Tryz.func123, Tryz.ntmps123
 go_upto_region 1 with fail
 rw [← hw1]
 clear hw1
 go_cut [3] from 8 to 10 (fun s3 wx => ∃ t : ByteArray, s3 = .string t ∧ Hid (t.size ≤ 2409476706533689) ∧ Hid (Below w1.heap.size w1 wx))
 case first =>
  have z0 := Z1.out.cell 0
  have z1 := Z1.out.cell 1
  have z2 := Z1.out.cell 2
  have z3 := Z1.out.cell 3
  have z4 := Z1.out.cell 4
  have z5 := Z1.out.cell 5
  have z6 := Z1.out.cell 6
  have hl := Z1.out.lt
  go_wp2_with fail
  refine CI.out.mono ?_
  clear CI z0 z1 z2 z3 z4 z5 z6 hl
  rintro e w2 ⟨s, rfl, hs, hb2⟩
  have hsz : s.size ≤ 2409476706533682 := hs.out
  have hc0 : ¬ 9223372036854775807 < 7 + s.size := by omega
  go_wp2_with fail
  go_meet
  case rel => exact ⟨_, rfl, Lib.hid (by rw [ByteArray.size_append]; show 7 + s.size ≤ _; omega), hb2⟩
 case rest =>
 obtain ⟨s, rfl, HS, HB2⟩ := hcut
 rename World => w2
 clear CI
 have B2 := Lib.hid (bt HB2.out B1.out)
 have Z2 := Lib.hid (Z1.out.below HB2.out)
 have hsz := HS.out
 go_step
 go_step
 go_cut [3] from 11 to 16 (fun s3 wx => ∃ t : ByteArray, s3 = .string t ∧ Hid (t.size ≤ 2409476706533690) ∧ wx = w2)
 case first =>
  have z2 := Z2.out.cell 2
  have hl := Z2.out.lt
  have hc1 : ¬ 9223372036854775807 < s.size + 1 := by omega
  by_cases h0 : ni = 0
  ·have hz : ((ni : Int) == 0) = true := by simp [h0]
   clear h0
   go_wp2_with fail
   go_meet
   case rel => exact ⟨_, rfl, Lib.hid (by rw [ByteArray.size_append]; show s.size + 1 ≤ _; omega), rfl⟩
  ·have hz : ((ni : Int) == 0) = false := by simp; omega
   go_wp2_with fail
   go_meet
   case rel => exact ⟨_, rfl, Lib.hid (by omega), rfl⟩
 case rest =>
 obtain ⟨s2, rfl, HS2, rfl⟩ := hcut
 rename World => w2
 clear hsz HS
 have hs2 := HS2.out
 have hz1 : ¬ 9223372036854775807 < s2.size + 6 := by omega
 have hz2 : ¬ 9223372036854775807 < s2.size + 6 + tb.size := by omega
 have CW := Lib.hid (fun (W : World) (h : Below w2.heap.size w2 W) => where125 W ⟨kd, tb, its, wh, grp, ord, lim⟩ ⟨ia, ni, ci, wa, nw, cw, ga, ng, cg, oa, no, co⟩ (HX.out.below (bt h B2.out)))
 go_upto_region 4 with fail
 go_cut [3] from 17 to 24 (fun s3 wx => ∃ t : ByteArray, s3 = .string t ∧ Hid (t.size ≤ 2456721347838300) ∧ Hid (Below w2.heap.size w2 wx))
 case first =>
  have z0 := Z2.out.cell 0
  have z1 := Z2.out.cell 1
  have z2 := Z2.out.cell 2
  have z3 := Z2.out.cell 3
  have z4 := Z2.out.cell 4
  have z5 := Z2.out.cell 5
  have z6 := Z2.out.cell 6
  have hl := Z2.out.lt
  go_region_law (first | (go_simp; go_at_call 125; refine (CW.out _ (below_drew w2)).mono ?_; rintro e w5 ⟨t, rfl, ht, hb5⟩; have hb6 := bt hb5.out (below_drew w2); have hl5 := (Z2.out.below hb6).lt; have y1 := (Z2.out.below hb6).cell 1; have htz : t.size ≤ 47244640256007 := ht.out; have hz3 : ¬ 9223372036854775807 < s2.size + 6 + tb.size + t.size := by omega))
  all_goals
   go_wp2_with fail
   go_meet
   case rel => exact ⟨_, rfl, Lib.hid (by rw [ByteArray.size_append, ByteArray.size_append, ByteArray.size_append]; show s2.size + 6 + tb.size + t.size ≤ _; omega), Lib.hid (bt hb5.out (below_drew w2))⟩
 case rest =>
 obtain ⟨s3, rfl, HS3, HB3⟩ := hcut
 rename World => w3
 clear hs2 hz1 hz2 CW HS2
 have B3 := Lib.hid (bt HB3.out B2.out)
 have Z3 := Lib.hid (Z2.out.below HB3.out)
 have hs3 := HS3.out
 go_wp2_with fail
 go_loopg [3, 4] ng (fun kx s3 s4 wr => ∃ (i : Nat) (s : ByteArray), s3 = .string s ∧ s4 = .int .i64 i ∧ kx + i = ng ∧ s.size ≤ 2456721347838300 + i * 1048586 ∧ wr = w3)
 case atStart => exact ⟨0, s3, rfl, rfl, by omega, by omega, rfl⟩
 case round =>
  obtain ⟨i, s, rfl, rfl, hki, hss, rfl⟩ := hrel
  rename World => w3
  have hi9 : (i : Int) ≤ 1048576 := by omega
  have hi0 : (0 : Int) ≤ (i : Int) := by omega
  have z4 := Z3.out.cell 4
  have hl := Z3.out.lt
  by_cases hi : i < ng
  ·have hiz : (i : Int) < (ng : Int) := by omega
   have HG := HX.out.at_.group.below B3.out
   simp only at HG
   obtain ⟨a, ha⟩ : ∃ a, grp[i]? = some a := ⟨_, List.getElem?_eq_getElem (by rw [HG.len]; exact hi)⟩
   obtain ⟨b, off, rfl, hb, a0⟩ := HG.at_ i a ha
   have haz := HX.out.gs a (List.mem_of_getElem? ha)
   have hmul : i * 1048586 ≤ 1048576 * 1048586 := Nat.mul_le_mul_right _ (by omega)
   have hmul2 : (i + 1) * 1048586 = i * 1048586 + 1048586 := Nat.succ_mul _ _
   have hc0 : ¬ 9223372036854775807 < s.size + 2 := by omega
   have hc1 : ¬ 9223372036854775807 < s.size + 2 + a.size := by omega
   have hc2 : ¬ 9223372036854775807 < s.size + 10 := by omega
   have hc3 : ¬ 9223372036854775807 < s.size + 10 + a.size := by omega
   clear ha HG
   by_cases h0 : i = 0
   ·have k0 : ((i : Int) == 0) = true := by simp [h0]
    clear h0
    go_wp2_with fail
    go_roundg (gk - 1)
    case measure => omega
    case rel => exact ⟨i + 1, _, rfl, by first | rfl | (simp; done), by omega, by (rw [ByteArray.size_append, ByteArray.size_append]; show s.size + 10 + a.size ≤ _; omega), rfl⟩
   ·have k0 : ((i : Int) == 0) = false := by simp; omega
    clear h0
    go_wp2_with fail
    go_roundg (gk - 1)
    case measure => omega
    case rel => exact ⟨i + 1, _, rfl, by first | rfl | (simp; done), by omega, by (rw [ByteArray.size_append, ByteArray.size_append]; show s.size + 2 + a.size ≤ _; omega), rfl⟩
  ·have hiz : ¬ (i : Int) < (ng : Int) := by omega
   have hs4 : s.size ≤ 2457820870000000 := by
    have hmul : i * 1048586 ≤ 1048576 * 1048586 := Nat.mul_le_mul_right _ (by omega)
    omega
   go_wp2_with fail
   clear hiz hi hki hi9 hi0 z4 hl hss
   go_loopg [3, 6] no (fun kx s3 s6 wr => ∃ (i : Nat) (s : ByteArray), s3 = .string s ∧ s6 = .int .i64 i ∧ kx + i = no ∧ s.size ≤ 2457820870000000 + i * 47244640256015 ∧ Hid (Below w3.heap.size w3 wr))
   case atStart => exact ⟨0, s, rfl, rfl, by omega, by omega, Lib.hid (Below.refl _ _)⟩
   case round =>
    obtain ⟨i, s, rfl, rfl, hki, hss, HW⟩ := hrel
    have hi9 : (i : Int) ≤ 51 := by omega
    have hi0 : (0 : Int) ≤ (i : Int) := by omega
    have Z4 := Lib.hid (Z3.out.below HW.out)
    have z5 := Z4.out.cell 5
    have hl := Z4.out.lt
    have B4 := Lib.hid (bt HW.out B3.out)
    have hmul : i * 47244640256015 ≤ 51 * 47244640256015 := Nat.mul_le_mul_right _ (by omega)
    by_cases hi : i < no
    ·have hiz : (i : Int) < (no : Int) := by omega
     have HG := HX.out.at_.order.below B4.out
     simp only at HG
     obtain ⟨a, ha⟩ : ∃ a, ord[i]? = some a := ⟨_, List.getElem?_eq_getElem (by rw [HG.len]; exact hi)⟩
     obtain ⟨b, off, Ae, ne, ce, rfl, hb, ⟨a0, a1, a2, a3, a4, a5, a6⟩, hai, a7⟩ := HG.at_ i a ha
     have CT := Lib.hid (told_KT hai (HX.out.may a.1 (St.mem_order (List.mem_of_getElem? ha))))
     have hmul2 : (i + 1) * 47244640256015 = i * 47244640256015 + 47244640256015 := Nat.succ_mul _ _
     have hc0 : ¬ 9223372036854775807 < s.size + 2 := by omega
     have hc2 : ¬ 9223372036854775807 < s.size + 10 := by omega
     clear ha HG hai
     by_cases h0 : i = 0
     ·have k0 : ((i : Int) == 0) = true := by simp [h0]
      clear h0
      go_wp2_with fail
      refine CT.out.mono ?_
      clear CT a0 a1 a2 a3 a4 a5 a6 z5 hl
      rintro e w5 ⟨t, rfl, ht, hb5⟩
      have hb' := Nat.lt_of_lt_of_le hb hb5.out.size
      have a7' := (hb5.out.cell (p := ⟨b, off + i * 8 + 7, none⟩) hb).trans a7
      have z5 := (Z4.out.below hb5.out).cell 5
      have hl := (Z4.out.below hb5.out).lt
      have BW := Lib.hid (bt hb5.out HW.out)
      have htz : t.size ≤ 47244640256000 := ht.out
      have hd1 : ¬ 9223372036854775807 < s.size + 10 + t.size := by omega
      have hd2 : ¬ 9223372036854775807 < s.size + 10 + t.size + 5 := by omega
      obtain ⟨aP, aD⟩ := a
      simp only at a7'
      clear a7 hb5 ht
      cases aD with
      | true =>
       go_wp2_with fail
       go_roundg (gk - 1)
       case measure => omega
       case rel => exact ⟨i + 1, _, rfl, by first | rfl | (simp; done), by omega, by (rw [ByteArray.size_append, ByteArray.size_append, ByteArray.size_append]; show s.size + 10 + t.size + 5 ≤ _; omega), BW⟩
      | false =>
       go_wp2_with fail
       go_roundg (gk - 1)
       case measure => omega
       case rel => exact ⟨i + 1, _, rfl, by first | rfl | (simp; done), by omega, by (rw [ByteArray.size_append, ByteArray.size_append]; show s.size + 10 + t.size ≤ _; omega), BW⟩
     ·have k0 : ((i : Int) == 0) = false := by simp; omega
      clear h0
      go_wp2_with fail
      refine CT.out.mono ?_
      clear CT a0 a1 a2 a3 a4 a5 a6 z5 hl
      rintro e w5 ⟨t, rfl, ht, hb5⟩
      have hb' := Nat.lt_of_lt_of_le hb hb5.out.size
      have a7' := (hb5.out.cell (p := ⟨b, off + i * 8 + 7, none⟩) hb).trans a7
      have z5 := (Z4.out.below hb5.out).cell 5
      have hl := (Z4.out.below hb5.out).lt
      have BW := Lib.hid (bt hb5.out HW.out)
      have htz : t.size ≤ 47244640256000 := ht.out
      have hd1 : ¬ 9223372036854775807 < s.size + 2 + t.size := by omega
      have hd2 : ¬ 9223372036854775807 < s.size + 2 + t.size + 5 := by omega
      obtain ⟨aP, aD⟩ := a
      simp only at a7'
      clear a7 hb5 ht
      cases aD with
      | true =>
       go_wp2_with fail
       go_roundg (gk - 1)
       case measure => omega
       case rel => exact ⟨i + 1, _, rfl, by first | rfl | (simp; done), by omega, by (rw [ByteArray.size_append, ByteArray.size_append, ByteArray.size_append]; show s.size + 2 + t.size + 5 ≤ _; omega), BW⟩
      | false =>
       go_wp2_with fail
       go_roundg (gk - 1)
       case measure => omega
       case rel => exact ⟨i + 1, _, rfl, by first | rfl | (simp; done), by omega, by (rw [ByteArray.size_append, ByteArray.size_append]; show s.size + 2 + t.size ≤ _; omega), BW⟩
    ·have hiz : ¬ (i : Int) < (no : Int) := by omega
     have hmul3 : i * 47244640256015 ≤ 51 * 47244640256015 := hmul
     have z6 := Z4.out.cell 6
     have hsz : s.size ≤ 4870000000000000 := by omega
     clear hmul hmul3 hss
     have hd1 : ¬ 9223372036854775807 < s.size + 7 := by omega
     by_cases hlim : 0 ≤ lim
     ·have hl1 : decide (0 ≤ lim) = true := by simpa using hlim
      go_wp2_with fail
      refine (digits146 wr lim).mono ?_
      rintro e w5 ⟨t, rfl, ht, hb5⟩
      have htz : t.size ≤ 21 := ht.out
      have hd2 : ¬ 9223372036854775807 < s.size + 7 + t.size := by omega
      go_wp2_with fail
      go_ret
      exact ⟨_, rfl, Lib.hid (by rw [ByteArray.size_append, ByteArray.size_append]; show s.size + 7 + t.size ≤ _; omega), Lib.hid (bt hb5.out B4.out)⟩
     ·have hl1 : decide (0 ≤ lim) = false := by simpa using hlim
      go_wp2_with fail
      go_ret
      exact ⟨s, rfl, Lib.hid (by omega), B4⟩

end Go.Proofs.YtbcmmecilheicaaGreatDoor

/- The document's check of a statement's form, for queries. -/
namespace Go.Proofs.YtbcmmecilheicaaGreatDoor
open Go Go.RowKit

set_option maxRecDepth 100000 in
set_option maxHeartbeats 16000000 in
theorem formed122q (w : World) (x : St) (l : StL) (hx : StAt w x l) (hk : x.kind = 1 ∨ x.kind = 10) (htb : x.table.size ≤ TB) (has : ∀ e ∈ x.items, e.2.size ≤ TB) (hgs : ∀ z ∈ x.group, z.size ≤ TB) : Calls Tryz.prog 122 #[.agg (stCells x l)] w (SomeB w) := by
 have HX := Lib.hid hx
 have HAS := Lib.hid has
 have HGS := Lib.hid hgs
 obtain ⟨kd, tb, its, wh, grp, ord, lim⟩ := x
 obtain ⟨ia, ni, ci, wa, nw, cw, ga, ng, cg, oa, no, co⟩ := l
 have n1 := hx.ni
 have n2 := hx.nw
 have n3 := hx.ng
 simp only at n1 n2 n3 hk htb HAS HGS
 clear hx has hgs
 have HTB := Lib.hid htb
 clear htb
 obtain ⟨w1, hw1⟩ : ∃ z, z = w.alloc (.cells #[.int .i64 kd, .string tb, .slice ia ni ci, .slice wa nw cw, .slice ga ng cg, .slice oa no co, .int .i64 lim] 58) := ⟨_, rfl⟩
 have B1 := Lib.hid (show Below w.heap.size w w1 by rw [hw1]; exact below_alloc _ _)
 have Z1 := Lib.hid (show Blk w1 w.heap.size 58 #[.int .i64 kd, .string tb, .slice ia ni ci, .slice wa nw cw, .slice ga ng cg, .slice oa no co, .int .i64 lim] by rw [hw1]; exact Blk.new w 58 _)
 have CN := Lib.hid (name145 w1 tb HTB.out)
 have z0 := Z1.out.cell 0
 have z1 := Z1.out.cell 1
 have hl := Z1.out.lt
 go_enter Tryz.func122, Tryz.ntmps122
 go_upto_region 1 with fail
 rw [← hw1]
 clear hw1
 rcases hk with rfl | rfl
 ·skip
  go_wp2_with fail
  refine CN.out.mono ?_
  clear CN z0 z1 hl
  rintro e w2 ⟨q, rfl, -, hb2⟩
  have B2 := Lib.hid (bt hb2.out B1.out)
  have Z2 := Lib.hid (Z1.out.below hb2.out)
  clear hb2
  cases q with
  | false =>
   go_wp2_with fail
   go_ret
   exact ⟨false, rfl, B2⟩
  | true =>
   have z0 := Z2.out.cell 0
   have z2 := Z2.out.cell 2
   have z3 := Z2.out.cell 3
   have z6 := Z2.out.cell 6
   have hl := Z2.out.lt
   by_cases hw1 : (1 : Int) < (nw : Int)
   ·have hw2 : 1 < nw := by omega
    go_wp2_with fail
    go_ret
    exact ⟨false, rfl, B2⟩
   ·have hw2 : decide (1 < nw) = false := decide_eq_false (by omega)
    obtain ⟨qn, hqn⟩ : ∃ q, ((nw : Int) == 1) = q := ⟨_, rfl⟩
    go_upto_region 8 with fail
    go_cut [81] from 82 to 105 (fun s81 wx => s81 = .bool false ∧ wx = w2)
    case first =>
     cases qn
     all_goals
      go_wp2_with fail
      go_meet
      case rel => first | exact ⟨rfl, rfl⟩ | exact ⟨congrArg Value.bool (decide_eq_false hw1), rfl⟩ | exact ⟨by simp; omega, rfl⟩
    case rest =>
    obtain ⟨rfl, rfl⟩ := hcut
    rename World => w2
    clear hqn hw1 hw2 z3
    by_cases hlm : lim < -1
    ·go_wp2_with fail
     go_ret
     exact ⟨false, rfl, B2⟩
    ·go_upto_region 14 with fail
     clear hlm z0 z2 z6 hl
     go_wp2_with fail
     go_loopg [6] ni (fun kx s6 wr => ∃ i : Nat, s6 = .int .i64 i ∧ kx + i = ni ∧ Hid (Below w2.heap.size w2 wr))
     case atStart => exact ⟨0, rfl, by omega, Lib.hid (Below.refl _ _)⟩
     case round =>
      obtain ⟨i, rfl, hki, HW⟩ := hrel
      have hi9 : (i : Int) ≤ 1048576 := by omega
      have hi0 : (0 : Int) ≤ (i : Int) := by omega
      have Z4 := Lib.hid (Z2.out.below HW.out)
      have z0 := Z4.out.cell 0
      have z2 := Z4.out.cell 2
      have hl := Z4.out.lt
      have B4 := Lib.hid (bt HW.out B2.out)
      by_cases hi : i < ni
      ·have hiz : (i : Int) < (ni : Int) := by omega
       have HG := HX.out.items.below B4.out
       simp only at HG
       obtain ⟨a, ha⟩ : ∃ a, its[i]? = some a := ⟨_, List.getElem?_eq_getElem (by rw [HG.len]; exact hi)⟩
       obtain ⟨b, off, Ae, ne, ce, rfl, hb, -, -, a7⟩ := HG.at_ i a ha
       have CA := Lib.hid (name145 wr a.2 (HAS.out a (List.mem_of_getElem? ha)))
       clear ha HG
       by_cases has0 : a.2.toList = []
       ·have k3 : a.2.toList.isEmpty = true := by simp [has0]
        clear has0
        go_wp2_with fail
        go_roundg (gk - 1)
        case measure => omega
        case rel => exact ⟨i + 1, by first | rfl | (simp; done), by omega, HW⟩
       ·have k3 : a.2.toList.isEmpty = false := by simpa using has0
        clear has0
        go_wp2_with fail
        refine CA.out.mono ?_
        clear CA a7 z0 z2 hl hb
        rintro e w5 ⟨q, rfl, -, hb5⟩
        have BW := Lib.hid (bt hb5.out HW.out)
        have hl5 := (Z4.out.below hb5.out).lt
        clear hb5
        cases q with
        | false =>
         go_wp2_with fail
         go_ret
         exact ⟨false, rfl, Lib.hid (bt BW.out B2.out)⟩
        | true =>
         go_wp2_with fail
         go_roundg (gk - 1)
         case measure => omega
         case rel => exact ⟨i + 1, by first | rfl | (simp; done), by omega, BW⟩
      ·have hiz : ¬ (i : Int) < (ni : Int) := by omega
       go_wp2_with fail
       rename World => w4
       clear hiz hi hki hi9 hi0 z0 z2 hl
       go_loopg [8] ng (fun kx s8 wr => ∃ i : Nat, s8 = .int .i64 i ∧ kx + i = ng ∧ Hid (Below w4.heap.size w4 wr))
       case atStart => exact ⟨0, rfl, by omega, Lib.hid (Below.refl _ _)⟩
       case round =>
        obtain ⟨i, rfl, hki, HV⟩ := hrel
        have hi9 : (i : Int) ≤ 1048576 := by omega
        have hi0 : (0 : Int) ≤ (i : Int) := by omega
        have Z5 := Lib.hid (Z4.out.below HV.out)
        have z4 := Z5.out.cell 4
        have hl := Z5.out.lt
        have B5 := Lib.hid (bt HV.out B4.out)
        by_cases hi : i < ng
        ·have hiz : (i : Int) < (ng : Int) := by omega
         have HG := HX.out.group.below B5.out
         simp only at HG
         obtain ⟨a, ha⟩ : ∃ a, grp[i]? = some a := ⟨_, List.getElem?_eq_getElem (by rw [HG.len]; exact hi)⟩
         obtain ⟨b, off, rfl, hb, a7⟩ := HG.at_ i a ha
         have CA := Lib.hid (name145 wr a (HGS.out a (List.mem_of_getElem? ha)))
         clear ha HG
         go_wp2_with fail
         refine CA.out.mono ?_
         clear CA a7 z4 hl hb
         rintro e w6 ⟨q, rfl, -, hb6⟩
         have BW := Lib.hid (bt hb6.out HV.out)
         clear hb6
         cases q with
         | false =>
          go_wp2_with fail
          go_ret
          exact ⟨false, rfl, Lib.hid (bt BW.out B4.out)⟩
         | true =>
          go_wp2_with fail
          go_roundg (gk - 1)
          case measure => omega
          case rel => exact ⟨i + 1, by first | rfl | (simp; done), by omega, BW⟩
        ·have hiz : ¬ (i : Int) < (ng : Int) := by omega
         go_wp2_with fail
         go_ret
         exact ⟨true, rfl, B5⟩
 ·skip
  go_wp2_with fail
  refine CN.out.mono ?_
  clear CN z0 z1 hl
  rintro e w2 ⟨q, rfl, -, hb2⟩
  have B2 := Lib.hid (bt hb2.out B1.out)
  have Z2 := Lib.hid (Z1.out.below hb2.out)
  clear hb2
  cases q with
  | false =>
   go_wp2_with fail
   go_ret
   exact ⟨false, rfl, B2⟩
  | true =>
   have z0 := Z2.out.cell 0
   have z2 := Z2.out.cell 2
   have z3 := Z2.out.cell 3
   have z6 := Z2.out.cell 6
   have hl := Z2.out.lt
   by_cases hw1 : (1 : Int) < (nw : Int)
   ·have hw2 : 1 < nw := by omega
    go_wp2_with fail
    go_ret
    exact ⟨false, rfl, B2⟩
   ·have hw2 : decide (1 < nw) = false := decide_eq_false (by omega)
    obtain ⟨qn, hqn⟩ : ∃ q, ((nw : Int) == 1) = q := ⟨_, rfl⟩
    go_upto_region 8 with fail
    go_cut [81] from 82 to 105 (fun s81 wx => s81 = .bool false ∧ wx = w2)
    case first =>
     cases qn
     all_goals
      go_wp2_with fail
      go_meet
      case rel => first | exact ⟨rfl, rfl⟩ | exact ⟨congrArg Value.bool (decide_eq_false hw1), rfl⟩ | exact ⟨by simp; omega, rfl⟩
    case rest =>
    obtain ⟨rfl, rfl⟩ := hcut
    rename World => w2
    clear hqn hw1 hw2 z3
    by_cases hlm : lim < -1
    ·go_wp2_with fail
     go_ret
     exact ⟨false, rfl, B2⟩
    ·go_upto_region 14 with fail
     clear hlm z0 z2 z6 hl
     go_wp2_with fail
     go_loopg [6] ni (fun kx s6 wr => ∃ i : Nat, s6 = .int .i64 i ∧ kx + i = ni ∧ Hid (Below w2.heap.size w2 wr))
     case atStart => exact ⟨0, rfl, by omega, Lib.hid (Below.refl _ _)⟩
     case round =>
      obtain ⟨i, rfl, hki, HW⟩ := hrel
      have hi9 : (i : Int) ≤ 1048576 := by omega
      have hi0 : (0 : Int) ≤ (i : Int) := by omega
      have Z4 := Lib.hid (Z2.out.below HW.out)
      have z0 := Z4.out.cell 0
      have z2 := Z4.out.cell 2
      have hl := Z4.out.lt
      have B4 := Lib.hid (bt HW.out B2.out)
      by_cases hi : i < ni
      ·have hiz : (i : Int) < (ni : Int) := by omega
       have HG := HX.out.items.below B4.out
       simp only at HG
       obtain ⟨a, ha⟩ : ∃ a, its[i]? = some a := ⟨_, List.getElem?_eq_getElem (by rw [HG.len]; exact hi)⟩
       obtain ⟨b, off, Ae, ne, ce, rfl, hb, -, -, a7⟩ := HG.at_ i a ha
       have CA := Lib.hid (name145 wr a.2 (HAS.out a (List.mem_of_getElem? ha)))
       clear ha HG
       by_cases has0 : a.2.toList = []
       ·have k3 : a.2.toList.isEmpty = true := by simp [has0]
        clear has0
        go_wp2_with fail
        go_roundg (gk - 1)
        case measure => omega
        case rel => exact ⟨i + 1, by first | rfl | (simp; done), by omega, HW⟩
       ·have k3 : a.2.toList.isEmpty = false := by simpa using has0
        clear has0
        go_wp2_with fail
        refine CA.out.mono ?_
        clear CA a7 z0 z2 hl hb
        rintro e w5 ⟨q, rfl, -, hb5⟩
        have BW := Lib.hid (bt hb5.out HW.out)
        have hl5 := (Z4.out.below hb5.out).lt
        clear hb5
        cases q with
        | false =>
         go_wp2_with fail
         go_ret
         exact ⟨false, rfl, Lib.hid (bt BW.out B2.out)⟩
        | true =>
         go_wp2_with fail
         go_roundg (gk - 1)
         case measure => omega
         case rel => exact ⟨i + 1, by first | rfl | (simp; done), by omega, BW⟩
      ·have hiz : ¬ (i : Int) < (ni : Int) := by omega
       go_wp2_with fail
       rename World => w4
       clear hiz hi hki hi9 hi0 z0 z2 hl
       go_loopg [8] ng (fun kx s8 wr => ∃ i : Nat, s8 = .int .i64 i ∧ kx + i = ng ∧ Hid (Below w4.heap.size w4 wr))
       case atStart => exact ⟨0, rfl, by omega, Lib.hid (Below.refl _ _)⟩
       case round =>
        obtain ⟨i, rfl, hki, HV⟩ := hrel
        have hi9 : (i : Int) ≤ 1048576 := by omega
        have hi0 : (0 : Int) ≤ (i : Int) := by omega
        have Z5 := Lib.hid (Z4.out.below HV.out)
        have z4 := Z5.out.cell 4
        have hl := Z5.out.lt
        have B5 := Lib.hid (bt HV.out B4.out)
        by_cases hi : i < ng
        ·have hiz : (i : Int) < (ng : Int) := by omega
         have HG := HX.out.group.below B5.out
         simp only at HG
         obtain ⟨a, ha⟩ : ∃ a, grp[i]? = some a := ⟨_, List.getElem?_eq_getElem (by rw [HG.len]; exact hi)⟩
         obtain ⟨b, off, rfl, hb, a7⟩ := HG.at_ i a ha
         have CA := Lib.hid (name145 wr a (HGS.out a (List.mem_of_getElem? ha)))
         clear ha HG
         go_wp2_with fail
         refine CA.out.mono ?_
         clear CA a7 z4 hl hb
         rintro e w6 ⟨q, rfl, -, hb6⟩
         have BW := Lib.hid (bt hb6.out HV.out)
         clear hb6
         cases q with
         | false =>
          go_wp2_with fail
          go_ret
          exact ⟨false, rfl, Lib.hid (bt BW.out B4.out)⟩
         | true =>
          go_wp2_with fail
          go_roundg (gk - 1)
          case measure => omega
          case rel => exact ⟨i + 1, by first | rfl | (simp; done), by omega, BW⟩
        ·have hiz : ¬ (i : Int) < (ng : Int) := by omega
         go_wp2_with fail
         go_ret
         exact ⟨true, rfl, B5⟩

end Go.Proofs.YtbcmmecilheicaaGreatDoor

/- The document's Print at queries; Find, find: a statement's table. -/
namespace Go.Proofs.YtbcmmecilheicaaGreatDoor
open Go Go.RowKit

/-- a statement of which the law speaks -/
structure StQ (W : World) (x : St) (l : StL) : Prop where
 at_ : StAt W x l
 few : l.ni + l.nw + l.no ≤ 51
 dp : ∀ e ∈ x.all, depthP e ≤ 4611686018427387904
 tb : x.table.size ≤ 1048576
 as_ : ∀ e ∈ x.items, e.2.size ≤ 1048576
 gs : ∀ z ∈ x.group, z.size ≤ 1048576
theorem StQ.below {W W' : World} {x : St} {l : StL} (h : StQ W x l) (hW : Below W.heap.size W W') : StQ W' x l := ⟨h.at_.below hW, h.few, h.dp, h.tb, h.as_, h.gs⟩
/-- may all expressions of a statement be? -/
def AllOk (x : St) : Prop := ∀ e ∈ x.all, MayOk e ∧ depthP e ≤ 32
def PrintPost90 (x : St) (w : World) (e : Ending) (w' : World) : Prop := ∃ (s : ByteArray) (er : Int), e = .returned (.tuple #[.string s, .int .i64 er]) ∧ Hid (er = 0 → AllOk x) ∧ Hid (Below w.heap.size w w')
set_option maxRecDepth 100000 in
set_option maxHeartbeats 16000000 in
theorem print90q (w : World) (x : St) (l : StL) (hx : StQ w x l) (hk : x.kind = 1 ∨ x.kind = 10) : Calls Tryz.prog 90 #[.agg (stCells x l)] w (PrintPost90 x w) := by
 have HX := Lib.hid hx
 have HK := Lib.hid hk
 clear hx hk
 obtain ⟨w1, hw1⟩ : ∃ z, z = w.alloc (.cells (stCells x l) 58) := ⟨_, rfl⟩
 have B1 := Lib.hid (show Below w.heap.size w w1 by rw [hw1]; exact below_alloc _ _)
 have Z1 := Lib.hid (show Blk w1 w.heap.size 58 (stCells x l) by rw [hw1]; exact Blk.new w 58 _)
 have tbb : ∀ z : ByteArray, z.size ≤ 1048576 → z.size ≤ TB := fun z h => by unfold TB; omega
 have CF := Lib.hid (formed122q w1 x l (HX.out.at_.below B1.out) HK.out (tbb _ HX.out.tb) (fun e he => tbb _ (HX.out.as_ e he)) (fun z hz => tbb _ (HX.out.gs z hz)))
 clear tbb
 obtain ⟨kd, tb, its, wh, grp, ord, lim⟩ := x
 obtain ⟨ia, ni, ci, wa, nw, cw, ga, ng, cg, oa, no, co⟩ := l
 have hf := HX.out.few
 simp only at hf HK
 have z0 := Z1.out.cell 0
 have z1 := Z1.out.cell 1
 have z2 := Z1.out.cell 2
 have z3 := Z1.out.cell 3
 have z4 := Z1.out.cell 4
 have z5 := Z1.out.cell 5
 have z6 := Z1.out.cell 6
 have hl := Z1.out.lt
 go_enter Tryz.func90, Tryz.ntmps90
 go_upto_region 1 with fail
 rw [← hw1]
 clear hw1
 go_wp2_with fail
 refine CF.out.mono ?_
 clear CF z0 z1 z2 z3 z4 z5 z6 hl
 rintro e w2 ⟨q, rfl, hb2⟩
 have B2 := Lib.hid (bt hb2.out B1.out)
 have Z2 := Lib.hid (Z1.out.below hb2.out)
 clear hb2
 cases q with
 | false =>
  go_wp2_with fail
  go_ret2
  exact ⟨⟨#[]⟩, 31, rfl, Lib.hid (fun h => absurd h (by decide)), B2⟩
 | true =>
  have CA := Lib.hid (all44 w2 ⟨kd, tb, its, wh, grp, ord, lim⟩ ⟨ia, ni, ci, wa, nw, cw, ga, ng, cg, oa, no, co⟩ (HX.out.at_.below B2.out))
  have z0 := Z2.out.cell 0
  have z1 := Z2.out.cell 1
  have z2 := Z2.out.cell 2
  have z3 := Z2.out.cell 3
  have z4 := Z2.out.cell 4
  have z5 := Z2.out.cell 5
  have z6 := Z2.out.cell 6
  have hl := Z2.out.lt
  go_wp2_with fail
  refine CA.out.mono ?_
  clear CA z0 z1 z2 z3 z4 z5 z6 hl
  rintro e w3 ⟨A, c, rfl, hall, hb3⟩
  have B3 := Lib.hid (bt hb3.out B2.out)
  have Z3 := Lib.hid (Z2.out.below hb3.out)
  have CG := Lib.hid (faults74 w3 A (ni + nw + no) c (St.all ⟨kd, tb, its, wh, grp, ord, lim⟩) hall.out (by omega) HX.out.dp)
  clear hb3 hall
  go_wp2_with fail
  refine CG.out.mono ?_
  clear CG
  rintro e w4 ⟨er, rfl, hok, hb4⟩
  have B4 := Lib.hid (bt hb4.out B3.out)
  have Z4 := Lib.hid (Z3.out.below hb4.out)
  clear hb4
  by_cases her : er = 0
  ·subst her
   have OK := Lib.hid (hok.out rfl)
   have CQ := Lib.hid (query123 w4 ⟨kd, tb, its, wh, grp, ord, lim⟩ ⟨ia, ni, ci, wa, nw, cw, ga, ng, cg, oa, no, co⟩ ⟨HX.out.at_.below B4.out, HX.out.few, OK.out, HX.out.tb, HX.out.as_, HX.out.gs⟩)
   clear hok
   have z0 := Z4.out.cell 0
   have z1 := Z4.out.cell 1
   have z2 := Z4.out.cell 2
   have z3 := Z4.out.cell 3
   have z4 := Z4.out.cell 4
   have z5 := Z4.out.cell 5
   have z6 := Z4.out.cell 6
   have hl := Z4.out.lt
   rcases HK.out with rfl | rfl
   ·go_wp2_with fail
    refine CQ.out.mono ?_
    clear CQ z0 z1 z2 z3 z4 z5 z6 hl
    rintro e w5 ⟨s, rfl, hs, hb5⟩
    go_wp2_with fail
    go_ret2
    exact ⟨s, 0, rfl, Lib.hid (fun _ => OK.out), Lib.hid (bt hb5.out B4.out)⟩
   ·go_wp2_with fail
    refine CQ.out.mono ?_
    clear CQ z0 z1 z2 z3 z4 z5 z6 hl
    rintro e w5 ⟨s, rfl, hs, hb5⟩
    have hsz : s.size ≤ 5000000000000000 := hs.out
    have hc : ¬ 9223372036854775807 < 8 + s.size := by omega
    go_wp2_with fail
    go_ret2
    exact ⟨_, 0, rfl, Lib.hid (fun _ => OK.out), Lib.hid (bt hb5.out B4.out)⟩
  ·have r1 : (er != 0) = true := by simpa using her
   have r2 : (er == 0) = false := by simpa using her
   have HER := Lib.hid her
   clear her hok
   go_wp2_with fail
   go_ret2
   exact ⟨⟨#[]⟩, er, rfl, Lib.hid (fun h => absurd h HER.out), B4⟩

/-- a table -/
structure Tab where
 name : ByteArray
 cols : List Col
/-- tables, as they are read -/
structure TabsAt (W : World) (A : Option Addr) (n : Nat) (l : List Tab) : Prop where
 len : l.length = n
 at_ : ∀ (j : Nat) (t : Tab), l[j]? = some t → ∃ b off CA cn cc, A = some ⟨b, off, none⟩ ∧ b < W.heap.size ∧ W.cell? ⟨b, off + j * 2, none⟩ = some (.string t.name) ∧ W.cell? ⟨b, off + j * 2 + 1, none⟩ = some (.slice CA cn cc) ∧ ColsAt W CA cn t.cols ∧ cn ≤ 1048576
theorem TabsAt.below {W W' : World} {A : Option Addr} {n : Nat} {l : List Tab} (h : TabsAt W A n l) (hW : Below W.heap.size W W') : TabsAt W' A n l :=
 ⟨h.len, fun j t hj => by
  obtain ⟨b, off, CA, cn, cc, e1, hb, c0, c1, hc, hn⟩ := h.at_ j t hj
  exact ⟨b, off, CA, cn, cc, e1, Nat.lt_of_lt_of_le hb hW.size, (hW.cell (p := ⟨b, off + j * 2, none⟩) hb).trans c0, (hW.cell (p := ⟨b, off + j * 2 + 1, none⟩) hb).trans c1, hc.below hW, hn⟩⟩
def FindPost91 (n : Nat) (w : World) (e : Ending) (w' : World) : Prop := ∃ (i : Nat) (er : Int), e = .returned (.tuple #[.int .i64 i, .int .i64 er]) ∧ Hid (er = 0 → i < n) ∧ w' = w
set_option maxRecDepth 100000 in
set_option maxHeartbeats 8000000 in
theorem find91 (w : World) (A : Option Addr) (n c : Nat) (ts : List Tab) (ht : TabsAt w A n ts) (hn : n ≤ 1048576) (s : ByteArray) : Calls Tryz.prog 91 #[.slice A n c, .string s] w (FindPost91 n w) := by
 have HT := Lib.hid ht
 clear ht
 go_enter Tryz.func91, Tryz.ntmps91
 go_wp2_with fail
 go_loopg [6] n (fun kx s6 wr => ∃ i : Nat, s6 = .int .i64 i ∧ kx + i = n ∧ wr = w)
 case atStart => exact ⟨0, rfl, by omega, rfl⟩
 case round =>
  obtain ⟨i, rfl, hki, rfl⟩ := hrel
  have hi9 : (i : Int) ≤ 1048576 := by omega
  have hi0 : (0 : Int) ≤ (i : Int) := by omega
  by_cases hi : i < n
  ·have hiz : (i : Int) < (n : Int) := by omega
   obtain ⟨z, hz⟩ : ∃ z, ts[i]? = some z := ⟨_, List.getElem?_eq_getElem (by rw [HT.out.len]; exact hi)⟩
   obtain ⟨b, off, CA, cn, cc, rfl, hb, x0, -⟩ := HT.out.at_ i z hz
   obtain ⟨q, hq⟩ : ∃ q, (z.name.toList == s.toList) = q := ⟨_, rfl⟩
   clear hz
   cases q with
   | true =>
    go_wp2_with fail
    go_ret2
    exact ⟨i, 0, rfl, Lib.hid (fun _ => hi), rfl⟩
   | false =>
    go_wp2_with fail
    go_roundg (gk - 1)
    case measure => omega
    case rel => exact ⟨i + 1, by first | rfl | (simp; done), by omega, rfl⟩
  ·have hiz : ¬ (i : Int) < (n : Int) := by omega
   go_wp2_with fail
   go_ret2
   exact ⟨0, 30, rfl, Lib.hid (fun h => by omega), rfl⟩

/-- a table, or an error -/
def FindTPost (x : St) (ts : List Tab) (w : World) (e : Ending) (w' : World) : Prop := ∃ (t : Tab) (CA : Option Addr) (cn cc : Nat) (er : Int), e = .returned (.tuple #[.agg #[.string t.name, .slice CA cn cc], .int .i64 er]) ∧ Hid (er = 0 → t ∈ ts ∧ ColsAt w CA cn t.cols ∧ cn ≤ 1048576 ∧ AllOk x) ∧ Hid (Below w.heap.size w w')
theorem results_ti {fn : Func} {s k : Nat} (h : fn.results = #[.cell s 24, .tmp k]) {tmps : Array Value} {W : World} {b : Nat} {c0 c1 er : Value} (hs : tmps[s]? = some (.pointer (some ⟨b, 0, none⟩))) (hk : tmps[k]? = some er) (z : Blk W b 24 #[c0, c1]) :
  (results fn tmps).run Tryz.prog W = .ok (.tuple #[.agg #[c0, c1], er]) W := by
 have q0 := z.cell 0
 have q1 := z.cell 1
 simp [results, h, hs, hk, go_sem, q0, q1]
theorem tab_set {W : World} {b : Nat} {t : TypeId} {c0 c1 : Value} (z : Blk W b t #[c0, c1]) (d0 d1 : Value) : Blk ((W.setCell ⟨b, 0, none⟩ d0).setCell ⟨b, 1, none⟩ d1) b t #[d0, d1] := by
 have z0 : Blk _ b t #[d0, c1] := z.set_ 0 d0
 exact z0.set_ 1 d1
set_option maxRecDepth 100000 in
set_option maxHeartbeats 16000000 in
theorem find47 (w : World) (A : Option Addr) (n c : Nat) (ts : List Tab) (ht : TabsAt w A n ts) (hn : n ≤ 1048576) (x : St) (l : StL) (hx : StQ w x l) (hk : x.kind = 1 ∨ x.kind = 10) : Calls Tryz.prog 47 #[.slice A n c, .agg (stCells x l)] w (FindTPost x ts w) := by
 have HX := Lib.hid hx
 have HT := Lib.hid ht
 obtain ⟨w1, hw1⟩ : ∃ z, z = (w.alloc (.cells (stCells x l) 58)).alloc (.cells #[.string ⟨#[]⟩, .slice none 0 0] 24) := ⟨_, rfl⟩
 have B1 := Lib.hid (show Below w.heap.size w w1 by rw [hw1]; exact bt (below_alloc _ _) (below_alloc _ _))
 have Z1 := Lib.hid (show Blk w1 w.heap.size 58 (stCells x l) by rw [hw1]; exact (Blk.new w 58 _).alloc _)
 have ZR := Lib.hid (show Blk w1 (w.heap.size + 1) 24 #[.string ⟨#[]⟩, .slice none 0 0] by rw [hw1]; exact blk_new' (w := w.alloc _) rfl (by simp))
 have CP := Lib.hid (print90q w1 x l (hx.below B1.out) hk)
 obtain ⟨kd, tb, its, wh, grp, ord, lim⟩ := x
 obtain ⟨ia, ni, ci, wa, nw, cw, ga, ng, cg, oa, no, co⟩ := l
 clear hx ht hk
 have z0 := Z1.out.cell 0
 have z1 := Z1.out.cell 1
 have z2 := Z1.out.cell 2
 have z3 := Z1.out.cell 3
 have z4 := Z1.out.cell 4
 have z5 := Z1.out.cell 5
 have z6 := Z1.out.cell 6
 have hl := Z1.out.lt
 go_enter Tryz.func47, Tryz.ntmps47
 go_upto_region 1 with fail
 rw [← hw1]
 clear hw1
 go_wp2_with fail
 refine CP.out.mono ?_
 clear CP z0 z1 z2 z3 z4 z5 z6 hl
 rintro e w2 ⟨s, er, rfl, hok, hb2⟩
 have B2 := Lib.hid (bt hb2.out B1.out)
 have Z2 := Lib.hid (Z1.out.below hb2.out)
 have YR := Lib.hid (ZR.out.below hb2.out)
 clear hb2
 have q0 := YR.out.cell 0
 have q1 := YR.out.cell 1
 have hfz := fun o => YR.out.frozen o
 have hrl := YR.out.lt
 by_cases her : er = 0
 ·subst her
  have OK := Lib.hid (hok.out rfl)
  have z1 := Z2.out.cell 1
  have hl := Z2.out.lt
  have CF := Lib.hid (find91 w2 A n c ts (HT.out.below B2.out) hn tb)
  clear hok
  go_wp2_with fail
  refine CF.out.mono ?_
  clear CF z1 hl
  rintro e w3 ⟨i, er, rfl, hi, rfl⟩
  by_cases her : er = 0
  ·subst her
   have hi := hi.out rfl
   have hiz : (i : Int) < (n : Int) := by omega
   have hi0 : (0 : Int) ≤ (i : Int) := by omega
   have hi9 : (i : Int) ≤ 1048576 := by omega
   obtain ⟨t, hti⟩ : ∃ z, ts[i]? = some z := ⟨_, List.getElem?_eq_getElem (by rw [HT.out.len]; exact hi)⟩
   obtain ⟨b, off, CA, cn, cc, rfl, hb0, t0', t1', htc, hcn⟩ := HT.out.at_ i t hti
   have t0 := (B2.out.cell (p := ⟨b, off + i * 2, none⟩) hb0).trans t0'
   have t1 := (B2.out.cell (p := ⟨b, off + i * 2 + 1, none⟩) hb0).trans t1'
   have hb := Nat.lt_of_lt_of_le hb0 B2.out.size
   have FE := Lib.hid (And.intro (List.mem_of_getElem? hti) (And.intro htc hcn))
   clear hti htc t0' t1'
   go_wp2_with fail
   refine bodyPost_ret (results_ti (s := 4) (k := 5) rfl rfl rfl (tab_set YR.out _ _)) rfl ⟨t, CA, cn, cc, 0, rfl, Lib.hid (fun _ => ⟨FE.out.1, FE.out.2.1, FE.out.2.2, OK.out⟩), Lib.hid ?_⟩
   have hb := B2.out
   have hs := hb.size
   go_grown
  ·have r1 : (er != 0) = true := by simpa using her
   have r2 : (er == 0) = false := by simpa using her
   have HER := Lib.hid her
   clear her hi
   go_wp2_with fail
   refine bodyPost_ret (results_ti (s := 4) (k := 5) rfl rfl rfl (tab_set YR.out _ _)) rfl ⟨⟨⟨#[]⟩, []⟩, none, 0, 0, er, rfl, Lib.hid (fun h => absurd h HER.out), Lib.hid ?_⟩
   have hb := B2.out
   have hs := hb.size
   go_grown
 ·have r1 : (er != 0) = true := by simpa using her
  have r2 : (er == 0) = false := by simpa using her
  have HER := Lib.hid her
  clear her hok
  go_wp2_with fail
  refine bodyPost_ret (results_ti (s := 4) (k := 5) rfl rfl rfl (tab_set YR.out _ _)) rfl ⟨⟨⟨#[]⟩, []⟩, none, 0, 0, er, rfl, Lib.hid (fun h => absurd h HER.out), Lib.hid ?_⟩
  have hb := B2.out
  have hs := hb.size
  go_grown

end Go.Proofs.YtbcmmecilheicaaGreatDoor
