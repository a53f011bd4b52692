/- The faults of the document's expressions; PrintExpr. What the document's check of an expression stands on: in, Aggregate, fit. A table's columns; the place of one. The document's check of a row. -/
import Derived.Test.YtbcmmecilheicaaGreatDoorPe8

/- The faults of the document's expressions; PrintExpr. -/
namespace Go.Proofs.YtbcmmecilheicaaGreatDoor
open Go Go.RowKit

/-- parsed expressions, as they are read -/
structure PExsAt (W : World) (A : Option Addr) (n : Nat) (l : List PEx) : Prop where
 len : l.length = n
 at_ : ∀ (j : Nat) (e : PEx), l[j]? = some e → ∃ b off Ae ne ce, A = some ⟨b, off, none⟩ ∧ b < W.heap.size ∧ PExC W b (off + j * 7) e Ae ne ce ∧ PExIs W e Ae ne ce
theorem PExsAt.below {W W' : World} {A : Option Addr} {n : Nat} {l : List PEx} (h : PExsAt W A n l) (hW : Below W.heap.size W W') : PExsAt W' A n l :=
 ⟨h.len, fun j e hj => by
  obtain ⟨b, off, Ae, ne, ce, e1, hb, hc, hi⟩ := h.at_ j e hj
  exact ⟨b, off, Ae, ne, ce, e1, Nat.lt_of_lt_of_le hb hW.size, hc.below hb hW, hi.bel hW⟩⟩
def FaultsPost (l : List PEx) (w : World) (e : Ending) (w' : World) : Prop := ∃ er : Int, e = .returned (.int .i64 er) ∧ Hid (er = 0 → ∀ x ∈ l, MayOk x ∧ depthP x ≤ 32) ∧ Hid (Below w.heap.size w w')

set_option maxRecDepth 100000 in
set_option maxHeartbeats 16000000 in
theorem faults74 (w : World) (A : Option Addr) (n c : Nat) (l : List PEx) (hl : PExsAt w A n l) (hn : n ≤ 1466015503701) (hd : ∀ x ∈ l, depthP x ≤ 4611686018427387904) : Calls Tryz.prog 74 #[.slice A n c] w (FaultsPost l w) := by
 have HL := Lib.hid hl
 have HD := Lib.hid hd
 clear hl hd
 have hni : (n : Int) ≤ 1466015503701 := by omega
 go_enter Tryz.func74, Tryz.ntmps74
 go_wp2_with fail
 go_loopg [3] n (fun kx s3 wr => ∃ i : Nat, s3 = .int .i64 i ∧ kx + i = n ∧ Hid (∀ (j : Nat) (e : PEx), j < i → l[j]? = some e → MayOk e) ∧ Hid (Below w.heap.size w wr))
 case atStart => exact ⟨0, rfl, by omega, Lib.hid (fun j e h => absurd h (Nat.not_lt_zero _)), Lib.hid (Below.refl _ _)⟩
 case round =>
  obtain ⟨i, rfl, hki, HO, HW⟩ := hrel
  have hi9 : (i : Int) ≤ 1466015503701 := by omega
  have hi0 : (0 : Int) ≤ (i : Int) := by omega
  by_cases hi : i < n
  ·have hiz : (i : Int) < (n : Int) := by omega
   obtain ⟨a, ha⟩ : ∃ a, l[i]? = some a := ⟨_, List.getElem?_eq_getElem (by rw [HL.out.len]; exact hi)⟩
   obtain ⟨b, off, Ae, ne, ce, rfl, hb, ⟨x0, x1, x2, x3, x4, x5, x6⟩, hx⟩ := (HL.out.below HW.out).at_ i a ha
   have CI := Lib.hid (may102 hx wr (Below.refl _ _))
   have HA := Lib.hid ha
   clear ha hx
   go_wp2_with fail
   refine CI.out.mono ?_
   rintro e w5 ⟨q, rfl, hq, hb5⟩
   have B5 := Lib.hid (bt hb5.out HW.out)
   clear x0 x1 x2 x3 x4 x5 x6 CI hb5
   cases q with
   | false =>
    go_wp2_with fail
    go_ret
    exact ⟨31, rfl, Lib.hid (fun h => by omega), B5⟩
   | true =>
    have NX := Lib.hid (show ∀ (j : Nat) (e : PEx), j < i + 1 → l[j]? = some e → MayOk e from fun j e hj he => by
     rcases Nat.lt_or_ge j i with h | h
     ·exact HO.out j e h he
     ·obtain rfl : j = i := by omega
      obtain rfl := Option.some.inj (he.symm.trans HA.out)
      exact hq.out (by first | rfl | trivial))
    clear hq
    go_wp2_with fail
    go_roundg (gk - 1)
    case measure => omega
    case rel => exact ⟨i + 1, by first | rfl | (simp; done), by omega, NX, B5⟩
  ·have hiz : ¬ (i : Int) < (n : Int) := by omega
   have MO := Lib.hid (show ∀ x ∈ l, MayOk x from fun x hx => by
    obtain ⟨j, hj⟩ := List.getElem?_of_mem hx
    exact HO.out j x (by have := (List.getElem?_eq_some_iff.1 hj).1; rw [HL.out.len] at this; omega) hj)
   obtain ⟨wm, rfl⟩ : ∃ x, x = wr := ⟨_, rfl⟩
   clear HO
   go_wp2_with fail
   clear hiz hi hki hi9 hi0
   go_loopg [4] n (fun kx s4 wr => ∃ i : Nat, s4 = .int .i64 i ∧ kx + i = n ∧ Hid (∀ (j : Nat) (e : PEx), j < i → l[j]? = some e → depthP e ≤ 32) ∧ Hid (Below w.heap.size w wr))
   case atStart => exact ⟨0, rfl, by omega, Lib.hid (fun j e h => absurd h (Nat.not_lt_zero _)), HW⟩
   case round =>
    obtain ⟨i, rfl, hki, HO, HV⟩ := hrel
    have hi9 : (i : Int) ≤ 1466015503701 := by omega
    have hi0 : (0 : Int) ≤ (i : Int) := by omega
    by_cases hi : i < n
    ·have hiz : (i : Int) < (n : Int) := by omega
     obtain ⟨a, ha⟩ : ∃ a, l[i]? = some a := ⟨_, List.getElem?_eq_getElem (by rw [HL.out.len]; exact hi)⟩
     obtain ⟨b, off, Ae, ne, ce, rfl, hb, ⟨x0, x1, x2, x3, x4, x5, x6⟩, hx⟩ := (HL.out.below HV.out).at_ i a ha
     have CI := Lib.hid (depth103 hx (HD.out a (List.mem_of_getElem? ha)) wr (Below.refl _ _))
     have HA := Lib.hid ha
     obtain ⟨q, hq⟩ : ∃ q, q = depthP a := ⟨_, rfl⟩
     rw [← hq] at CI
     have HQ := Lib.hid hq
     clear ha hx hq
     go_wp2_with fail
     refine CI.out.mono ?_
     rintro e w5 ⟨rfl, hb5⟩
     have B5 := Lib.hid (bt hb5.out HV.out)
     clear x0 x1 x2 x3 x4 x5 x6 CI hb5
     by_cases h32 : 32 < q
     ·have hz : (32 : Int) < (q : Int) := by omega
      go_wp2_with fail
      go_ret
      exact ⟨32, rfl, Lib.hid (fun h => by omega), B5⟩
     ·have hz : ¬ (32 : Int) < (q : Int) := by omega
      have NX := Lib.hid (show ∀ (j : Nat) (e : PEx), j < i + 1 → l[j]? = some e → depthP e ≤ 32 from fun j e hj he => by
       rcases Nat.lt_or_ge j i with h | h
       ·exact HO.out j e h he
       ·obtain rfl : j = i := by omega
        obtain rfl := Option.some.inj (he.symm.trans HA.out)
        rw [← HQ.out]; omega)
      go_wp2_with fail
      go_roundg (gk - 1)
      case measure => omega
      case rel => exact ⟨i + 1, by first | rfl | (simp; done), by omega, NX, B5⟩
    ·have hiz : ¬ (i : Int) < (n : Int) := by omega
     have FIN := Lib.hid (show ∀ x ∈ l, MayOk x ∧ depthP x ≤ 32 from fun x hx => ⟨MO.out x hx, by
      obtain ⟨j, hj⟩ := List.getElem?_of_mem hx
      exact HO.out j x (by have := (List.getElem?_eq_some_iff.1 hj).1; rw [HL.out.len] at this; omega) hj⟩)
     clear HO
     go_wp2_with fail
     go_ret
     exact ⟨0, rfl, Lib.hid (fun _ => FIN.out), HV⟩

/-- some text, or an error -/
def PrintExprPost (x : PEx) (w : World) (e : Ending) (w' : World) : Prop := ∃ (s : ByteArray) (er : Int), e = .returned (.tuple #[.string s, .int .i64 er]) ∧ Hid (er = 0 → MayOk x ∧ depthP x ≤ 32) ∧ Hid (Below w.heap.size w w')
set_option maxRecDepth 100000 in
set_option maxHeartbeats 16000000 in
theorem printExpr34 (w : World) (x : PEx) (A : Option Addr) (n c : Nat) (hx : PExIs w x A n c) (hd : depthP x ≤ 4611686018427387904) : Calls Tryz.prog 34 #[.agg #[.string x.op, .int .i64 x.val.kind, .int .i64 x.val.int, .string x.val.text, .bool x.val.bool, .string x.name, .slice A n c]] w (PrintExprPost x w) := by
 obtain ⟨w1, hw1⟩ : ∃ z, z = w.alloc (.cells #[.string x.op, .int .i64 x.val.kind, .int .i64 x.val.int, .string x.val.text, .bool x.val.bool, .string x.name, .slice A n c] 29) := ⟨_, rfl⟩
 have B1 := Lib.hid (show Below w.heap.size w w1 by rw [hw1]; exact below_alloc _ _)
 have Z1 := Lib.hid (show Blk w1 w.heap.size 29 #[.string x.op, .int .i64 x.val.kind, .int .i64 x.val.int, .string x.val.text, .bool x.val.bool, .string x.name, .slice A n c] by rw [hw1]; exact Blk.new w 29 _)
 have HX := Lib.hid (hx.bel B1.out)
 obtain ⟨w2, hw2⟩ : ∃ z, z = w1.alloc (.cells #[.string x.op, .int .i64 x.val.kind, .int .i64 x.val.int, .string x.val.text, .bool x.val.bool, .string x.name, .slice A n c] 29) := ⟨_, rfl⟩
 have Y2 := Lib.hid (show Blk w2 w1.heap.size 29 #[.string x.op, .int .i64 x.val.kind, .int .i64 x.val.int, .string x.val.text, .bool x.val.bool, .string x.name, .slice A n c] by rw [hw2]; exact Blk.new w1 29 _)
 have B2 := Lib.hid (show Below w1.heap.size w1 w2 by rw [hw2]; exact below_alloc _ _)
 have CF := Lib.hid (faults74 w2 (some ⟨w1.heap.size, 0, none⟩) 1 1 [x] ⟨rfl, fun j e hj => by
  match j, hj with
  | 0, hj => obtain rfl : x = e := by simpa using hj
             have z := Y2.out
             exact ⟨w1.heap.size, 0, A, n, c, rfl, z.lt, ⟨z.cell 0, z.cell 1, z.cell 2, z.cell 3, z.cell 4, z.cell 5, z.cell 6⟩, HX.out.bel B2.out⟩
  | j + 1, hj => simp at hj⟩ (by omega) (fun y hy => by
   obtain rfl : y = x := by simpa using hy
   exact hd))
 have z0 := Z1.out.cell 0
 have z1 := Z1.out.cell 1
 have z2 := Z1.out.cell 2
 have z3 := Z1.out.cell 3
 have z4 := Z1.out.cell 4
 have z5 := Z1.out.cell 5
 have z6 := Z1.out.cell 6
 have hl := Z1.out.lt
 clear hx hd
 go_enter Tryz.func34, Tryz.ntmps34
 go_upto_region 1 with fail
 rw [← hw1]
 clear hw1
 go_wp2_with fail
 rw [← hw2]
 clear hw2
 refine CF.out.mono ?_
 clear CF z0 z1 z2 z3 z4 z5 z6 hl
 rintro e w3 ⟨er, rfl, hf, hb3⟩
 have B13 := Lib.hid (bt hb3.out B2.out)
 have B3 := Lib.hid (bt B13.out B1.out)
 by_cases her : er = 0
 ·subst her
  have OK := Lib.hid (hf.out rfl x (by simp))
  have Z3 := Lib.hid (Z1.out.below B13.out)
  have z0 := Z3.out.cell 0
  have z1 := Z3.out.cell 1
  have z2 := Z3.out.cell 2
  have z3 := Z3.out.cell 3
  have z4 := Z3.out.cell 4
  have z5 := Z3.out.cell 5
  have z6 := Z3.out.cell 6
  have hl := Z3.out.lt
  have CT := Lib.hid (told75 HX.out OK.out.1 (Nat.le_trans OK.out.2 (by omega)) w3 B13.out)
  clear hf hb3
  go_wp2_with fail
  refine CT.out.mono ?_
  rintro e w4 ⟨s, rfl, -, hb4⟩
  go_wp2_with fail
  go_ret2
  exact ⟨s, 0, rfl, Lib.hid (fun _ => OK.out), Lib.hid (bt hb4.out B3.out)⟩
 ·have r1 : (er != 0) = true := by simpa using her
  have r2 : (er == 0) = false := by simpa using her
  have HER := Lib.hid her
  clear her hf
  go_wp2_with fail
  go_ret2
  exact ⟨⟨#[]⟩, er, rfl, Lib.hid (fun h => absurd h HER.out), B3⟩

end Go.Proofs.YtbcmmecilheicaaGreatDoor

/- What the document's check of an expression stands on: in, Aggregate, fit. -/
namespace Go.Proofs.YtbcmmecilheicaaGreatDoor
open Go Go.RowKit

def inP (s : ByteArray) (l : List ByteArray) : Bool := l.any fun z => z.toList == s.toList
theorem inP_take {s : ByteArray} {l : List ByteArray} {i : Nat} {z : ByteArray} (h : l[i]? = some z) : inP s (l.take (i + 1)) = (inP s (l.take i) || (z.toList == s.toList)) := by
 unfold inP
 rw [List.take_add_one, h, List.any_append]
 simp
set_option maxRecDepth 100000 in
set_option maxHeartbeats 8000000 in
theorem in77 (w : World) (s : ByteArray) (A : Option Addr) (n c : Nat) (l : List ByteArray) (hl : StrsAt w A n l) (hn : n ≤ 1000) : Calls Tryz.prog 77 #[.string s, .slice A n c] w fun e w' => e = .returned (.bool (inP s l)) ∧ w' = w := by
 have HL := Lib.hid hl
 clear hl
 go_enter Tryz.func77, Tryz.ntmps77
 go_wp2_with fail
 go_loopg [5] n (fun kx s5 wr => ∃ i : Nat, s5 = .int .i64 i ∧ kx + i = n ∧ Hid (inP s (l.take i) = false) ∧ wr = w)
 case atStart => exact ⟨0, rfl, by omega, Lib.hid rfl, rfl⟩
 case round =>
  obtain ⟨i, rfl, hki, HI, rfl⟩ := hrel
  have hi9 : (i : Int) ≤ 1000 := by omega
  have hi0 : (0 : Int) ≤ (i : Int) := by omega
  by_cases hi : i < n
  ·have hiz : (i : Int) < (n : Int) := by omega
   obtain ⟨z, hz⟩ : ∃ z, l[i]? = some z := ⟨_, List.getElem?_eq_getElem (by rw [HL.out.len]; exact hi)⟩
   obtain ⟨b, off, rfl, hb, x0⟩ := HL.out.at_ i z hz
   obtain ⟨q, hq⟩ : ∃ q, (z.toList == s.toList) = q := ⟨_, rfl⟩
   have HT := Lib.hid (inP_take (s := s) hz)
   rw [HI.out, hq, Bool.false_or] at HT
   have HZ := Lib.hid (And.intro hz hq)
   clear hz
   cases q with
   | true =>
    have R := Lib.hid (show inP s l = true from List.any_eq_true.2 ⟨z, List.mem_of_getElem? HZ.out.1, HZ.out.2⟩)
    clear HT HZ
    go_wp2_with fail
    go_ret
    exact ⟨by rw [R.out]; rfl, rfl⟩
   | false =>
    clear HZ
    go_wp2_with fail
    go_roundg (gk - 1)
    case measure => omega
    case rel => exact ⟨i + 1, by first | rfl | (simp; done), by omega, HT, rfl⟩
  ·have hiz : ¬ (i : Int) < (n : Int) := by omega
   have R := Lib.hid (show inP s l = false by
    have := HI.out
    rw [List.take_of_length_le (by rw [HL.out.len]; omega)] at this
    exact this)
   go_wp2_with fail
   go_ret
   exact ⟨by rw [R.out]; rfl, rfl⟩
def aggsR : List ByteArray := [⟨#[114, 111, 119, 115]⟩, ⟨#[99, 111, 117, 110, 116]⟩, ⟨#[115, 117, 109]⟩, ⟨#[109, 105, 110]⟩, ⟨#[109, 97, 120]⟩]
set_option maxRecDepth 100000 in
set_option maxHeartbeats 4000000 in
theorem aggregate76 (w : World) (s : ByteArray) : Calls Tryz.prog 76 #[.string s] w fun e w' => e = .returned (.bool (inP s aggsR)) ∧ Hid (Below w.heap.size w w') := by
 have C := Lib.hid (in77 (w.alloc (.cells (aggsR.map Value.string).toArray 9)) s (some ⟨w.heap.size, 0, none⟩) 5 5 aggsR (strs_at aggsR (Blk.new w 9 _)) (by omega))
 go_enter Tryz.func76, Tryz.ntmps76
 go_wp2_with fail
 refine C.out.mono ?_
 rintro e w1 ⟨rfl, rfl⟩
 go_wp2_with fail
 go_ret
 exact ⟨rfl, Lib.hid (below_alloc _ _)⟩
def fitP (a b : Int) : Bool := a == 0 || (b == 0 || a == b)
set_option maxRecDepth 100000 in
theorem fit62 (w : World) (a b : Int) : Calls Tryz.prog 62 #[.int .i64 a, .int .i64 b] w fun e w' => e = .returned (.bool (fitP a b)) ∧ w' = w := by
 obtain ⟨p, hp⟩ : ∃ p, (a == 0) = p := ⟨_, rfl⟩
 obtain ⟨q, hq⟩ : ∃ q, (b == 0) = q := ⟨_, rfl⟩
 obtain ⟨r, hr⟩ : ∃ r, (a == b) = r := ⟨_, rfl⟩
 have HE := Lib.hid (show fitP a b = (p || (q || r)) by rw [fitP, hp, hq, hr])
 cases p <;> cases q <;> cases r
 all_goals
  go_enter Tryz.func62, Tryz.ntmps62
  go_wp2_with fail
  go_ret
  exact ⟨by rw [HE.out]; rfl, rfl⟩

end Go.Proofs.YtbcmmecilheicaaGreatDoor

/- A table's columns; the place of one. -/
namespace Go.Proofs.YtbcmmecilheicaaGreatDoor
open Go Go.RowKit

/-- a column -/
structure Col where
 name : ByteArray
 kind : Int
 key : Bool
 null : Bool
/-- columns, as they are read -/
structure ColsAt (W : World) (A : Option Addr) (n : Nat) (l : List Col) : Prop where
 len : l.length = n
 at_ : ∀ (j : Nat) (e : Col), l[j]? = some e → ∃ b off, A = some ⟨b, off, none⟩ ∧ b < W.heap.size ∧ W.cell? ⟨b, off + j * 4, none⟩ = some (.string e.name) ∧ W.cell? ⟨b, off + j * 4 + 1, none⟩ = some (.int .i64 e.kind) ∧ W.cell? ⟨b, off + j * 4 + 2, none⟩ = some (.bool e.key) ∧ W.cell? ⟨b, off + j * 4 + 3, none⟩ = some (.bool e.null)
theorem ColsAt.below {W W' : World} {A : Option Addr} {n : Nat} {l : List Col} (h : ColsAt W A n l) (hW : Below W.heap.size W W') : ColsAt W' A n l :=
 ⟨h.len, fun j e hj => by
  obtain ⟨b, off, e1, hb, c0, c1, c2, c3⟩ := h.at_ j e hj
  exact ⟨b, off, e1, Nat.lt_of_lt_of_le hb hW.size, (hW.cell (p := ⟨b, off + j * 4, none⟩) hb).trans c0, (hW.cell (p := ⟨b, off + j * 4 + 1, none⟩) hb).trans c1, (hW.cell (p := ⟨b, off + j * 4 + 2, none⟩) hb).trans c2, (hW.cell (p := ⟨b, off + j * 4 + 3, none⟩) hb).trans c3⟩⟩
/-- a column's place, or an error -/
def ColumnPost (n : Nat) (w : World) (e : Ending) (w' : World) : Prop := ∃ (i : Nat) (er : Int), e = .returned (.tuple #[.int .i64 i, .int .i64 er]) ∧ Hid (er = 0 → i < n) ∧ Hid (er = 0 ∨ er = 30) ∧ Hid (Below w.heap.size w w')
set_option maxRecDepth 100000 in
set_option maxHeartbeats 8000000 in
theorem column51 (w : World) (tn : ByteArray) (A : Option Addr) (n c : Nat) (cols : List Col) (hc : ColsAt w A n cols) (hn : n ≤ 1466015503701) (s : ByteArray) : Calls Tryz.prog 51 #[.agg #[.string tn, .slice A n c], .string s] w (ColumnPost n w) := by
 obtain ⟨w1, hw1⟩ : ∃ z, z = w.alloc (.cells #[.string tn, .slice A n c] 24) := ⟨_, rfl⟩
 have B1 := Lib.hid (show Below w.heap.size w w1 by rw [hw1]; exact below_alloc _ _)
 have Z1 := Lib.hid (show Blk w1 w.heap.size 24 #[.string tn, .slice A n c] by rw [hw1]; exact Blk.new w 24 _)
 have HC := Lib.hid (hc.below B1.out)
 have z1 := Z1.out.cell 1
 have hl := Z1.out.lt
 clear hc
 go_enter Tryz.func51, Tryz.ntmps51
 go_upto_region 1 with fail
 rw [← hw1]
 clear hw1
 go_wp2_with fail
 go_loopg [6] n (fun kx s6 wr => ∃ i : Nat, s6 = .int .i64 i ∧ kx + i = n ∧ wr = w1)
 case atStart => exact ⟨0, rfl, by omega, rfl⟩
 case round =>
  obtain ⟨i, rfl, hki, rfl⟩ := hrel
  have hi9 : (i : Int) ≤ 1466015503701 := by omega
  have hi0 : (0 : Int) ≤ (i : Int) := by omega
  by_cases hi : i < n
  ·have hiz : (i : Int) < (n : Int) := by omega
   obtain ⟨z, hz⟩ : ∃ z, cols[i]? = some z := ⟨_, List.getElem?_eq_getElem (by rw [HC.out.len]; exact hi)⟩
   obtain ⟨b, off, rfl, hb, x0, -⟩ := HC.out.at_ i z hz
   obtain ⟨q, hq⟩ : ∃ q, (z.name.toList == s.toList) = q := ⟨_, rfl⟩
   clear hz
   cases q with
   | true =>
    go_wp2_with fail
    go_ret2
    exact ⟨i, 0, rfl, Lib.hid (fun _ => hi), Lib.hid (.inl rfl), B1⟩
   | false =>
    go_wp2_with fail
    go_roundg (gk - 1)
    case measure => omega
    case rel => exact ⟨i + 1, by first | rfl | (simp; done), by omega, rfl⟩
  ·have hiz : ¬ (i : Int) < (n : Int) := by omega
   go_wp2_with fail
   go_ret2
   exact ⟨0, 30, rfl, Lib.hid (fun h => by omega), Lib.hid (.inr rfl), B1⟩

end Go.Proofs.YtbcmmecilheicaaGreatDoor

/- The document's check of a row. -/
namespace Go.Proofs.YtbcmmecilheicaaGreatDoor
open Go Go.RowKit

end Go.Proofs.YtbcmmecilheicaaGreatDoor
