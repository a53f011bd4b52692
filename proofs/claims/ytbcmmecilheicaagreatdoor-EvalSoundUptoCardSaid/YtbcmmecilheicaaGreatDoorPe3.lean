/- The document's expressions in memory; which may be. Printed by mkpe3.py. -/
import Derived.Test.YtbcmmecilheicaaGreatDoorPe2
namespace Go.Proofs.YtbcmmecilheicaaGreatDoor
open Go Go.RowKit

theorem size_toList (s : ByteArray) : s.size = s.toList.length := by
  obtain ⟨a⟩ := s
  rw [ByteArray.toList_mk]
  simp [ByteArray.size]
/-- an expression as it was parsed -/
inductive PEx where
  | mk (op : ByteArray) (v : Val) (name : ByteArray) (args : List PEx)
def PEx.op : PEx → ByteArray | .mk o _ _ _ => o
def PEx.val : PEx → Val | .mk _ v _ _ => v
def PEx.name : PEx → ByteArray | .mk _ _ n _ => n
def PEx.args : PEx → List PEx | .mk _ _ _ l => l
/-- its seven cells -/
structure PExC (W : World) (b o : Nat) (x : PEx) (A : Option Addr) (n c : Nat) : Prop where
  c0 : W.cell? ⟨b, o, none⟩ = some (.string x.op)
  c1 : W.cell? ⟨b, o + 1, none⟩ = some (.int .i64 x.val.kind)
  c2 : W.cell? ⟨b, o + 2, none⟩ = some (.int .i64 x.val.int)
  c3 : W.cell? ⟨b, o + 3, none⟩ = some (.string x.val.text)
  c4 : W.cell? ⟨b, o + 4, none⟩ = some (.bool x.val.bool)
  c5 : W.cell? ⟨b, o + 5, none⟩ = some (.string x.name)
  c6 : W.cell? ⟨b, o + 6, none⟩ = some (.slice A n c)
theorem PExC.below {W W' : World} {b o : Nat} {x : PEx} {A : Option Addr} {n c : Nat} (h : PExC W b o x A n c) (hb : b < W.heap.size) (hW : Below W.heap.size W W') : PExC W' b o x A n c :=
  ⟨(hW.cell (p := ⟨b, o, none⟩) hb).trans h.c0, (hW.cell (p := ⟨b, o + 1, none⟩) hb).trans h.c1, (hW.cell (p := ⟨b, o + 2, none⟩) hb).trans h.c2, (hW.cell (p := ⟨b, o + 3, none⟩) hb).trans h.c3, (hW.cell (p := ⟨b, o + 4, none⟩) hb).trans h.c4, (hW.cell (p := ⟨b, o + 5, none⟩) hb).trans h.c5, (hW.cell (p := ⟨b, o + 6, none⟩) hb).trans h.c6⟩
/-- it, in memory: what its Args' slice leads to -/
inductive PExIs (W : World) : PEx → Option Addr → Nat → Nat → Prop
  | mk (op : ByteArray) (v : Val) (name : ByteArray) (args : List PEx) (A : Option Addr) (n c : Nat) (len : args.length = n) (small : n ≤ 1466015503701) (t0 : op.size ≤ TB) (t1 : v.text.size ≤ TB) (t2 : name.size ≤ TB) (b off : Nat) (hA : 0 < n → A = some ⟨b, off, none⟩ ∧ b < W.heap.size)
      (As : Nat → Option Addr) (ns cs : Nat → Nat) (cells : ∀ (j : Nat) (e : PEx), args[j]? = some e → PExC W b (off + j * 7) e (As j) (ns j) (cs j)) (sub : ∀ (j : Nat) (e : PEx), args[j]? = some e → PExIs W e (As j) (ns j) (cs j)) : PExIs W (.mk op v name args) A n c
theorem PExIs.bel {W W' : World} (hW : Below W.heap.size W W') {x : PEx} {A : Option Addr} {n c : Nat} (h : PExIs W x A n c) : PExIs W' x A n c := by
  induction h with
  | mk op v name args A n c len small t0 t1 t2 b off hA As ns cs cells sub ih =>
    have hpos : ∀ (j : Nat) (e : PEx), args[j]? = some e → b < W.heap.size := fun j e hj => (hA (by have := (List.getElem?_eq_some_iff.1 hj).1; omega)).2
    exact .mk op v name args A n c len small t0 t1 t2 b off (fun h0 => ⟨(hA h0).1, Nat.lt_of_lt_of_le (hA h0).2 hW.size⟩) As ns cs (fun j e hj => (cells j e hj).below (hpos j e hj) hW) ih
/-- an expression that may be -/
inductive MayOk : PEx → Prop
  | mk (op : ByteArray) (v : Val) (name : ByteArray) (args : List PEx) (ar : (args.length = 0 ∧ Among op opsN) ∨ (args.length = 1 ∧ Among op opsO) ∨ (args.length = 2 ∧ Among op opsT)) (hv : validV v) (hk : op.toList ≠ [108, 105, 116] → v.kind = 0) (nm : name.size ≤ 32) (sub : ∀ (j : Nat) (e : PEx), args[j]? = some e → MayOk e) : MayOk (.mk op v name args)
def MayPost (x : PEx) (w : World) (e : Ending) (w' : World) : Prop := ∃ b : Bool, e = .returned (.bool b) ∧ Hid (b = true → MayOk x) ∧ Hid (Below w.heap.size w w')

set_option maxRecDepth 100000 in
set_option maxHeartbeats 16000000 in
theorem may102_mk (w : World) (op : ByteArray) (v : Val) (name : ByteArray) (args : List PEx) (A : Option Addr) (n c : Nat) (len : args.length = n) (small : n ≤ 1466015503701) (t1 : v.text.size ≤ TB) (t2 : name.size ≤ TB) (b off : Nat) (hA : 0 < n → A = some ⟨b, off, none⟩ ∧ b < w.heap.size)
    (As : Nat → Option Addr) (ns cs : Nat → Nat) (cells : ∀ (j : Nat) (e : PEx), args[j]? = some e → PExC w b (off + j * 7) e (As j) (ns j) (cs j))
    (ih : ∀ (j : Nat) (e : PEx), args[j]? = some e → ∀ W, Below w.heap.size w W → Calls Tryz.prog 102 #[.agg #[.string e.op, .int .i64 e.val.kind, .int .i64 e.val.int, .string e.val.text, .bool e.val.bool, .string e.name, .slice (As j) (ns j) (cs j)]] W (MayPost e W)) :
    Calls Tryz.prog 102 #[.agg #[.string op, .int .i64 v.kind, .int .i64 v.int, .string v.text, .bool v.bool, .string name, .slice A n c]] w (MayPost (.mk op v name args) w) := by
  obtain ⟨vk, vi, vt, vb⟩ := v
  obtain ⟨w1, hw1⟩ : ∃ z, z = w.alloc (.cells #[.string op, .int .i64 vk, .int .i64 vi, .string vt, .bool vb, .string name, .slice A n c] 29) := ⟨_, rfl⟩
  have B1 := Lib.hid (show Below w.heap.size w w1 by rw [hw1]; exact below_alloc _ _)
  have Z1 := Lib.hid (show Blk w1 w.heap.size 29 #[.string op, .int .i64 vk, .int .i64 vi, .string vt, .bool vb, .string name, .slice A n c] by rw [hw1]; exact Blk.new w 29 _)
  have HA := Lib.hid hA
  have HCL := Lib.hid cells
  have HIH := Lib.hid ih
  unfold MayPost at HIH
  have HLEN := Lib.hid len
  have T2 := Lib.hid t2
  have T1 := Lib.hid t1
  clear hA cells ih len t1 t2
  have hn9 : (n : Int) ≤ 1466015503701 := by omega
  have z0 := Z1.out.cell 0
  have hl1 := Z1.out.lt
  go_enter Tryz.func102, Tryz.ntmps102
  go_wp2_with fail
  rw [← hw1]
  clear hw1
  refine (kinds144 _ _).mono ?_
  rintro e w2 ⟨m, rfl, hm, hb2⟩
  clear z0
  have B2 := Lib.hid (bt hb2.out B1.out)
  have Z2 := Lib.hid (Z1.out.below hb2.out)
  have hl2 := Z2.out.lt
  have z0 := Z2.out.cell 0
  have z1 := Z2.out.cell 1
  have z2 := Z2.out.cell 2
  have z3 := Z2.out.cell 3
  have z4 := Z2.out.cell 4
  have z5 := Z2.out.cell 5
  have z6 := Z2.out.cell 6
  obtain ⟨hm1, hm2, hm3⟩ := hm.out
  have HM := Lib.hid hm3
  clear hm hm3 hb2 hl1
  rcases (show m < 0 ∨ 0 ≤ m by omega) with hneg | hpos
  · go_wp2_with fail
    go_ret
    exact ⟨false, rfl, Lib.hid (fun h => by cases h), B2⟩
  have hpos2 : ¬ m < 0 := by omega
  by_cases hlen : (n : Int) = m
  · have hle1 : ((n : Int) != m) = false := by simpa using hlen
    have hle2 : ((n : Int) == m) = true := by simpa using hlen
    have HAR := Lib.hid (show (args.length = 0 ∧ Among op opsN) ∨ (args.length = 1 ∧ Among op opsO) ∨ (args.length = 2 ∧ Among op opsT) by
      have h := HM.out
      have hL := HLEN.out
      rcases (show m = 0 ∨ m = 1 ∨ m = 2 by omega) with q | q | q
      · exact .inl ⟨by omega, h.1 q⟩
      · exact .inr (.inl ⟨by omega, h.2.1 q⟩)
      · exact .inr (.inr ⟨by omega, h.2.2 q⟩))
    obtain rfl : (n : Int) = m := hlen
    by_cases hcol : op.toList = [99, 111, 108]
    · have HC := Lib.hid hcol
      have k1 : (op.toList == [99, 111, 108]) = true := by simpa using hcol
      have k2 : (op.toList == [108, 105, 116]) = false := by rw [hcol]; rfl
      have NL := Lib.hid (show op.toList ≠ [108, 105, 116] by rw [hcol]; decide)
      clear hcol hpos
      go_wp2_with fail
      refine (name145 _ name T2.out).mono ?_
      rintro e w3 ⟨qn, rfl, hqn, hb3⟩
      have B3 := Lib.hid (bt hb3.out B2.out)
      have Z3 := Lib.hid (Z2.out.below hb3.out)
      clear hb3 z0 z1 z2 z3 z4 z5 z6 hl2
      have hl3 := Z3.out.lt
      have z0 := Z3.out.cell 0
      have z1 := Z3.out.cell 1
      have z2 := Z3.out.cell 2
      have z3 := Z3.out.cell 3
      have z4 := Z3.out.cell 4
      cases qn with
      | false =>
        go_wp2_with fail
        go_ret
        exact ⟨false, rfl, Lib.hid (fun h => by cases h), B3⟩
      | true =>
        have NM := Lib.hid (hqn.out (by first | rfl | trivial))
        clear hqn
        by_cases hk0 : vk = 0
        · have q1 : (vk != 0) = false := by simpa using hk0
          have q2 : (vk == 0) = true := by simpa using hk0
          have HKK := Lib.hid (show op.toList ≠ [108, 105, 116] → vk = 0 from fun _ => hk0)
          clear hk0
          go_wp2_with fail
          refine (valid36 _ vk vi vt vb T1.out).mono ?_
          rintro e wv ⟨nv, rfl, hv, hbv⟩
          have BV := Lib.hid (bt hbv.out B3.out)
          have ZV := Lib.hid (Z3.out.below hbv.out)
          have y0 := ZV.out.cell 0
          have y1 := ZV.out.cell 1
          have y2 := ZV.out.cell 2
          have y3 := ZV.out.cell 3
          have y4 := ZV.out.cell 4
          have hlv := ZV.out.lt
          clear z0 z1 z2 z3 z4 hbv
          by_cases hv0 : nv = 0
          · subst hv0
            have VV := Lib.hid (hv.out.2.2 rfl)
            clear hv
            go_wp2_with fail
            clear y0 y1 y2 y3 y4
            go_loopg [4] n (fun kx s4 wr => ∃ i : Nat, s4 = .int .i64 i ∧ kx + i = n ∧ Hid (Below w.heap.size w wr ∧ Blk wr w.heap.size 29 #[.string op, .int .i64 vk, .int .i64 vi, .string vt, .bool vb, .string name, .slice A n c]) ∧ Hid (∀ (j : Nat) (e : PEx), j < i → args[j]? = some e → MayOk e))
            case atStart => exact ⟨0, rfl, by omega, Lib.hid ⟨BV.out, ZV.out⟩, Lib.hid (fun j e h => absurd h (Nat.not_lt_zero _))⟩
            case round =>
              obtain ⟨i, rfl, hki, HB, HO⟩ := hrel
              have hi9 : (i : Int) ≤ 1466015503701 := by omega
              have hi0 : (0 : Int) ≤ (i : Int) := by omega
              by_cases hi : i < n
              · have hiz : (i : Int) < (n : Int) := by omega
                obtain ⟨a, ha⟩ : ∃ a, args[i]? = some a := ⟨_, List.getElem?_eq_getElem (by rw [HLEN.out]; exact hi)⟩
                obtain ⟨rfl, hb⟩ := HA.out (by omega)
                obtain ⟨x0, x1, x2, x3, x4, x5, x6⟩ := (HCL.out i a ha).below hb HB.out.1
                have hbr := Nat.lt_of_lt_of_le hb HB.out.1.size
                have zr := HB.out.2.cell 6
                have hlr := HB.out.2.lt
                have CI := Lib.hid (HIH.out i a ha wr HB.out.1)
                have HAI := Lib.hid ha
                clear ha
                go_wp2_with fail
                refine CI.out.mono ?_
                rintro e w5 ⟨q, rfl, hq, hb5⟩
                have B5 := Lib.hid (bt hb5.out HB.out.1)
                have Z5 := Lib.hid (HB.out.2.below hb5.out)
                clear x0 x1 x2 x3 x4 x5 x6 zr hlr CI hb5
                cases q with
                | false =>
                  go_wp2_with fail
                  go_ret
                  exact ⟨false, rfl, Lib.hid (fun h => by cases h), B5⟩
                | true =>
                  have NX := Lib.hid (show ∀ (j : Nat) (e : PEx), j < i + 1 → args[j]? = some e → MayOk e from fun j e hj he => by
                    rcases Nat.lt_or_ge j i with h | h
                    · exact HO.out j e h he
                    · obtain rfl : j = i := by omega
                      obtain rfl := Option.some.inj (he.symm.trans HAI.out)
                      exact hq.out (by first | rfl | trivial))
                  clear hq
                  go_wp2_with fail
                  go_roundg (gk - 1)
                  case measure => omega
                  case rel => exact ⟨i + 1, by first | rfl | (simp; done), by omega, Lib.hid ⟨B5.out, Z5.out⟩, NX⟩
              · have hiz : ¬ (i : Int) < (n : Int) := by omega
                have FIN := Lib.hid (show MayOk (.mk op ⟨vk, vi, vt, vb⟩ name args) from .mk _ _ _ _ HAR.out VV.out HKK.out NM.out (fun j e he => HO.out j e (by have := (List.getElem?_eq_some_iff.1 he).1; rw [HLEN.out] at this; omega) he))
                have BB := Lib.hid HB.out.1
                clear HB HO
                go_wp2_with fail
                go_ret
                exact ⟨true, rfl, Lib.hid (fun _ => FIN.out), BB⟩
          · have r1 : (nv != 0) = true := by simpa using hv0
            have r2 : (nv == 0) = false := by simpa using hv0
            go_wp2_with fail
            go_ret
            exact ⟨false, rfl, Lib.hid (fun h => by cases h), BV⟩
        · have q1 : (vk != 0) = true := by simpa using hk0
          have q2 : (vk == 0) = false := by simpa using hk0
          go_wp2_with fail
          go_ret
          exact ⟨false, rfl, Lib.hid (fun h => by cases h), B3⟩
    · have k1 : (op.toList == [99, 111, 108]) = false := by simpa using hcol
      clear hcol
      by_cases hname : name.toList = []
      · have hn1 : name.toList.isEmpty = true := by rw [hname]; rfl
        have NM := Lib.hid (show name.size ≤ 32 by rw [size_toList, hname]; decide)
        by_cases hlit : op.toList = [108, 105, 116]
        · have k2 : (op.toList == [108, 105, 116]) = true := by simpa using hlit
          have NL := Lib.hid hlit
          clear hlit
          have HKK := Lib.hid (show op.toList ≠ [108, 105, 116] → vk = 0 from fun h => absurd NL.out h)
          go_wp2_with fail
          refine (valid36 _ vk vi vt vb T1.out).mono ?_
          rintro e wv ⟨nv, rfl, hv, hbv⟩
          have BV := Lib.hid (bt hbv.out B2.out)
          have ZV := Lib.hid (Z2.out.below hbv.out)
          have y0 := ZV.out.cell 0
          have y1 := ZV.out.cell 1
          have y2 := ZV.out.cell 2
          have y3 := ZV.out.cell 3
          have y4 := ZV.out.cell 4
          have hlv := ZV.out.lt
          clear z0 z1 z2 z3 z4 hbv
          by_cases hv0 : nv = 0
          · subst hv0
            have VV := Lib.hid (hv.out.2.2 rfl)
            clear hv
            by_cases hi0 : vi < 0
            · have s1 : vi < 0 := hi0
              go_wp2_with fail
              go_ret
              exact ⟨false, rfl, Lib.hid (fun h => by cases h), BV⟩
            · have s1 : ¬ vi < 0 := hi0
              clear hi0
              go_wp2_with fail
              clear y0 y1 y2 y3 y4
              go_loopg [4] n (fun kx s4 wr => ∃ i : Nat, s4 = .int .i64 i ∧ kx + i = n ∧ Hid (Below w.heap.size w wr ∧ Blk wr w.heap.size 29 #[.string op, .int .i64 vk, .int .i64 vi, .string vt, .bool vb, .string name, .slice A n c]) ∧ Hid (∀ (j : Nat) (e : PEx), j < i → args[j]? = some e → MayOk e))
              case atStart => exact ⟨0, rfl, by omega, Lib.hid ⟨BV.out, ZV.out⟩, Lib.hid (fun j e h => absurd h (Nat.not_lt_zero _))⟩
              case round =>
                obtain ⟨i, rfl, hki, HB, HO⟩ := hrel
                have hi9 : (i : Int) ≤ 1466015503701 := by omega
                have hi0 : (0 : Int) ≤ (i : Int) := by omega
                by_cases hi : i < n
                · have hiz : (i : Int) < (n : Int) := by omega
                  obtain ⟨a, ha⟩ : ∃ a, args[i]? = some a := ⟨_, List.getElem?_eq_getElem (by rw [HLEN.out]; exact hi)⟩
                  obtain ⟨rfl, hb⟩ := HA.out (by omega)
                  obtain ⟨x0, x1, x2, x3, x4, x5, x6⟩ := (HCL.out i a ha).below hb HB.out.1
                  have hbr := Nat.lt_of_lt_of_le hb HB.out.1.size
                  have zr := HB.out.2.cell 6
                  have hlr := HB.out.2.lt
                  have CI := Lib.hid (HIH.out i a ha wr HB.out.1)
                  have HAI := Lib.hid ha
                  clear ha
                  go_wp2_with fail
                  refine CI.out.mono ?_
                  rintro e w5 ⟨q, rfl, hq, hb5⟩
                  have B5 := Lib.hid (bt hb5.out HB.out.1)
                  have Z5 := Lib.hid (HB.out.2.below hb5.out)
                  clear x0 x1 x2 x3 x4 x5 x6 zr hlr CI hb5
                  cases q with
                  | false =>
                    go_wp2_with fail
                    go_ret
                    exact ⟨false, rfl, Lib.hid (fun h => by cases h), B5⟩
                  | true =>
                    have NX := Lib.hid (show ∀ (j : Nat) (e : PEx), j < i + 1 → args[j]? = some e → MayOk e from fun j e hj he => by
                      rcases Nat.lt_or_ge j i with h | h
                      · exact HO.out j e h he
                      · obtain rfl : j = i := by omega
                        obtain rfl := Option.some.inj (he.symm.trans HAI.out)
                        exact hq.out (by first | rfl | trivial))
                    clear hq
                    go_wp2_with fail
                    go_roundg (gk - 1)
                    case measure => omega
                    case rel => exact ⟨i + 1, by first | rfl | (simp; done), by omega, Lib.hid ⟨B5.out, Z5.out⟩, NX⟩
                · have hiz : ¬ (i : Int) < (n : Int) := by omega
                  have FIN := Lib.hid (show MayOk (.mk op ⟨vk, vi, vt, vb⟩ name args) from .mk _ _ _ _ HAR.out VV.out HKK.out NM.out (fun j e he => HO.out j e (by have := (List.getElem?_eq_some_iff.1 he).1; rw [HLEN.out] at this; omega) he))
                  have BB := Lib.hid HB.out.1
                  clear HB HO
                  go_wp2_with fail
                  go_ret
                  exact ⟨true, rfl, Lib.hid (fun _ => FIN.out), BB⟩
          · have r1 : (nv != 0) = true := by simpa using hv0
            have r2 : (nv == 0) = false := by simpa using hv0
            go_wp2_with fail
            go_ret
            exact ⟨false, rfl, Lib.hid (fun h => by cases h), BV⟩
        · have k2 : (op.toList == [108, 105, 116]) = false := by simpa using hlit
          have NL := Lib.hid hlit
          clear hlit
          by_cases hk0 : vk = 0
          · have q1 : (vk != 0) = false := by simpa using hk0
            have q2 : (vk == 0) = true := by simpa using hk0
            have HKK := Lib.hid (show op.toList ≠ [108, 105, 116] → vk = 0 from fun _ => hk0)
            clear hk0
            go_wp2_with fail
            refine (valid36 _ vk vi vt vb T1.out).mono ?_
            rintro e wv ⟨nv, rfl, hv, hbv⟩
            have BV := Lib.hid (bt hbv.out B2.out)
            have ZV := Lib.hid (Z2.out.below hbv.out)
            have y0 := ZV.out.cell 0
            have y1 := ZV.out.cell 1
            have y2 := ZV.out.cell 2
            have y3 := ZV.out.cell 3
            have y4 := ZV.out.cell 4
            have hlv := ZV.out.lt
            clear z0 z1 z2 z3 z4 hbv
            by_cases hv0 : nv = 0
            · subst hv0
              have VV := Lib.hid (hv.out.2.2 rfl)
              clear hv
              go_wp2_with fail
              clear y0 y1 y2 y3 y4
              go_loopg [4] n (fun kx s4 wr => ∃ i : Nat, s4 = .int .i64 i ∧ kx + i = n ∧ Hid (Below w.heap.size w wr ∧ Blk wr w.heap.size 29 #[.string op, .int .i64 vk, .int .i64 vi, .string vt, .bool vb, .string name, .slice A n c]) ∧ Hid (∀ (j : Nat) (e : PEx), j < i → args[j]? = some e → MayOk e))
              case atStart => exact ⟨0, rfl, by omega, Lib.hid ⟨BV.out, ZV.out⟩, Lib.hid (fun j e h => absurd h (Nat.not_lt_zero _))⟩
              case round =>
                obtain ⟨i, rfl, hki, HB, HO⟩ := hrel
                have hi9 : (i : Int) ≤ 1466015503701 := by omega
                have hi0 : (0 : Int) ≤ (i : Int) := by omega
                by_cases hi : i < n
                · have hiz : (i : Int) < (n : Int) := by omega
                  obtain ⟨a, ha⟩ : ∃ a, args[i]? = some a := ⟨_, List.getElem?_eq_getElem (by rw [HLEN.out]; exact hi)⟩
                  obtain ⟨rfl, hb⟩ := HA.out (by omega)
                  obtain ⟨x0, x1, x2, x3, x4, x5, x6⟩ := (HCL.out i a ha).below hb HB.out.1
                  have hbr := Nat.lt_of_lt_of_le hb HB.out.1.size
                  have zr := HB.out.2.cell 6
                  have hlr := HB.out.2.lt
                  have CI := Lib.hid (HIH.out i a ha wr HB.out.1)
                  have HAI := Lib.hid ha
                  clear ha
                  go_wp2_with fail
                  refine CI.out.mono ?_
                  rintro e w5 ⟨q, rfl, hq, hb5⟩
                  have B5 := Lib.hid (bt hb5.out HB.out.1)
                  have Z5 := Lib.hid (HB.out.2.below hb5.out)
                  clear x0 x1 x2 x3 x4 x5 x6 zr hlr CI hb5
                  cases q with
                  | false =>
                    go_wp2_with fail
                    go_ret
                    exact ⟨false, rfl, Lib.hid (fun h => by cases h), B5⟩
                  | true =>
                    have NX := Lib.hid (show ∀ (j : Nat) (e : PEx), j < i + 1 → args[j]? = some e → MayOk e from fun j e hj he => by
                      rcases Nat.lt_or_ge j i with h | h
                      · exact HO.out j e h he
                      · obtain rfl : j = i := by omega
                        obtain rfl := Option.some.inj (he.symm.trans HAI.out)
                        exact hq.out (by first | rfl | trivial))
                    clear hq
                    go_wp2_with fail
                    go_roundg (gk - 1)
                    case measure => omega
                    case rel => exact ⟨i + 1, by first | rfl | (simp; done), by omega, Lib.hid ⟨B5.out, Z5.out⟩, NX⟩
                · have hiz : ¬ (i : Int) < (n : Int) := by omega
                  have FIN := Lib.hid (show MayOk (.mk op ⟨vk, vi, vt, vb⟩ name args) from .mk _ _ _ _ HAR.out VV.out HKK.out NM.out (fun j e he => HO.out j e (by have := (List.getElem?_eq_some_iff.1 he).1; rw [HLEN.out] at this; omega) he))
                  have BB := Lib.hid HB.out.1
                  clear HB HO
                  go_wp2_with fail
                  go_ret
                  exact ⟨true, rfl, Lib.hid (fun _ => FIN.out), BB⟩
            · have r1 : (nv != 0) = true := by simpa using hv0
              have r2 : (nv == 0) = false := by simpa using hv0
              go_wp2_with fail
              go_ret
              exact ⟨false, rfl, Lib.hid (fun h => by cases h), BV⟩
          · have q1 : (vk != 0) = true := by simpa using hk0
            have q2 : (vk == 0) = false := by simpa using hk0
            go_wp2_with fail
            go_ret
            exact ⟨false, rfl, Lib.hid (fun h => by cases h), B2⟩
      · have hn1 : name.toList.isEmpty = false := by simpa using hname
        go_wp2_with fail
        go_ret
        exact ⟨false, rfl, Lib.hid (fun h => by cases h), B2⟩
  · have hle1 : ((n : Int) != m) = true := by simpa using hlen
    have hle2 : ((n : Int) == m) = false := by simpa using hlen
    clear hlen
    go_wp2_with fail
    go_ret
    exact ⟨false, rfl, Lib.hid (fun h => by cases h), B2⟩

theorem may102 {W : World} {x : PEx} {A : Option Addr} {n c : Nat} (h : PExIs W x A n c) : ∀ W', Below W.heap.size W W' → Calls Tryz.prog 102 #[.agg #[.string x.op, .int .i64 x.val.kind, .int .i64 x.val.int, .string x.val.text, .bool x.val.bool, .string x.name, .slice A n c]] W' (MayPost x W') := by
  induction h with
  | mk op v name args A n c len small t0 t1 t2 b off hA As ns cs cells sub ih =>
    intro W' hW
    exact may102_mk W' op v name args A n c len small t1 t2 b off (fun h0 => ⟨(hA h0).1, Nat.lt_of_lt_of_le (hA h0).2 hW.size⟩) As ns cs (fun j e hj => (cells j e hj).below (hA (by have := (List.getElem?_eq_some_iff.1 hj).1; omega)).2 hW) (fun j e hj W2 h2 => ih j e hj W2 (bt h2 hW))

end Go.Proofs.YtbcmmecilheicaaGreatDoor

