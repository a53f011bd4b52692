/- Values and expressions: what the program reckons, in plain Lean. Blocks, rows of values: what lies in memory and what keeps it. value.Null, Int, Text, Bool, is, null. value.Not, And, Or. -/
import Derived.WalkKit
import Derived.Test.YtbcmmecilheicaaGreatDoorProg
import Derived.Lib.Hide
import Derived.Handy
import Derived.Laws.AppendOwn
import Derived.Deep.LoopGhost
import Derived.Deep.QuietTactic
import Derived.BigQuiet
import Derived.Deep.RegionWith
import Derived.Deep.CutRange
import Derived.Deep.Draws
import Derived.WalkLawsBesides
import Derived.WalkSpells

/- Values and expressions: what the program reckons, in plain Lean. -/
namespace Go.Proofs.YtbcmmecilheicaaGreatDoor
open Go

/-- a value -/
structure Val where
 kind : Int
 int : Int
 text : ByteArray
 bool : Bool
def Val.null : Val := ⟨0, 0, ⟨#[]⟩, false⟩
def Val.ofInt (n : Int) : Val := ⟨1, n, ⟨#[]⟩, false⟩
def Val.ofText (s : ByteArray) : Val := ⟨2, 0, s, false⟩
def Val.ofBool (b : Bool) : Val := ⟨3, 0, ⟨#[]⟩, b⟩
def Val.cells (v : Val) : Array Value := #[.int .i64 v.kind, .int .i64 v.int, .string v.text, .bool v.bool]
/-- a value and an error's number -/
abbrev Res := Val × Option Int

def kindOk (k : Int) : Bool := decide (k = 0) || decide (k = 1) || decide (k = 2) || decide (k = 3)
def isK (kind : Int) (v : Val) : Bool := decide (v.kind = kind) || decide (v.kind = 0)
def nullB (v : Val) : Bool := decide (v.kind = 0)
def notP (a : Val) : Res := if isK 3 a = true then (if nullB a = true then (Val.null, none) else (Val.ofBool (!a.bool), none)) else (Val.null, some 7)
/-- is a value, of which kind and truth alone are left, this truth? -/
def isT (v : Val) (b : Bool) : Bool := decide (v.kind = 3) && (v.bool == b)
def eitherP (a b : Val) (enough : Bool) : Res :=
 if (isK 3 a && isK 3 b) = true then (if (isT a enough || isT b enough) = true then (Val.ofBool enough, none) else if (nullB a || nullB b) = true then (Val.null, none) else (Val.ofBool (!enough), none)) else (Val.null, some 7)

end Go.Proofs.YtbcmmecilheicaaGreatDoor

/- Blocks, rows of values: what lies in memory and what keeps it. -/
namespace Go.Proofs.YtbcmmecilheicaaGreatDoor
open Go Go.RowKit

/-- a block known whole -/
def Blk (w : World) (g : Nat) (t : TypeId) (cs : Array Value) : Prop := w.heap[g]? = some (.cells cs t (0, 0))
section
variable {w w' : World} {g : Nat} {t : TypeId} {cs : Array Value}
theorem Blk.lt (h : Blk w g t cs) : g < w.heap.size := (Array.getElem?_eq_some_iff.1 h).1
theorem Blk.cell (h : Blk w g t cs) (i : Nat) : w.cell? ⟨g, i, none⟩ = cs[i]? := cell_of_row w g i cs t (0, 0) h
theorem Blk.frozen (h : Blk w g t cs) (i : Nat) : w.frozen? ⟨g, i, none⟩ = false := by
 unfold Blk at h
 simp [World.frozen?, h]
theorem Blk.new (w : World) (t : TypeId) (cs : Array Value) : Blk (w.alloc (.cells cs t)) w.heap.size t cs := heap_alloc_new w _
theorem Blk.alloc (h : Blk w g t cs) (o : Obj) : Blk (w.alloc o) g t cs := (Below.heap_alloc w o g h.lt).trans h
theorem Blk.below (h : Blk w g t cs) (hb : Below w.heap.size w w') : Blk w' g t cs := (hb.block g h.lt).trans h
theorem Blk.set_ (h : Blk w g t cs) (i : Nat) (u : Value) : Blk (w.setCell ⟨g, i, none⟩ u) g t (cs.setIfInBounds i u) := by
 unfold Blk at h ⊢
 simp [World.setCell, Array.getElem?_modify, h]
end
theorem below_drew (w : World) : Below w.heap.size w w.drew := ⟨rfl, rfl, rfl, Nat.le_refl _, fun _ _ => rfl⟩
theorem below_drewN (w : World) (q : Nat) : Below w.heap.size w (w.drewN q) := ⟨rfl, rfl, rfl, Nat.le_refl _, fun _ _ => rfl⟩
theorem below_alloc (w : World) (o : Obj) : Below w.heap.size w (w.alloc o) := (Below.refl _ w).alloc (Nat.le_refl _) _
theorem bt {A W W' : World} (h' : Below W.heap.size W W') (h : Below A.heap.size A W) : Below A.heap.size A W' := h.trans (h'.mono h.size)
theorem add_lit0 (g j : Nat) : (⟨g, 0, none⟩ : Addr).add j = ⟨g, j, none⟩ := by unfold Addr.add; split <;> simp_all

/-- a value's four cells -/
structure ValC (W : World) (b o : Nat) (v : Val) : Prop where
 c0 : W.cell? ⟨b, o, none⟩ = some (.int .i64 v.kind)
 c1 : W.cell? ⟨b, o + 1, none⟩ = some (.int .i64 v.int)
 c2 : W.cell? ⟨b, o + 2, none⟩ = some (.string v.text)
 c3 : W.cell? ⟨b, o + 3, none⟩ = some (.bool v.bool)
theorem ValC.below {W W' : World} {b o : Nat} {v : Val} (h : ValC W b o v) (hb : b < W.heap.size) (hW : Below W.heap.size W W') : ValC W' b o v :=
 ⟨(hW.cell (p := ⟨b, o, none⟩) hb).trans h.c0, (hW.cell (p := ⟨b, o + 1, none⟩) hb).trans h.c1, (hW.cell (p := ⟨b, o + 2, none⟩) hb).trans h.c2, (hW.cell (p := ⟨b, o + 3, none⟩) hb).trans h.c3⟩
/-- a slice of values, as it is read -/
structure ValsAt (W : World) (A : Option Addr) (n : Nat) (l : List Val) : Prop where
 len : l.length = n
 at_ : ∀ (j : Nat) (v : Val), l[j]? = some v → ∃ b off, A = some ⟨b, off, none⟩ ∧ b < W.heap.size ∧ ValC W b (off + j * 4) v
theorem ValsAt.below {W W' : World} {A : Option Addr} {n : Nat} {l : List Val} (h : ValsAt W A n l) (hW : Below W.heap.size W W') : ValsAt W' A n l :=
 ⟨h.len, fun j v hj => by
  obtain ⟨b, off, e, hb, hc⟩ := h.at_ j v hj
  exact ⟨b, off, e, Nat.lt_of_lt_of_le hb hW.size, hc.below hb hW⟩⟩
theorem ValsAt.nil (W : World) (A : Option Addr) : ValsAt W A 0 [] := ⟨rfl, fun j v h => by simp at h⟩
theorem ValsAt.one {W : World} {b : Nat} {t : TypeId} {v : Val} (h : Blk W b t #[.int .i64 v.kind, .int .i64 v.int, .string v.text, .bool v.bool]) : ValsAt W (some ⟨b, 0, none⟩) 1 [v] :=
 ⟨rfl, fun j u hj => by
  match j, hj with
  | 0, hj =>
   obtain rfl : v = u := by simpa using hj
   exact ⟨b, 0, rfl, h.lt, h.cell 0, h.cell 1, h.cell 2, h.cell 3⟩
  | j + 1, hj => simp at hj⟩
theorem ValsAt.two {W : World} {b : Nat} {t : TypeId} {u v : Val} (h : Blk W b t #[.int .i64 u.kind, .int .i64 u.int, .string u.text, .bool u.bool, .int .i64 v.kind, .int .i64 v.int, .string v.text, .bool v.bool]) : ValsAt W (some ⟨b, 0, none⟩) 2 [u, v] :=
 ⟨rfl, fun j x hj => by
  match j, hj with
  | 0, hj =>
   obtain rfl : u = x := by simpa using hj
   exact ⟨b, 0, rfl, h.lt, h.cell 0, h.cell 1, h.cell 2, h.cell 3⟩
  | 1, hj =>
   obtain rfl : v = x := by simpa using hj
   exact ⟨b, 0, rfl, h.lt, h.cell 4, h.cell 5, h.cell 6, h.cell 7⟩
  | j + 2, hj => simp at hj⟩

end Go.Proofs.YtbcmmecilheicaaGreatDoor

/- value.Null, Int, Text, Bool, is, null. -/
namespace Go.Proofs.YtbcmmecilheicaaGreatDoor
open Go Go.RowKit

set_option maxHeartbeats 1000000 in
theorem null34 (w : World) : Calls Tryz.prog 80 #[] w fun e w' => e = .returned (.agg #[.int .i64 0, .int .i64 0, .string ⟨#[]⟩, .bool false]) ∧ Hid (Below w.heap.size w w') := by
 go_enter Tryz.func80, Tryz.ntmps80
 go_wp2
 go_returns
 exact ⟨rfl, Lib.hid ((Below.refl _ w).alloc (Nat.le_refl _) _)⟩
set_option maxHeartbeats 1000000 in
theorem int50 (w : World) (n : Int) : Calls Tryz.prog 109 #[.int .i64 n] w fun e w' => e = .returned (.agg #[.int .i64 1, .int .i64 n, .string ⟨#[]⟩, .bool false]) ∧ Hid (Below w.heap.size w w') := by
 go_enter Tryz.func109, Tryz.ntmps109
 go_wp2
 go_returns
 exact ⟨rfl, Lib.hid ((Below.refl _ w).alloc (Nat.le_refl _) _)⟩
set_option maxHeartbeats 1000000 in
theorem text35 (w : World) (s : ByteArray) : Calls Tryz.prog 81 #[.string s] w fun e w' => e = .returned (.agg #[.int .i64 2, .int .i64 0, .string s, .bool false]) ∧ Hid (Below w.heap.size w w') := by
 go_enter Tryz.func81, Tryz.ntmps81
 go_wp2
 go_returns
 exact ⟨rfl, Lib.hid ((Below.refl _ w).alloc (Nat.le_refl _) _)⟩
set_option maxHeartbeats 1000000 in
theorem bool52 (w : World) (b : Bool) : Calls Tryz.prog 98 #[.bool b] w fun e w' => e = .returned (.agg #[.int .i64 3, .int .i64 0, .string ⟨#[]⟩, .bool b]) ∧ Hid (Below w.heap.size w w') := by
 go_enter Tryz.func98, Tryz.ntmps98
 go_wp2
 go_returns
 exact ⟨rfl, Lib.hid ((Below.refl _ w).alloc (Nat.le_refl _) _)⟩

set_option maxRecDepth 20000 in
set_option maxHeartbeats 4000000 in
theorem null72 (w : World) (A : Option Addr) (n c : Nat) (l : List Val) (h : ValsAt w A n l) (hn : n ≤ 1000000) :
  Calls Tryz.prog 151 #[.slice A n c] w fun e w' => e = .returned (.bool (l.any nullB)) ∧ Hid (Below w.heap.size w w') := by
 have H := Lib.hid h
 clear h
 obtain ⟨r, hr⟩ : ∃ r, r = l.any nullB := ⟨_, rfl⟩
 rw [← hr]
 have HR := Lib.hid hr
 clear hr
 go_enter Tryz.func151, Tryz.ntmps151
 go_wp2
 go_loopg [7] n (fun kx s7 wr => ∃ j : Nat, s7 = .int .i64 j ∧ kx + j = n ∧ Hid (Below w.heap.size w wr ∧ (l.take j).any nullB = false))
 case atStart => exact ⟨0, rfl, rfl, Lib.hid ⟨Below.refl _ _, by simp⟩⟩
 case round =>
  obtain ⟨j, rfl, hk, I⟩ := hrel
  by_cases hj : j < n
  ·obtain ⟨v, hv⟩ : ∃ v, l[j]? = some v := ⟨_, List.getElem?_eq_getElem (by rw [H.out.len]; exact hj)⟩
   obtain ⟨b, off, rfl, hb, hc⟩ := H.out.at_ j v hv
   obtain ⟨c0, c1, c2, c3⟩ := hc.below hb I.out.1
   have hjz : (j : Int) < (n : Int) := by omega
   have hj0 : (0 : Int) ≤ (j : Int) := by omega
   have hj1 : (j : Int) < 1000001 := by omega
   have HV := Lib.hid hv
   clear hv hc hb
   by_cases h0 : v.kind = 0
   ·have hr : true = r := by
     rw [HR.out]
     exact (List.any_eq_true.2 ⟨v, List.mem_of_getElem? HV.out, by simp [nullB, h0]⟩).symm
    rw [h0] at c0
    have BB := Lib.hid I.out.1
    subst hr
    clear I h0
    go_wp2
    go_ret
    exact ⟨rfl, Lib.hid (by have h := BB.out; have hs := h.size; go_grown)⟩
   ·have hkz : (v.kind == 0) = false := by simpa using h0
    have BB := Lib.hid I.out.1
    have TT := Lib.hid I.out.2
    have NN := Lib.hid h0
    clear I h0
    go_wp2
    go_roundg (gk - 1)
    case measure => omega
    case rel => exact ⟨j + 1, by first | rfl | (simp; done), by omega, Lib.hid ⟨by have h := BB.out; have hs := h.size; go_grown, by
     rw [List.take_add_one, HV.out]
     have h1 := TT.out
     have h2 := NN.out
     simp only [List.any_append, h1, Bool.false_or]
     simp [nullB, h2]⟩⟩
  ·obtain rfl : n = j := by omega
   have hr : false = r := by
    have h1 := I.out.2
    rw [List.take_of_length_le (by rw [H.out.len]; exact Nat.le_refl _)] at h1
    rw [HR.out, h1]
   have BB := Lib.hid I.out.1
   subst hr
   clear I
   go_wp2
   go_ret
   exact ⟨rfl, BB⟩

set_option maxRecDepth 20000 in
set_option maxHeartbeats 4000000 in
theorem is71 (w : World) (kind : Int) (A : Option Addr) (n c : Nat) (l : List Val) (h : ValsAt w A n l) (hn : n ≤ 1000000) :
  Calls Tryz.prog 150 #[.int .i64 kind, .slice A n c] w fun e w' => e = .returned (.bool (l.all (isK kind))) ∧ Hid (Below w.heap.size w w') := by
 have H := Lib.hid h
 clear h
 obtain ⟨r, hr⟩ : ∃ r, r = l.all (isK kind) := ⟨_, rfl⟩
 rw [← hr]
 have HR := Lib.hid hr
 clear hr
 go_enter Tryz.func150, Tryz.ntmps150
 go_wp2
 go_loopg [9] n (fun kx s9 wr => ∃ j : Nat, s9 = .int .i64 j ∧ kx + j = n ∧ Hid (Below w.heap.size w wr ∧ (l.take j).all (isK kind) = true))
 case atStart => exact ⟨0, rfl, rfl, Lib.hid ⟨Below.refl _ _, by simp⟩⟩
 case round =>
  obtain ⟨j, rfl, hk, I⟩ := hrel
  by_cases hj : j < n
  ·obtain ⟨v, hv⟩ : ∃ v, l[j]? = some v := ⟨_, List.getElem?_eq_getElem (by rw [H.out.len]; exact hj)⟩
   obtain ⟨b, off, rfl, hb, hc⟩ := H.out.at_ j v hv
   obtain ⟨c0, c1, c2, c3⟩ := hc.below hb I.out.1
   have hjz : (j : Int) < (n : Int) := by omega
   have hj0 : (0 : Int) ≤ (j : Int) := by omega
   have hj1 : (j : Int) < 1000001 := by omega
   have HV := Lib.hid hv
   have BB := Lib.hid I.out.1
   have TT := Lib.hid I.out.2
   clear hv hc hb I
   have next : isK kind v = true → (l.take (j + 1)).all (isK kind) = true := fun hv => by
    rw [List.take_add_one, HV.out]
    have h1 := TT.out
    simp only [List.all_append, h1, Bool.true_and]
    simp [hv]
   have NX := Lib.hid next
   clear next
   by_cases h1 : v.kind = kind
   ·have hk1 : (v.kind == kind) = true := by simpa using h1
    have hk2 : (v.kind != kind) = false := by simpa using h1
    have IV := Lib.hid (show isK kind v = true by simp [isK, h1])
    clear h1
    go_wp2
    go_roundg (gk - 1)
    case measure => omega
    case rel => exact ⟨j + 1, by first | rfl | (simp; done), by omega, Lib.hid ⟨by have h := BB.out; have hs := h.size; go_grown, NX.out IV.out⟩⟩
   ·have hk1 : (v.kind == kind) = false := by simpa using h1
    have hk2 : (v.kind != kind) = true := by simpa using h1
    by_cases h0 : v.kind = 0
    ·have hz1 : (v.kind == 0) = true := by simpa using h0
     have hz2 : (v.kind != 0) = false := by simpa using h0
     have IV := Lib.hid (show isK kind v = true by simp [isK, h0])
     clear h1 h0
     go_wp2
     go_roundg (gk - 1)
     case measure => omega
     case rel => exact ⟨j + 1, by first | rfl | (simp; done), by omega, Lib.hid ⟨by have h := BB.out; have hs := h.size; go_grown, NX.out IV.out⟩⟩
    ·have hz1 : (v.kind == 0) = false := by simpa using h0
     have hz2 : (v.kind != 0) = true := by simpa using h0
     have hr : false = r := by
      rw [HR.out]
      exact (List.all_eq_false.2 ⟨v, List.mem_of_getElem? HV.out, by simp [isK, h0, h1]⟩).symm
     subst hr
     clear h1 h0
     go_wp2
     go_ret
     exact ⟨rfl, Lib.hid (by have h := BB.out; have hs := h.size; go_grown)⟩
  ·obtain rfl : n = j := by omega
   have hr : true = r := by
    have h1 := I.out.2
    rw [List.take_of_length_le (by rw [H.out.len]; exact Nat.le_refl _)] at h1
    rw [HR.out, h1]
   have BB := Lib.hid I.out.1
   subst hr
   clear I
   go_wp2
   go_ret
   exact ⟨rfl, BB⟩

end Go.Proofs.YtbcmmecilheicaaGreatDoor

/- value.Not, And, Or. -/
namespace Go.Proofs.YtbcmmecilheicaaGreatDoor
open Go Go.RowKit

theorem blk_new' {W w : World} {t : TypeId} {cs : Array Value} {g : Nat} (hW : W = w.alloc (.cells cs t)) (hg : g = w.heap.size) : Blk W g t cs := by
 subst hW hg; exact Blk.new w t cs
theorem bcell {W w1 : World} (hb : Below W.heap.size W w1) : (∀ b o, b < W.heap.size → w1.cell? ⟨b, o, none⟩ = W.cell? ⟨b, o, none⟩) ∧ (∀ b o, b < W.heap.size → w1.frozen? ⟨b, o, none⟩ = W.frozen? ⟨b, o, none⟩) :=
 ⟨fun b o h => hb.cell (p := ⟨b, o, none⟩) h, fun b o h => hb.frozen (p := ⟨b, o, none⟩) h⟩
theorem _root_.Go.RowKit.Below.from1 {w w' : World} {a : Obj} (h : Below (w.alloc a).heap.size (w.alloc a) w') : Below w.heap.size w w' := bt h (below_alloc w a)
theorem _root_.Go.RowKit.Below.from2 {w w' : World} {a b : Obj} (h : Below ((w.alloc a).alloc b).heap.size ((w.alloc a).alloc b) w') : Below w.heap.size w w' := h.from1.from1
theorem _root_.Go.RowKit.Below.from3 {w w' : World} {a b c : Obj} (h : Below (((w.alloc a).alloc b).alloc c).heap.size (((w.alloc a).alloc b).alloc c) w') : Below w.heap.size w w' := h.from2.from1
theorem _root_.Go.RowKit.Below.from4 {w w' : World} {a b c d : Obj} (h : Below ((((w.alloc a).alloc b).alloc c).alloc d).heap.size ((((w.alloc a).alloc b).alloc c).alloc d) w') : Below w.heap.size w w' := h.from3.from1
/-- an error's value -/
def errV : Option Int → Value
 | none => .nilIface
 | some n => .iface 111 (.int .i64 n)
def resV (r : Res) : Value := .tuple #[.agg r.1.cells, errV r.2]
theorem val_set {W : World} {b : Nat} {t : TypeId} {c0 c1 c2 c3 : Value} (z : Blk W b t #[c0, c1, c2, c3]) (k i : Int) (s : ByteArray) (o : Bool) :
  ValC ((((W.setCell ⟨b, 0, none⟩ (.int .i64 k)).setCell ⟨b, 1, none⟩ (.int .i64 i)).setCell ⟨b, 2, none⟩ (.string s)).setCell ⟨b, 3, none⟩ (.bool o)) b 0 ⟨k, i, s, o⟩ := by
 have h := (((z.set_ 0 (.int .i64 k)).set_ 1 (.int .i64 i)).set_ 2 (.string s)).set_ 3 (.bool o)
 exact ⟨h.cell 0, h.cell 1, h.cell 2, h.cell 3⟩
theorem results_cv {fn : Func} {s k : Nat} (h : fn.results = #[.cell s 26, .tmp k]) {tmps : Array Value} {W : World} {b : Nat} {v : Val} {er : Value} (hs : tmps[s]? = some (.pointer (some ⟨b, 0, none⟩))) (hk : tmps[k]? = some er) (z : ValC W b 0 v) :
  (results fn tmps).run Tryz.prog W = .ok (.tuple #[.agg v.cells, er]) W := by
 obtain ⟨c0, c1, c2, c3⟩ := z
 simp only [Nat.zero_add] at c1 c2 c3
 simp [results, h, hs, hk, go_sem, c0, c1, c2, c3, Val.cells]
theorem results_c {fn : Func} {s : Nat} (h : fn.results = #[.cell s 26]) {tmps : Array Value} {W : World} {b : Nat} {v : Val} (hs : tmps[s]? = some (.pointer (some ⟨b, 0, none⟩))) (z : ValC W b 0 v) :
  (results fn tmps).run Tryz.prog W = .ok (.agg v.cells) W := by
 obtain ⟨c0, c1, c2, c3⟩ := z
 simp only [Nat.zero_add] at c1 c2 c3
 simp [results, h, hs, go_sem, c0, c1, c2, c3, Val.cells]

set_option maxRecDepth 20000 in
set_option maxHeartbeats 4000000 in
theorem not51 (w : World) (v : Val) : Calls Tryz.prog 110 #[.agg #[.int .i64 v.kind, .int .i64 v.int, .string v.text, .bool v.bool]] w fun e w' => e = .returned (resV (notP v)) ∧ Hid (Below w.heap.size w w') := by
 cases hi : isK 3 v with
 | false =>
  have hr : notP v = (Val.null, some 7) := by simp [notP, hi]
  rw [hr]
  have HI := Lib.hid hi
  clear hi hr
  go_enter Tryz.func110, Tryz.ntmps110
  go_wp2_with (go_at_call 150; refine (is71 _ _ _ _ _ [v] (ValsAt.one (t := 26) (blk_new' rfl (by simp))) (by omega)).mono ?_; rintro e w1 ⟨rfl, h1⟩; rw [List.all_cons, HI.out, Bool.false_and])
  refine (null34 _).mono ?_
  rintro e w2 ⟨rfl, h2⟩
  have H2 := bt h2.out h1.out
  obtain ⟨hc, hf⟩ := bcell H2
  have hb : Below w.heap.size w w2 := H2.from3
  have hs := hb.size
  have zb : Blk w2 (w.heap.size + 1) 26 #[.int .i64 0, .int .i64 0, .string ⟨#[]⟩, .bool false] := ((blk_new' (w := w.alloc _) rfl (by simp)).alloc _).below H2
  have ZB := Lib.hid zb
  have HB := Lib.hid hb
  clear h1 h2 H2 zb hb
  go_wp2
  refine bodyPost_ret (results_cv (s := 2) (k := 3) rfl rfl rfl (val_set ZB.out _ _ _ _)) rfl ⟨rfl, Lib.hid (by have hb := HB.out; go_grown)⟩
 | true =>
  have HI := Lib.hid hi
  cases hn : nullB v with
  | true =>
   have hr : notP v = (Val.null, none) := by simp [notP, hi, hn]
   rw [hr]
   have HN := Lib.hid hn
   clear hi hr hn
   go_enter Tryz.func110, Tryz.ntmps110
   go_wp2_with (go_at_call 150; refine (is71 _ _ _ _ _ [v] (ValsAt.one (t := 26) (blk_new' rfl (by simp))) (by omega)).mono ?_; rintro e w1 ⟨rfl, h1⟩; rw [List.all_cons, HI.out, List.all_nil, Bool.true_and]; obtain ⟨hc, hf⟩ := bcell h1.out)
   refine (null72 _ _ _ _ [v] (ValsAt.one (t := 26) (blk_new' rfl rfl)) (by omega)).mono ?_
   rintro e w2 ⟨rfl, h2⟩
   rw [List.any_cons, HN.out, Bool.true_or]
   have H2 := bt h2.out.from1 h1.out
   clear hc hf
   go_wp2_with fail
   refine (null34 _).mono ?_
   rintro e w3 ⟨rfl, h3⟩
   have H3 := bt h3.out H2
   obtain ⟨hc, hf⟩ := bcell H3
   have hb : Below w.heap.size w w3 := H3.from3
   have zb : Blk w3 (w.heap.size + 1) 26 #[.int .i64 0, .int .i64 0, .string ⟨#[]⟩, .bool false] := ((blk_new' (w := w.alloc _) rfl (by simp)).alloc _).below H3
   have ZB := Lib.hid zb
   have HB := Lib.hid hb
   clear h1 h2 h3 H2 H3 zb hb
   go_wp2
   refine bodyPost_ret (results_cv (s := 2) (k := 3) rfl rfl rfl (val_set ZB.out _ _ _ _)) rfl ⟨rfl, Lib.hid (by have hb := HB.out; go_grown)⟩
  | false =>
   have hr : notP v = (Val.ofBool (!v.bool), none) := by simp [notP, hi, hn]
   rw [hr]
   have HN := Lib.hid hn
   clear hi hr hn
   go_enter Tryz.func110, Tryz.ntmps110
   go_wp2_with (go_at_call 150; refine (is71 _ _ _ _ _ [v] (ValsAt.one (t := 26) (blk_new' rfl (by simp))) (by omega)).mono ?_; rintro e w1 ⟨rfl, h1⟩; rw [List.all_cons, HI.out, List.all_nil, Bool.true_and]; obtain ⟨hc, hf⟩ := bcell h1.out)
   refine (null72 _ _ _ _ [v] (ValsAt.one (t := 26) (blk_new' rfl rfl)) (by omega)).mono ?_
   rintro e w2 ⟨rfl, h2⟩
   rw [List.any_cons, HN.out, List.any_nil, Bool.false_or]
   have H2 := bt h2.out.from1 h1.out
   clear hc hf
   obtain ⟨hc, hf⟩ := bcell H2
   go_wp2_with fail
   refine (bool52 _ _).mono ?_
   rintro e w3 ⟨rfl, h3⟩
   have H3 := bt h3.out H2
   clear hc hf
   obtain ⟨hc, hf⟩ := bcell H3
   have hb : Below w.heap.size w w3 := H3.from3
   have zb : Blk w3 (w.heap.size + 1) 26 #[.int .i64 0, .int .i64 0, .string ⟨#[]⟩, .bool false] := ((blk_new' (w := w.alloc _) rfl (by simp)).alloc _).below H3
   have ZB := Lib.hid zb
   have HB := Lib.hid hb
   clear h1 h2 h3 H2 H3 zb hb
   go_wp2
   refine bodyPost_ret (results_cv (s := 2) (k := 3) rfl rfl rfl (val_set ZB.out _ _ _ _)) rfl ⟨rfl, Lib.hid (by have hb := HB.out; go_grown)⟩

end Go.Proofs.YtbcmmecilheicaaGreatDoor
