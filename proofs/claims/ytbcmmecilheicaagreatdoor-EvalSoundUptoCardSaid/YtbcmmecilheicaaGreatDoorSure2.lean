/- check.Aggregates, eval.Constant of expressions without aggregates, columns and labels; law21.sure. -/
import Derived.Test.YtbcmmecilheicaaGreatDoorSure1
namespace Go.Proofs.YtbcmmecilheicaaGreatDoor
open Go Go.RowKit

set_option maxRecDepth 100000 in
set_option maxHeartbeats 4000000 in
/-- slices.IndexFunc, of what is true of none -/
theorem idxf69 (w : World) (es : List Ex) (A : Option Addr) (n c b off : Nat) (len : es.length = n) (hn9 : n ≤ 1000000) (hA : 0 < n → A = some ⟨b, off, none⟩ ∧ b < w.heap.size)
    (As : Nat → Option Addr) (ns cs : Nat → Nat) (cells : ∀ (j : Nat) (e : Ex), es[j]? = some e → ExC w b (off + j * 8) e (As j) (ns j) (cs j)) (calls : ∀ (j : Nat) (e : Ex), es[j]? = some e → ∀ W, Below w.heap.size w W → Calls Tryz.prog 78 #[exAgg e (As j) (ns j) (cs j)] W fun e w' => e = .returned (.bool false) ∧ Hid (Below W.heap.size W w')) :
    Calls Tryz.prog 148 #[.slice A n c, .func (.func 78) #[] #[]] w fun e w' => e = .returned (.int .i64 (-1)) ∧ Hid (Below w.heap.size w w') := by
  have HA := Lib.hid hA
  have HC := Lib.hid cells
  have HK := Lib.hid calls
  have HL := Lib.hid len
  clear hA cells calls len
  go_enter Tryz.func148, Tryz.ntmps148
  go_wp2
  go_loopg [8] n (fun kx s8 wr => ∃ i : Nat, s8 = .int .i64 i ∧ kx + i = n ∧ Hid (Below w.heap.size w wr))
  case atStart => exact ⟨0, rfl, rfl, Lib.hid (Below.refl _ _)⟩
  case round =>
    obtain ⟨i, rfl, hk, I⟩ := hrel
    by_cases hi : i < n
    · obtain ⟨x, hx⟩ : ∃ x, es[i]? = some x := ⟨_, List.getElem?_eq_getElem (by rw [HL.out]; exact hi)⟩
      obtain ⟨hAe, hbl⟩ := HA.out (by omega)
      subst hAe
      obtain ⟨c0, c1, c2, c3, c4, c5, c6, c7⟩ := (HC.out i x hx).below hbl I.out
      have hx96 : (i : Int) < 1000001 := by omega
      have hiz : (i : Int) < (n : Int) := by omega
      have hi0 : (0 : Int) ≤ (i : Int) := by omega
      have call := Lib.hid (HK.out i x hx wr I.out)
      have BB := Lib.hid I.out
      clear hx I
      go_wp2_with fail
      refine call.out.mono ?_
      clear call c0 c1 c2 c3 c4 c5 c6 c7
      rintro e w2 ⟨rfl, h2⟩
      have B2 := Lib.hid (bt h2.out BB.out)
      clear h2
      go_wp2_with fail
      go_roundg (gk - 1)
      case measure => omega
      case rel => exact ⟨i + 1, by first | rfl | (simp; done), by omega, B2⟩
    · have hiz : ¬ (i : Int) < (n : Int) := by omega
      go_wp2_with fail
      go_ret
      exact ⟨rfl, I⟩

/-- no aggregate lies in it -/
def AggNo (x : Ex) (A : Option Addr) (n c : Nat) (W : World) : Prop := Calls Tryz.prog 78 #[exAgg x A n c] W fun e w' => e = .returned (.bool false) ∧ Hid (Below W.heap.size W w')

set_option maxRecDepth 100000 in
set_option maxHeartbeats 4000000 in
theorem agg33 (w : World) (op : ByteArray) (kind col : Int) (v : Val) (es : List Ex) (A : Option Addr) (n c b off : Nat) (hop : ∀ y ∈ aggs, (op.toList == y.toList) = false) (len : es.length = n) (hn9 : n ≤ 1000000) (hA : 0 < n → A = some ⟨b, off, none⟩ ∧ b < w.heap.size)
    (As : Nat → Option Addr) (ns cs : Nat → Nat) (cells : ∀ (j : Nat) (e : Ex), es[j]? = some e → ExC w b (off + j * 8) e (As j) (ns j) (cs j)) (calls : ∀ (j : Nat) (e : Ex), es[j]? = some e → ∀ W, Below w.heap.size w W → AggNo e (As j) (ns j) (cs j) W) :
    AggNo (.mk op kind col v es) A n c w := by
  unfold AggNo
  show Calls Tryz.prog 78 #[.agg #[.string op, .int .i64 kind, .int .i64 col, .int .i64 v.kind, .int .i64 v.int, .string v.text, .bool v.bool, .slice A n c]] w _
  have HF := Lib.hid (fun (W : World) (hb : Below w.heap.size w W) => idxf69 W es A n c b off len hn9 (fun h => ⟨(hA h).1, Nat.lt_of_lt_of_le (hA h).2 hb.size⟩) As ns cs (fun j e hj => (cells j e hj).below (hA (by have := (List.getElem?_eq_some_iff.1 hj).1; omega)).2 hb) (fun j e hj W2 h2 => calls j e hj W2 (bt h2 hb)))
  have HG := Lib.hid (fun W => agg47 W op hop)
  clear hop len hA cells calls
  go_enter Tryz.func78, Tryz.ntmps78
  go_wp2_with fail
  refine (HG.out _).mono ?_
  rintro e w1 ⟨rfl, h1⟩
  have zx := (Blk.new w 51 #[.string op, .int .i64 kind, .int .i64 col, .int .i64 v.kind, .int .i64 v.int, .string v.text, .bool v.bool, .slice A n c]).below h1.out
  have z7 := zx.cell 7
  have B1 := Lib.hid (show Below w.heap.size w w1 from h1.out.from1)
  clear zx h1
  have HK := Lib.hid (HF.out w1 B1.out)
  have HCF : Hid (Calls Tryz.prog 107 #[.slice A n c, .func (.func 78) #[] #[]] w1 fun e w' => e = .returned (.bool false) ∧ Hid (Below w1.heap.size w1 w')) := Lib.hid (by
    clear z7
    go_enter Tryz.func107, Tryz.ntmps107
    go_wp2_with (go_at_call 148; refine HK.out.mono ?_; rintro e w2 ⟨rfl, h2⟩)
    go_ret
    exact ⟨rfl, h2⟩)
  go_wp2_with fail
  refine HCF.out.mono ?_
  rintro e w2 ⟨rfl, h2⟩
  have B2 := Lib.hid (bt h2.out B1.out)
  clear h2 z7
  go_wp2_with fail
  go_ret
  exact ⟨rfl, B2⟩

/-- it is constant -/
def ConY (x : Ex) (A : Option Addr) (n c : Nat) (W : World) : Prop := Calls Tryz.prog 38 #[exAgg x A n c] W fun e w' => e = .returned (.bool true) ∧ Hid (Below W.heap.size W w')

set_option maxRecDepth 100000 in
set_option maxHeartbeats 4000000 in
theorem const18 (w : World) (op : ByteArray) (kind col : Int) (v : Val) (es : List Ex) (A : Option Addr) (n c b off : Nat) (o2 : (op.toList == [99, 111, 108]) = false) (o3 : (op.toList == [108, 97, 98, 101, 108]) = false) (hagg : ∀ W, Below w.heap.size w W → AggNo (.mk op kind col v es) A n c W) (len : es.length = n) (hn9 : n ≤ 1000000) (hA : 0 < n → A = some ⟨b, off, none⟩ ∧ b < w.heap.size)
    (As : Nat → Option Addr) (ns cs : Nat → Nat) (cells : ∀ (j : Nat) (e : Ex), es[j]? = some e → ExC w b (off + j * 8) e (As j) (ns j) (cs j)) (calls : ∀ (j : Nat) (e : Ex), es[j]? = some e → ∀ W, Below w.heap.size w W → ConY e (As j) (ns j) (cs j) W) :
    ConY (.mk op kind col v es) A n c w := by
  unfold ConY
  show Calls Tryz.prog 38 #[.agg #[.string op, .int .i64 kind, .int .i64 col, .int .i64 v.kind, .int .i64 v.int, .string v.text, .bool v.bool, .slice A n c]] w _
  have HG : Hid (∀ W, Below w.heap.size w W → Calls Tryz.prog 78 #[.agg #[.string op, .int .i64 kind, .int .i64 col, .int .i64 v.kind, .int .i64 v.int, .string v.text, .bool v.bool, .slice A n c]] W fun e w' => e = .returned (.bool false) ∧ Hid (Below W.heap.size W w')) := Lib.hid hagg
  have HA := Lib.hid hA
  have HC := Lib.hid cells
  have HK := Lib.hid calls
  have HL := Lib.hid len
  clear hagg len hA cells calls
  go_enter Tryz.func38, Tryz.ntmps38
  go_wp2_with fail
  refine (HG.out _ (below_alloc _ _)).mono ?_
  rintro e w1 ⟨rfl, h1⟩
  have zx := (Blk.new w 51 #[.string op, .int .i64 kind, .int .i64 col, .int .i64 v.kind, .int .i64 v.int, .string v.text, .bool v.bool, .slice A n c]).below h1.out
  have z7 := zx.cell 7
  have B1 := Lib.hid (show Below w.heap.size w w1 from h1.out.from1)
  clear zx h1
  go_wp2_with fail
  go_loopg [20] n (fun kx s20 wr => ∃ i : Nat, s20 = .int .i64 i ∧ kx + i = n ∧ Hid (Below w.heap.size w wr))
  case atStart => exact ⟨0, rfl, rfl, B1⟩
  case round =>
    obtain ⟨i, rfl, hk, I⟩ := hrel
    by_cases hi : i < n
    · obtain ⟨x, hx⟩ : ∃ x, es[i]? = some x := ⟨_, List.getElem?_eq_getElem (by rw [HL.out]; exact hi)⟩
      obtain ⟨hAe, hbl⟩ := HA.out (by omega)
      subst hAe
      obtain ⟨c0, c1, c2, c3, c4, c5, c6, c7⟩ := (HC.out i x hx).below hbl I.out
      have hx96 : (i : Int) < 1000001 := by omega
      have hiz : (i : Int) < (n : Int) := by omega
      have hi0 : (0 : Int) ≤ (i : Int) := by omega
      have call0 := HK.out i x hx (wr.alloc (.cells #[.string x.op, .int .i64 x.kind, .int .i64 x.col, .int .i64 x.val.kind, .int .i64 x.val.int, .string x.val.text, .bool x.val.bool, .slice (As i) (ns i) (cs i)] 51)) (bt (below_alloc _ _) I.out)
      unfold ConY at call0
      have call := Lib.hid call0
      have BB := Lib.hid I.out
      clear hx I call0
      go_wp2_with fail
      refine call.out.mono ?_
      clear call c0 c1 c2 c3 c4 c5 c6 c7
      rintro e w2 ⟨rfl, h2⟩
      have B2 := Lib.hid (bt h2.out.from1 BB.out)
      clear h2
      go_wp2_with fail
      go_roundg (gk - 1)
      case measure => omega
      case rel => exact ⟨i + 1, by first | rfl | (simp; done), by omega, B2⟩
    · have hiz : ¬ (i : Int) < (n : Int) := by omega
      go_wp2_with fail
      go_ret
      exact ⟨rfl, I⟩

end Go.Proofs.YtbcmmecilheicaaGreatDoor
