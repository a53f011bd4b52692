/- end, From, To: walks. -/
import Derived.Test.YtcidmaeclonilaaCTree
import Derived.Test.YtcidmaeclonilaaNear
import Derived.Deep.LoopGhost
import Derived.BigQuiet
namespace Go.Proofs.Ytcidmaeclonilaa
open Go Go.RowKit

/-- the cells of a node -/
structure CelC (w : World) (h : Nat) (t : GT) (m : Nat) : Prop where
  len : t.ks.length = m
  key : ∃ (A : Option Addr) (c : Nat), w.cell? ⟨t.b, 0, none⟩ = some (.slice A m c) ∧ ∀ (j : Nat) k, t.ks[j]? = some k → ∃ g, A = some ⟨g, 0, none⟩ ∧ w.cell? ⟨g, j, none⟩ = some (.string k)
  val : ∃ (A : Option Addr) (c : Nat), w.cell? ⟨t.b, 1, none⟩ = some (.slice A m c) ∧ ∀ (j : Nat) v, t.vs[j]? = some v → ∃ g, A = some ⟨g, 0, none⟩ ∧ w.cell? ⟨g, j, none⟩ = some v
  kid : ∃ (A : Option Addr) (c : Nat), w.cell? ⟨t.b, 2, none⟩ = some (.slice A t.cs.length c) ∧ ∀ (j : Nat) d, t.cs[j]? = some d → ∃ g, A = some ⟨g, 0, none⟩ ∧ w.cell? ⟨g, j, none⟩ = some (.pointer (some ⟨d.b, 0, none⟩))
theorem celC {w : World} {h : Nat} {t : GT} (H : Tre TC w h t) (B : BT h t) : CelC w h t t.ks.length := by
  have hN := H.nod
  refine ⟨rfl, ?_, ?_, ?_⟩
  · obtain ⟨A, c, e, -, -, h3, -⟩ := hN.kr.formN (n := t.ks.length) (by simp)
    refine ⟨A, c, (hN.blk.cell 0).trans (congrArg some e), fun j k hj => ?_⟩
    obtain ⟨g, e1, e2, -⟩ := h3 j (.string k) (by rw [List.getElem?_map, hj]; rfl)
    exact ⟨g, e1, e2⟩
  · obtain ⟨A, c, e, -, -, h3, -⟩ := hN.vr.formN (n := t.ks.length) B.vs
    refine ⟨A, c, (hN.blk.cell 1).trans (congrArg some e), fun j k hj => ?_⟩
    obtain ⟨g, e1, e2, -⟩ := h3 j k hj
    exact ⟨g, e1, e2⟩
  · obtain ⟨A, c, e, -, -, h3, -⟩ := hN.cr.formN (n := t.cs.length) (by simp)
    refine ⟨A, c, (hN.blk.cell 2).trans (congrArg some e), fun j d hj => ?_⟩
    obtain ⟨g, e1, e2, -⟩ := h3 j (ptr d) (by rw [List.getElem?_map, hj]; rfl)
    exact ⟨g, e1, e2⟩
theorem leafTC (w : World) (h : Nat) (t : GT) (H : Tre TC w h t) (B : BT h t) :
    Calls Try.prog 106 #[.pointer (some ⟨t.b, 0, none⟩)] w fun e w' => e = .returned (.bool (decide (h = 0))) ∧ w = w' := by
  obtain ⟨A, c, e, -, -, -, -⟩ := H.nod.cr.formN (n := t.cs.length) (by simp)
  have hd : decide (t.cs.length = 0) = decide (h = 0) := by
    cases h with
    | zero => simp [B.1]
    | succ h => simp [B.1]
  rw [← hd]
  exact leafC w t.b t.cs.length c t.kv t.vv A (by rw [← e]; exact H.nod.blk)


/-- a pair's key, its value -/
def rkC (o : Option KV) : ByteArray := (o.map (·.1)).getD ⟨#[]⟩
def rvC (o : Option KV) : Value := (o.map (·.2)).getD (Value.slice none 0 0)
/-- a neighbour is told -/
def NearPostC (w : World) (o : Option KV) (e : Ending) (w' : World) : Prop :=
  e = .returned (.tuple #[.string (rkC o), rvC o, .bool o.isSome]) ∧ Below w.heap.size w w'
/-- on the way down -/
structure NrIC (F : List KV → Option KV) (w wr : World) (h : Nat) (t : GT) (o acc : Option KV) : Prop where
  tre : Tre TC wr h t
  bt : BT h t
  srt : Srt (toL h t)
  acc : (F (toL h t)).or acc = o
  below : Below w.heap.size w wr
theorem NrIC.fin {F : List KV → Option KV} {w wr : World} {h : Nat} {t : GT} {o acc : Option KV} (H : NrIC F w wr h t o acc) {x : Option KV} (hx : F (toL h t) = x) {k : ByteArray} {v : Value} {b : Bool} (hk : rkC (x.or acc) = k) (hv : rvC (x.or acc) = v) (hb : (x.or acc).isSome = b) {w1 : World} (hw : Below wr.heap.size wr w1) :
    NearPostC w o (.returned (.tuple #[.string k, v, .bool b])) w1 := by
  have ho := H.acc
  rw [hx] at ho
  subst ho hk hv hb
  exact ⟨rfl, H.below.trans (hw.mono H.below.size)⟩
theorem NrIC.down {F : List KV → Option KV} {w wr : World} {h : Nat} {t : GT} {o acc : Option KV} (H : NrIC F w wr (h + 1) t o acc) {i : Nat} {d : GT} {x : Option KV} (hi : i ≤ t.ks.length) (hd : t.cs[i]? = some d) (hx : F (toL (h + 1) t) = (F (toL h d)).or x) {w1 : World} (hw : Below wr.heap.size wr w1) :
    NrIC F w w1 h d o (x.or acc) :=
  ⟨(H.tre.kid hd).below hw, (H.bt.kid (List.mem_of_getElem? hd)).1, kid_srt H.bt H.srt hi hd, by rw [← Option.or_assoc, ← hx]; exact H.acc, H.below.trans (hw.mono H.below.size)⟩

end Go.Proofs.Ytcidmaeclonilaa
