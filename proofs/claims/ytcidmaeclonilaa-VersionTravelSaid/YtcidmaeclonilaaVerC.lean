/- Store.Versions, Store.Changed. -/
import Derived.Test.YtcidmaeclonilaaVerA
namespace Go.Proofs.Ytcidmaeclonilaa
open Go Go.RowKit Go.Shelf

theorem store_box {w W : World} {b : Nat} {v : Value} (h : BoxI b v w W) (u : Value) : BoxI b u W (W.setCell ⟨b, 0, none⟩ u) ∧ KeepsOthers W (W.setCell ⟨b, 0, none⟩ u) :=
  ⟨⟨World.cell?_setCell_same' _ _ _ (by rw [h.cell]; rfl), by rw [World.frozen?_setCell]; exact h.frozen, (Chg.refl [b] W).setCell (p := ⟨b, 0, none⟩) (.inl (by simp)) u⟩, KeepsOthers.setCell _ _ _⟩

def sumC {xs : List CK} (pre : List { x : CK // x ∈ xs }) : Int := pre.foldl (fun s x => wrap64 (s + (x.1.2.2.1 : Int))) 0
theorem sumC_snoc {xs : List CK} (pre : List { x : CK // x ∈ xs }) (x : { x : CK // x ∈ xs }) : sumC (pre ++ [x]) = wrap64 (sumC pre + (x.1.2.2.1 : Int)) := by simp [sumC]

set_option maxHeartbeats 1000000 in
theorem closure74 (w W : World) (b : Nat) (S : Int) (k : ByteArray) (A : Option Addr) (n c : Nat) (h : BoxI b (.int .i64 S) w W) :
    Calls Try.prog 74 #[.string k, .slice A n c, .pointer (some ⟨b, 0, none⟩)] W fun e W' => e = .returned (.bool true) ∧ BoxI b (.int .i64 (wrap64 (S + (n : Int)))) W W' ∧ KeepsOthers W W' := by
  have hc := h.cell
  have hf := h.frozen
  have F := Lib.hid (fun u => store_box h u)
  clear h
  go_enter Try.func74, Try.ntmps74
  go_wp2
  go_ret
  exact ⟨rfl, (F.out _).1, (F.out _).2⟩

theorem wz {n : Nat} (h : n ≤ 1000000) : wrap64 (0 + (n : Int)) = (n : Int) := by unfold wrap64; omega
theorem tree_xs (key : ByteArray) (vs : List Ver) (A : Option Addr) (n c : Nat) (fr to : ByteArray) (hf ht of ot : Bool) :
    (inR fr to hf ht of ot (treeL key vs (.slice A n c))).map kvC = if vs = [] ∨ hasB fr to hf ht of ot key = false then [] else [(key, (A, n, c))] := by
  unfold inR treeL
  by_cases hv : vs = []
  · simp [hv]
  · cases hh : hasB fr to hf ht of ot key <;> simp [hv, hh, kvC, slcOf]
theorem one_pre {α : Type} {P : α → Prop} {x : α} {pre : List { y : α // P y }} (h : pre.map (·.1) = [x] ∨ (pre ≠ [] ∧ pre.map (·.1) <+: [x])) : ∃ y, pre = [y] ∧ y.1 = x := by
  have h2 : pre.map (·.1) = [x] := by
    rcases h with h | ⟨h, h'⟩
    · exact h
    · rcases List.prefix_cons_iff.1 h' with h'' | ⟨t, ht, ht'⟩
      · exact absurd (List.map_eq_nil_iff.1 h'') h
      · rw [List.prefix_nil] at ht'
        rw [ht, ht']
  match pre, h2 with
  | [y], h2 => exact ⟨y, rfl, by simpa using h2⟩

/-- has the last version come behind a commit? -/
def lastB (vs : List Ver) (since : Int) : Bool := match vs.getLast? with
  | some v => decide (since < v.at_)
  | none => false

set_option maxRecDepth 100000 in
set_option maxHeartbeats 2000000 in
theorem closure73 (w W : World) (b b2 m g c : Nat) (k : ByteArray) (old : Bool) (ai since : Int) (h : BoxI b (.bool old) w W) (h2 : W.cell? ⟨b2, 0, none⟩ = some (.int .i64 since)) (h3 : W.cell? ⟨g, m * 3, none⟩ = some (.int .i64 ai)) (hm : m ≤ 100000) :
    Calls Try.prog 73 #[.string k, .slice (some ⟨g, 0, none⟩) (m + 1) c, .pointer (some ⟨b2, 0, none⟩), .pointer (some ⟨b, 0, none⟩)] W fun e W' => e = .returned (.bool (!decide (since < ai))) ∧ BoxI b (.bool (decide (since < ai))) W W' ∧ KeepsOthers W W' := by
  have hc := h.cell
  have hf := h.frozen
  have F := Lib.hid (show ∀ u, BoxI b u W ((W.drew).setCell ⟨b, 0, none⟩ u) ∧ KeepsOthers W ((W.drew).setCell ⟨b, 0, none⟩ u) from fun u => ⟨⟨World.cell?_setCell_same' _ _ _ (by show (W.cell? ⟨b, 0, none⟩).isSome = true; rw [h.cell]; rfl), by rw [World.frozen?_setCell]; exact h.frozen, (Chg.refl [b] W).drew.setCell (p := ⟨b, 0, none⟩) (.inl (by simp)) u⟩, (KeepsOthers.drew W).trans (KeepsOthers.setCell _ _ _)⟩)
  have g1 := wv3 (n := m + 1) (by omega)
  have g2 := wv1 (n := m + 1) (by omega)
  have hmz : ((m + 1 : Nat) : Int) - 1 = (m : Int) := by omega
  rw [hmz] at g1 g2
  have hm0 : (0 : Int) ≤ (m : Int) := by omega
  have hm2 : (m : Int) < (m : Int) + 1 := by omega
  clear h
  go_enter Try.func73, Try.ntmps73
  go_upto_region 1 with fail
  go_region
  all_goals
    go_wp2_with fail
    go_ret
    exact ⟨rfl, (F.out _).1, (F.out _).2⟩

end Go.Proofs.Ytcidmaeclonilaa
