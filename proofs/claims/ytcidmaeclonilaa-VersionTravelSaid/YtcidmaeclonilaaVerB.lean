/- Rows of bytes; bytes.Clone; chain.row. -/
import Derived.Test.YtcidmaeclonilaaVerS
import Derived.Lib.ConvBytes
namespace Go.Proofs.Ytcidmaeclonilaa
open Go Go.RowKit

abbrev Sl := Option Addr × Nat × Nat
def Sl.v (R : Sl) : Value := .slice R.1 R.2.1 R.2.2
/-- a slice of bytes, as it is read -/
structure BytesAt (W : World) (R : Sl) (s : ByteArray) : Prop where
  len : R.2.1 = s.size
  cap : s.size ≤ R.2.2
  form : (R.1 = none ∧ s.size = 0 ∧ R.2.2 = 0) ∨ ∃ g, R.1 = some ⟨g, 0, none⟩ ∧ g < W.heap.size ∧ ∀ j, j < s.size → W.cell? ⟨g, j, none⟩ = some (.int .u8 (s.data.toList.getD j 0).toNat)
theorem BytesAt.below {W W' : World} {R : Sl} {s : ByteArray} (H : BytesAt W R s) (hb : Below W.heap.size W W') : BytesAt W' R s := by
  refine ⟨H.len, H.cap, ?_⟩
  rcases H.form with h | ⟨g, h1, h2, h3⟩
  · exact .inl h
  · exact .inr ⟨g, h1, Nat.lt_of_lt_of_le h2 hb.size, fun j hj => (hb.cell (p := ⟨g, j, none⟩) h2).trans (h3 j hj)⟩
theorem BytesAt.nil (W : World) : BytesAt W (none, 0, 0) ⟨#[]⟩ := ⟨rfl, Nat.le_refl _, .inl ⟨rfl, rfl, rfl⟩⟩
theorem info5 : ∃ i, Try.prog.info? 5 = some i ∧ i.zero = some (.int .u8 0) ∧ i.size = 1 ∧ i.bytes = 1 := by
  have h : (Try.prog.info? 5).map (fun i => (i.zero, i.size, i.bytes)) = some (some (.int .u8 0), 1, 1) := by kernel_rfl
  obtain ⟨i0, hi, hz0, hz1, hz2⟩ := info_parts h
  exact ⟨i0, hi, hz0, hz1, hz2⟩
def cellsU (s : ByteArray) : List Value := s.data.toList.map fun b => Value.int .u8 b.toNat
theorem cellsU_len (s : ByteArray) : (cellsU s).length = s.size := by simp [cellsU]
theorem cellsU_at {s : ByteArray} {j : Nat} (h : j < s.size) : (cellsU s)[j]? = some (.int .u8 (s.data.toList.getD j 0).toNat) := by
  have h' : j < s.data.toList.length := by rw [Array.length_toList]; exact h
  simp [cellsU, List.getD_eq_getElem?_getD, List.getElem?_eq_getElem h']
theorem bytesWorld_below (w : World) (e : TypeId) (s : ByteArray) : Below w.heap.size w (Lib.bytesWorld w e s) :=
  ⟨rfl, rfl, rfl, by rw [Lib.bytesWorld_size]; omega, fun k hk => Lib.bytesWorld_at_old w e s k hk⟩
/-- a text turned to bytes -/
theorem bytes_conv (w : World) (s : ByteArray) : ∃ c, (convert 9 53 (.string s)).run Try.prog w = .ok (.slice (some ⟨w.heap.size, 0, none⟩) s.size c) (Lib.bytesWorld w 5 s) ∧ BytesAt (Lib.bytesWorld w 5 s) (some ⟨w.heap.size, 0, none⟩, s.size, c) s := by
  refine ⟨_, Lib.run_convert_string_bytes (P := Try.prog) w 9 53 5 s Try.underlying9 Try.underlying53 Try.underlying5, rfl, grownCap_ge w s.size 0 5, .inr ⟨w.heap.size, rfl, by rw [Lib.bytesWorld_size]; omega, fun j hj => Lib.bytesWorld_cell w 5 s j hj⟩⟩

set_option maxRecDepth 100000 in
theorem nilB (W : World) : (binOp BinOp.eql 53 (.slice none 0 0) (.slice none 0 0)).run Try.prog W = .ok (.bool true) W := by kernel_rfl
set_option maxRecDepth 100000 in
theorem someB (a : Addr) (n c : Nat) (W : World) : (binOp BinOp.eql 53 (.slice (some a) n c) (.slice none 0 0)).run Try.prog W = .ok (.bool false) W := by kernel_rfl

set_option maxRecDepth 100000 in
set_option maxHeartbeats 2000000 in
/-- bytes.Clone -/
theorem clone68 (w : World) (A : Option Addr) (n c : Nat) (s : ByteArray) (H : BytesAt w (A, n, c) s) (hs : s.size ≤ 140737488355328) :
    Calls Try.prog 68 #[.slice A n c] w fun e w' => ∃ (A' : Option Addr) (c' : Nat), e = .returned (.slice A' n c') ∧ Hid (BytesAt w' (A', n, c') s) ∧ (∀ g, A' = some ⟨g, 0, none⟩ → w.heap.size ≤ g) ∧ Hid (Below w.heap.size w w') := by
  have hl : n = s.size := H.len
  have hc := H.cap
  rcases H.form with ⟨h1, h2, h3⟩ | ⟨g, h1, hg, hcell⟩
  · have hA : A = none := h1
    have hn : n = 0 := by omega
    have hc0 : c = 0 := h3
    have F := Lib.hid H
    clear H h1 h2 h3 hl hc
    subst hA hn hc0
    have hnb := nilB
    go_enter Try.func68, Try.ntmps68
    go_wp2
    go_ret
    exact ⟨none, _, rfl, F, fun g hg => (by cases hg), Lib.hid (Below.refl _ _)⟩
  · have hA : A = some ⟨g, 0, none⟩ := h1
    subst hA
    obtain ⟨i, hi, hz, hsz, hby⟩ := info5
    have hbE : Below w.heap.size w (w.alloc (.cells #[] 5)) := (Below.refl _ w).alloc (Nat.le_refl _) _
    obtain ⟨v', w', hr, hown, hgr, -⟩ := run_append_own (P := Try.prog) (w.alloc (.cells #[] 5)) w.heap.size 53 53 5 i _ 1 1 Try.underlying53 hi hz hsz hby rfl (by omega) (.slice (some ⟨w.heap.size, 0, none⟩) 0 0) 0 [] (World.ownsRow_made (e := 5) (size := 1) w #[] 0 (Nat.le_refl _) (by unfold maxLen; omega) rfl) ⟨g, 0, none⟩ n c (cellsU s) (by rw [cellsU_len, hl, Nat.mul_one]) (fun j u hj => by
      rw [add_lit0]
      have hjs : j < s.size := by have := (List.getElem?_eq_some_iff.1 hj).1; rwa [cellsU_len] at this
      rw [cellsU_at hjs] at hj
      rw [(hbE.cell (p := ⟨g, j, none⟩) hg), ← hj]
      exact hcell j hjs) (fun u hu => by
        obtain ⟨b, -, rfl⟩ := List.mem_map.1 hu
        rfl) (by unfold maxLen; omega) (by omega) (by simp)
    have hB : Below w.heap.size w w' := by
      refine ⟨hgr.os, hgr.tape, hgr.output, Nat.le_trans hbE.size hgr.size, fun k hk => (hgr.block k (by have := hbE.size; omega) (fun e => by simp [Value.ownBlock] at e; omega)).trans (hbE.block k hk)⟩
    have hform : ∃ A' c', v' = .slice A' n c' ∧ BytesAt w' (A', n, c') s ∧ ∀ g, A' = some ⟨g, 0, none⟩ → w.heap.size ≤ g := by
      rcases hown.2 with ⟨rfl, h0⟩ | ⟨g', cap, cur, rfl, hb', hg', h1', h2', h3', h4'⟩
      · have hn0 : n = 0 := by omega
        exact ⟨none, 0, by rw [hn0], ⟨hl, by show s.size ≤ 0; omega, .inl ⟨rfl, by omega, rfl⟩⟩, fun g hg => (by cases hg)⟩
      · refine ⟨some ⟨g', 0, none⟩, cap, by rw [Nat.zero_add], ⟨hl, by show s.size ≤ cap; omega, .inr ⟨g', rfl, (Array.getElem?_eq_some_iff.1 hg').1, fun j hj => ?_⟩⟩, fun g2 hg2 => (by
          have : g' = g2 := by injection hg2 with hg2; injection hg2
          omega)⟩
        have := hown.cells (g := g') rfl j _ (by rw [List.nil_append]; exact cellsU_at hj)
        rwa [add_lit0] at this
    obtain ⟨A', c', rfl, hbytes, hfresh⟩ := hform
    have FR := Lib.hid hfresh
    have F := Lib.hid hbytes
    have FB := Lib.hid hB
    clear hown hgr hB hbytes hfresh H hcell h1 hbE hc hl
    have hnb := someB
    go_enter Try.func68, Try.ntmps68
    go_wp2_with (at_builtin; (refine wpList_append_runI _ rfl _ _ 53 53 rfl (.slice (some ⟨w.heap.size, 0, none⟩) 0 0) (.slice (some ⟨g, 0, none⟩) n c) rfl rfl hr ?_))
    go_ret
    exact ⟨_, _, rfl, F, FR.out, FB⟩

/-- what row tells -/
def rowOf (vs : List Ver) : Nat → Sl × Bool
  | 0 => ((none, 0, 0), false)
  | k + 1 => match vs[k]? with
    | some v => if v.gone = true then ((none, 0, 0), false) else (v.row, true)
    | none => ((none, 0, 0), false)

set_option maxRecDepth 100000 in
set_option maxHeartbeats 2000000 in
theorem row71 (w : World) (A : Option Addr) (n c : Nat) (vs : List Ver) (at_ : Int) (H : ChainAt w A n vs) (hn : n ≤ 100000) (hs : VSrt vs) :
    Calls Try.prog 71 #[.slice A n c, .int .i64 at_] w fun e w' => ∃ i : Nat, e = .returned (.tuple #[.slice (rowOf vs i).1.1 (rowOf vs i).1.2.1 (rowOf vs i).1.2.2, .bool (rowOf vs i).2]) ∧ Hid (AsP vs at_ i) ∧ Hid (Below w.heap.size w w') := by
  have ha := Lib.hid (as92 w A n c vs at_ H hn hs)
  have HC := Lib.hid H
  clear H hs
  go_enter Try.func71, Try.ntmps71
  go_wp2_with fail
  refine ha.out.mono ?_
  clear ha
  rintro e w1 ⟨i, rfl, P, hi, hb⟩
  cases i with
  | zero =>
    have hz : ((0 : Nat) : Int) - 1 < 0 := by omega
    go_wp2_with fail
    go_ret2
    exact ⟨0, rfl, P, hb⟩
  | succ k =>
    have hkz : (((k + 1 : Nat) : Int) - 1) = (k : Int) := by omega
    rw [hkz]
    obtain ⟨v, hv⟩ : ∃ v, vs[k]? = some v := ⟨_, List.getElem?_eq_getElem (by rw [HC.out.len]; omega)⟩
    obtain ⟨g, rfl, hg, -, c1, c2⟩ := (HC.out.below hb.out).at_ hv
    have hge : ¬ ((k : Int) < 0) := by omega
    have hlt : (k : Int) < (n : Int) := by omega
    have HV := Lib.hid hv
    clear hv
    obtain ⟨va, ⟨r1, r2, r3⟩, vg⟩ := v
    have c1' : w1.cell? ⟨g, k * 3 + 1, none⟩ = some (.slice r1 r2 r3) := c1
    have c2' : w1.cell? ⟨g, k * 3 + 2, none⟩ = some (.bool vg) := c2
    clear c1 c2
    cases vg with
    | true =>
      go_wp2_with fail
      go_ret2
      exact ⟨k + 1, by simp [rowOf, HV.out], P, hb⟩
    | false =>
      go_wp2_with fail
      go_ret2
      exact ⟨k + 1, by simp [rowOf, HV.out], P, hb⟩

end Go.Proofs.Ytcidmaeclonilaa
