/- exec.cell, exec.cells; barbicanref23.cells. -/
import Derived.Test.YtbcmmecilheicaaApp
namespace Go.Proofs.Ytbcmmecilheicaa
open Go Go.RowKit

/-- a row's value at a place -/
def cellP (vals : List Val) (c : Int) : Val := if c < 0 ∨ (vals.length : Int) ≤ c then Val.null else vals.getD c.toNat Val.null
theorem cellP_out {vals : List Val} {c : Int} (h : c < 0 ∨ (vals.length : Int) ≤ c) : cellP vals c = Val.null := if_pos h
theorem cellP_in {vals : List Val} {i : Nat} {v : Val} (h : vals[i]? = some v) : cellP vals (i : Int) = v := by
  have hl := (List.getElem?_eq_some_iff.1 h).1
  unfold cellP
  rw [if_neg (by omega), Int.toNat_natCast, List.getD_eq_getElem?_getD, h]
  rfl

theorem valc_blk {W : World} {b : Nat} {t : TypeId} {v : Val} (z : Blk W b t #[.int .i64 v.kind, .int .i64 v.int, .string v.text, .bool v.bool]) : ValC W b 0 v := ⟨z.cell 0, z.cell 1, z.cell 2, z.cell 3⟩

set_option maxRecDepth 100000 in
set_option maxHeartbeats 8000000 in
theorem cell40 (w : World) (at_ : Int) (VA : Option Addr) (vn vc : Nat) (vals : List Val) (hv : ValsAt w VA vn vals) (hn : vn ≤ 140737488355328) (c : Int) :
    Calls Try.prog 40 #[.agg #[.int .i64 at_, .slice VA vn vc], .int .i64 c] w fun e w' => e = .returned (.agg (cellP vals c).cells) ∧ Hid (Below w.heap.size w w') := by
  have hlen := hv.len
  by_cases h0 : c < 0
  · have hd : decide (c < 0) = true := decide_eq_true h0
    rw [cellP_out (.inl h0)]
    clear hv
    go_enter Try.func40, Try.ntmps40
    go_wp2_with fail
    refine (null34 _).mono ?_
    rintro e w2 ⟨rfl, h2⟩
    have zb := (blk_new' (w := w.alloc _) rfl (by simp) : Blk _ (w.heap.size + 1) 23 _).below h2.out
    have hfz := fun o => zb.frozen o
    have q0 := zb.cell 0
    have q1 := zb.cell 1
    have q2 := zb.cell 2
    have q3 := zb.cell 3
    have ZB := Lib.hid zb
    have HB := Lib.hid h2.out.from2
    clear zb h2
    go_wp2_with fail
    refine bodyPost_ret (results_c (s := 4) (v := Val.null) rfl rfl (val_set ZB.out _ _ _ _)) rfl ⟨rfl, Lib.hid (by have hb := HB.out; have hs := hb.size; go_grown)⟩
  · obtain ⟨i, rfl⟩ : ∃ i : Nat, c = i := ⟨c.toNat, by omega⟩
    have hd : decide ((i : Int) < 0) = false := decide_eq_false h0
    by_cases h1 : vn ≤ i
    · have hd2 : decide (vn ≤ i) = true := decide_eq_true h1
      rw [cellP_out (.inr (by omega))]
      clear hv h0
      go_enter Try.func40, Try.ntmps40
      go_wp2_with fail
      refine (null34 _).mono ?_
      rintro e w2 ⟨rfl, h2⟩
      have zx := (Blk.new w 29 #[.int .i64 at_, .slice VA vn vc]).alloc (.cells #[.int .i64 0, .int .i64 0, .string ⟨#[]⟩, .bool false] 23)
      have zb := (blk_new' (w := w.alloc _) rfl (by simp) : Blk _ (w.heap.size + 1) 23 _).below h2.out
      have hfz := fun o => zb.frozen o
      have q0 := zb.cell 0
      have q1 := zb.cell 1
      have q2 := zb.cell 2
      have q3 := zb.cell 3
      have ZB := Lib.hid zb
      have HB := Lib.hid h2.out.from2
      clear zb h2
      go_wp2_with fail
      refine bodyPost_ret (results_c (s := 4) (v := Val.null) rfl rfl (val_set ZB.out _ _ _ _)) rfl ⟨rfl, Lib.hid (by have hb := HB.out; have hs := hb.size; go_grown)⟩
    · have hd2 : decide (vn ≤ i) = false := decide_eq_false h1
      have hiz : (i : Int) < (vn : Int) := by omega
      have hi9 : (i : Int) < 140737488355329 := by omega
      obtain ⟨v, hv1⟩ : ∃ v, vals[i]? = some v := ⟨_, List.getElem?_eq_getElem (by omega)⟩
      rw [cellP_in hv1]
      obtain ⟨b, off, rfl, hb, c0, c1, c2, c3⟩ := hv.at_ i v hv1
      have hb1 : b < w.heap.size + 1 := by omega
      clear hv hv1 h0
      go_enter Try.func40, Try.ntmps40
      go_wp2_with fail
      refine bodyPost_ret (results_c (s := 4) (v := v) rfl rfl (valc_blk (blk_new' (w := w.alloc _) rfl (by simp)))) rfl ⟨rfl, Lib.hid (by go_grown)⟩

/-- what exec.cells leaves: the values, in a row of its own -/
def CellsPost (vals : List Val) (cols : List Int) (cn : Nat) (w : World) (e : Ending) (w' : World) : Prop := ∃ (A' : Option Addr) (c' : Nat), e = .returned (.slice A' cn c') ∧ Hid (w'.ownsRow w.heap.size 23 4 (.slice A' cn c') cn (valCells (cols.map (cellP vals)))) ∧ Hid (Below w.heap.size w w')

set_option maxRecDepth 100000 in
set_option maxHeartbeats 8000000 in
theorem cells21 (w : World) (at_ : Int) (VA : Option Addr) (vn vc : Nat) (vals : List Val) (hv : ValsAt w VA vn vals) (hvn : vn ≤ 140737488355328) (CA : Option Addr) (cn cc : Nat) (cols : List Int) (hc : IntsAt w CA cn cols) (hcn : cn ≤ 1000000) :
    Calls Try.prog 21 #[.agg #[.int .i64 at_, .slice VA vn vc], .slice CA cn cc] w (CellsPost vals cols cn w) := by
  unfold CellsPost
  have HV := Lib.hid hv
  have HC := Lib.hid hc
  clear hv hc
  go_enter Try.func21, Try.ntmps21
  go_wp2_with fail
  obtain ⟨w1, hw1⟩ : ∃ x, x = w.alloc (.cells #[.int .i64 at_, .slice VA vn vc] 29) := ⟨_, rfl⟩
  have Z1 := Lib.hid (show Blk w1 w.heap.size 29 #[.int .i64 at_, .slice VA vn vc] by rw [hw1]; exact Blk.new w 29 _)
  have B1 := Lib.hid (show Below w.heap.size w w1 by rw [hw1]; exact below_alloc _ _)
  rw [← hw1]
  clear hw1
  go_loopg [5, 10] cn (fun kx s5 s10 wr => ∃ (i : Nat) (Ao : Option Addr) (co : Nat), s5 = .slice Ao i co ∧ s10 = .int .i64 i ∧ kx + i = cn ∧ Hid (Below w1.heap.size w1 wr ∧ wr.ownsRow w1.heap.size 23 4 (.slice Ao i co) i (valCells ((cols.take i).map (cellP vals)))))
  case atStart => exact ⟨0, none, 0, rfl, rfl, rfl, Lib.hid ⟨Below.refl _ _, World.ownsRow_nil _ _ _ _⟩⟩
  case round =>
    obtain ⟨i, Ao, co, rfl, rfl, hk, I⟩ := hrel
    by_cases hi : i < cn
    · have hiz : (i : Int) < (cn : Int) := by omega
      have hi9 : (i : Int) < 1000001 := by omega
      obtain ⟨z, hz⟩ : ∃ z, cols[i]? = some z := ⟨_, List.getElem?_eq_getElem (by rw [HC.out.len]; exact hi)⟩
      obtain ⟨b, off, rfl, hb, hcell⟩ := (HC.out.below (bt I.out.1 B1.out)).at_ i z hz
      have zs := Z1.out.below I.out.1
      have s0 := zs.cell 0
      have s1 := zs.cell 1
      have hsl := zs.lt
      have CC := Lib.hid (cell40 wr at_ VA vn vc vals (HV.out.below (bt I.out.1 B1.out)) hvn z)
      have HZ := Lib.hid hz
      have II := Lib.hid I.out
      clear hz I zs
      go_wp2_with fail
      refine CC.out.mono ?_
      rintro e w2 ⟨rfl, h2⟩
      have ow2 := own_below II.out.2 h2.out
      have ow3 := own_below ow2 (below_alloc _ (.cells #[.int .i64 (cellP vals z).kind, .int .i64 (cellP vals z).int, .string (cellP vals z).text, .bool (cellP vals z).bool] 23))
      have B2 := bt h2.out II.out.1
      obtain ⟨v', w3, hr, hown, hb3⟩ := app_val ow3 (by unfold TB; omega) (by have := B2.size; simp; omega) (cellP vals z) w2.heap.size (Blk.new w2 23 _)
      obtain ⟨An, cn', hvn'⟩ := own_slice hown
      subst hvn'
      have NX := Lib.hid (show Below w1.heap.size w1 w3 ∧ w3.ownsRow w1.heap.size 23 4 (.slice An (i + 1) cn') (i + 1) (valCells ((cols.take (i + 1)).map (cellP vals))) from
        ⟨(bt (below_alloc _ _) B2).trans hb3, by rw [List.take_add_one, HZ.out, List.map_append]; exact hown⟩)
      have HR := Lib.hid hr
      clear hown hb3 hr ow2 ow3 B2 h2 CC s0 s1 hcell
      simp only [Val.cells]
      go_wp2_with (at_builtin; refine wpList_append_runI _ rfl _ _ 27 27 rfl (.slice Ao i co) (.slice (some ⟨w2.heap.size, 0, none⟩) 1 1) rfl rfl HR.out ?_)
      go_roundg (gk - 1)
      case measure => omega
      case rel => exact ⟨i + 1, An, cn', rfl, by first | rfl | (simp; done), by omega, NX⟩
    · obtain rfl : cn = i := by omega
      have hiz : ¬ (cn : Int) < (cn : Int) := by omega
      have EE := Lib.hid (show wr.ownsRow w.heap.size 23 4 (.slice Ao cn co) cn (valCells (cols.map (cellP vals))) by
        have h := I.out.2
        rw [List.take_of_length_le (by rw [HC.out.len]; exact Nat.le_refl _)] at h
        exact own_base h (fun g hg => Nat.le_trans B1.out.size (h.lt g hg).1))
      have BB := Lib.hid (bt I.out.1 B1.out)
      clear I
      go_wp2_with fail
      go_ret
      exact ⟨Ao, co, rfl, EE, BB⟩

end Go.Proofs.Ytbcmmecilheicaa
