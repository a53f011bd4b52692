/- law 23's twin, own, ints. -/
import Derived.Test.YtbcmmecilheicaaMat
import Derived.Deep.RegionLaw
import Derived.Test.YtbcmmecilheicaaGiveA
namespace Go.Proofs.Ytbcmmecilheicaa
open Go Go.RowKit

/-- the cells of a slice of values -/
theorem vals_src {W : World} {A : Option Addr} {n : Nat} {l : List Val} (h : ValsAt W A n l) : ∀ j u, (valCells l)[j]? = some u → ∃ a, A = some a ∧ W.cell? (a.add j) = some u := fun j u hj => by
  have hl := (List.getElem?_eq_some_iff.1 hj).1
  rw [valCells_len] at hl
  have hi : j / 4 < l.length := by omega
  obtain ⟨v, hv⟩ : ∃ v, l[j / 4]? = some v := ⟨_, List.getElem?_eq_getElem hi⟩
  obtain ⟨b, off, e, hb, c0, c1, c2, c3⟩ := h.at_ _ v hv
  obtain ⟨k0, k1, k2, k3⟩ := valCells_at hv
  refine ⟨_, e, ?_⟩
  have ea : ∀ x, (⟨b, off, none⟩ : Addr).add x = ⟨b, off + x, none⟩ := fun x => by unfold Addr.add; split <;> simp_all
  rw [ea]
  have e4 : j = j / 4 * 4 + j % 4 := by omega
  have hm : j % 4 < 4 := Nat.mod_lt _ (by omega)
  obtain ⟨q, hq⟩ : ∃ q, q = j / 4 := ⟨_, rfl⟩
  obtain ⟨r, hr⟩ : ∃ r, r = j % 4 := ⟨_, rfl⟩
  rw [← hq] at c0 c1 c2 c3 k0 k1 k2 k3 e4
  rw [← hr] at e4 hm
  match r, hm, e4 with
  | 0, _, e4 => rw [Nat.add_zero] at e4; rw [e4] at hj ⊢; rw [k0] at hj; injection hj with hj; rw [← hj]; exact c0
  | 1, _, e4 => rw [e4] at hj ⊢; rw [k1] at hj; injection hj with hj; rw [← hj]; exact c1
  | 2, _, e4 => rw [e4] at hj ⊢; rw [k2] at hj; injection hj with hj; rw [← hj]; exact c2
  | 3, _, e4 => rw [e4] at hj ⊢; rw [k3] at hj; injection hj with hj; rw [← hj]; exact c3

theorem app_vals {W : World} {A : Option Addr} {n c : Nat} {l : List Val} (h : ValsAt W A n l) (hn : n * 40 ≤ 140737488355328) :
    ∃ An cn W', (Builtin.append_ #[27, 27] 27 #[.slice none 0 0, .slice A n c]).run Try.prog W = .ok (.slice An n cn) W' ∧ W'.ownsRow W.heap.size 23 4 (.slice An n cn) n (valCells l) ∧ Below W.heap.size W W' := by
  have hl := h.len
  rcases Nat.eq_zero_or_pos n with h0 | h0
  · subst h0
    obtain rfl : l = [] := List.eq_nil_of_length_eq_zero hl
    exact ⟨none, 0, W, app_zero tVals 27 W (Nat.le_refl _), World.ownsRow_nil _ _ _ _, Below.refl _ _⟩
  · have hlen : (valCells l).length = n * 4 := by rw [valCells_len, hl]
    obtain ⟨u, hu⟩ : ∃ u, (valCells l)[0]? = some u := ⟨_, List.getElem?_eq_getElem (by omega)⟩
    obtain ⟨a, rfl, -⟩ := vals_src h 0 u hu
    obtain ⟨An, cn, W', hr, ho, hg, -⟩ := app_some tVals 27 (W := W) (B := W.heap.size) (Ao := none) (n := 0) (co := 0) (xs := []) (World.ownsRow_nil _ _ _ _) (Nat.le_refl _) a n c h0 (valCells l) hlen (fun j u hj => by
      obtain ⟨a', e, hc⟩ := vals_src h j u hj
      injection e with e
      rw [e]; exact hc) valCells_one (by unfold maxLen; omega) (by omega)
    simp only [Nat.zero_add, List.nil_append] at hr ho
    exact ⟨An, cn, W', hr, ho, ⟨hg.os, hg.tape, hg.output, hg.size, fun k hk => hg.block k hk (by simp [Value.ownBlock])⟩⟩

/-- what twin leaves -/
def TwinPost (l : List Val) (n : Nat) (w : World) (e : Ending) (w' : World) : Prop := ∃ (A' : Option Addr) (c' : Nat), e = .returned (.slice A' n c') ∧ Hid (w'.ownsRow w.heap.size 23 4 (.slice A' n c') n (valCells l)) ∧ Hid (Below w.heap.size w w')
set_option maxHeartbeats 2000000 in
theorem twin25 (w : World) (A : Option Addr) (n c : Nat) (l : List Val) (h : ValsAt w A n l) (hn : n * 40 ≤ 140737488355328) : Calls Try.prog 25 #[.slice A n c] w (TwinPost l n w) := by
  obtain ⟨An, cn, W', hr, ho, hb⟩ := app_vals (c := c) h hn
  have HR := Lib.hid hr
  have HO := Lib.hid ho
  have HB := Lib.hid hb
  clear hr ho hb h
  go_enter Try.func25, Try.ntmps25
  go_wp2_with (at_builtin; refine wpList_append_runI _ rfl _ _ 27 27 rfl (.slice none 0 0) (.slice A n c) rfl rfl HR.out ?_)
  go_ret
  exact ⟨An, cn, rfl, HO, HB⟩

def rcells (gs : List (Int × Option Addr × Nat × Nat)) : List Value := (gs.map fun e => [Value.int .i64 e.1, .slice e.2.1 e.2.2.1 e.2.2.2]).flatten
theorem rcells_len (gs : List (Int × Option Addr × Nat × Nat)) : (rcells gs).length = gs.length * 2 := by
  induction gs with
  | nil => rfl
  | cons p l ih => simp only [rcells, List.map_cons, List.flatten_cons, List.length_append, List.length_cons, List.length_nil] at ih ⊢; omega
theorem rcells_append (a b : List (Int × Option Addr × Nat × Nat)) : rcells (a ++ b) = rcells a ++ rcells b := by simp [rcells]
theorem rcells_one {gs : List (Int × Option Addr × Nat × Nat)} : ∀ u ∈ rcells gs, u.oneCell' = true := by
  intro u hu
  obtain ⟨c, hc, huc⟩ := List.mem_flatten.1 hu
  obtain ⟨p, hp, rfl⟩ := List.mem_map.1 hc
  simp only [List.mem_cons, List.not_mem_nil, or_false] at huc
  rcases huc with rfl | rfl <;> rfl
theorem rcells_at : ∀ {l : List (Int × Option Addr × Nat × Nat)} {i : Nat} {p : Int × Option Addr × Nat × Nat}, l[i]? = some p → (rcells l)[i * 2]? = some (.int .i64 p.1) ∧ (rcells l)[i * 2 + 1]? = some (.slice p.2.1 p.2.2.1 p.2.2.2)
  | [], _, _, h => by simp at h
  | q :: l, 0, p, h => by
    obtain rfl : q = p := by simpa using h
    exact ⟨rfl, rfl⟩
  | q :: l, i + 1, p, h => by
    have ih := rcells_at (l := l) (i := i) (p := p) (by simpa using h)
    have e : rcells (q :: l) = [Value.int .i64 q.1, .slice q.2.1 q.2.2.1 q.2.2.2] ++ rcells l := by simp [rcells]
    rw [e, List.getElem?_append_right (by simp; omega), List.getElem?_append_right (by simp; omega)]
    simp only [List.length_cons, List.length_nil]
    rw [show (i + 1) * 2 - (0 + 1 + 1) = i * 2 by omega, show (i + 1) * 2 + 1 - (0 + 1 + 1) = i * 2 + 1 by omega]
    exact ih

/-- rows of one's own, under way -/
structure OwI (rs : List (Int × List Val)) (w wr : World) (i : Nat) (Ao : Option Addr) (co : Nat) (gs : List (Int × Option Addr × Nat × Nat)) : Prop where
  old : Below w.heap.size w wr
  row : wr.ownsRow w.heap.size 29 2 (.slice Ao i co) i (rcells gs)
  len : gs.length = i
  val : ∀ (j : Nat) (e : Int × Option Addr × Nat × Nat), gs[j]? = some e → ∃ r, rs[j]? = some r ∧ e.1 = r.1 ∧ e.2.2.1 * 40 ≤ 140737488355328 ∧ ValsIn wr (fun b => w.heap.size ≤ b ∧ some b ≠ (Value.slice Ao i co).ownBlock) e.2.1 e.2.2.1 r.2
theorem OwI.zero (rs : List (Int × List Val)) (w : World) : OwI rs w w 0 none 0 [] := ⟨Below.refl _ _, World.ownsRow_nil _ _ _ _, rfl, fun j e h => by simp at h⟩
theorem OwI.step {rs : List (Int × List Val)} {w wr : World} {i : Nat} {Ao : Option Addr} {co : Nat} {gs : List (Int × Option Addr × Nat × Nat)} (I : OwI rs w wr i Ao co gs) (hi : i + 1 ≤ 1000001) {r : Int × List Val} (hr : rs[i]? = some r) {w2 : World} (h2 : Below wr.heap.size wr w2) {A' : Option Addr} {n c' : Nat} (hn : n * 40 ≤ 140737488355328) (hrl : r.2.length = n) (hk : w2.ownsRow wr.heap.size 23 4 (.slice A' n c') n (valCells r.2)) :
    ∃ An cn' w3, (Builtin.append_ #[44, 44] 44 #[.slice Ao i co, .slice (some ⟨w2.heap.size, 0, none⟩) 1 1]).run Try.prog (w2.alloc (.cells #[.int .i64 r.1, .slice A' n c'] 29)) = .ok (.slice An (i + 1) cn') w3 ∧ OwI rs w w3 (i + 1) An cn' (gs ++ [(r.1, A', n, c')]) := by
  have ow3 := own_below (own_below I.row h2) (below_alloc w2 (.cells #[.int .i64 r.1, .slice A' n c'] 29))
  have hs2 := h2.size
  have hs0 := I.old.size
  obtain ⟨An, cn', w3, hrun, hown, hg, hnew⟩ := app_some tRows 44 ow3 (by simp; omega) ⟨w2.heap.size, 0, none⟩ 1 1 (by omega) (rcells [(r.1, A', n, c')]) (rcells_len _) (fun j u hj => by
    rw [add_lit0, (Blk.new w2 29 _).cell j]
    simpa [rcells] using hj) rcells_one (by unfold maxLen; omega) (by omega)
  have own_lt : ∀ k, (Value.slice Ao i co).ownBlock = some k → w.heap.size ≤ k ∧ k < wr.heap.size := I.row.lt
  have keepB : ∀ b, b < w2.heap.size → some b ≠ (Value.slice Ao i co).ownBlock → w3.heap[b]? = w2.heap[b]? := fun b hb hne => by
    rw [hg.block b (by simp; omega) hne]
    exact Below.heap_alloc w2 _ b hb
  have newne : ∀ b, b < w2.heap.size → some b ≠ (Value.slice Ao i co).ownBlock → some b ≠ (Value.slice An (i + 1) cn').ownBlock := fun b hb hne e => by
    rcases hnew with hn | hn
    · exact hne (e.trans hn)
    · rw [hn] at e
      injection e with e
      simp at e; omega
  have hsz := hg.size
  simp at hsz
  refine ⟨An, cn', w3, hrun, ?_, ?_, by simp [I.len], fun j e hj => ?_⟩
  · refine ⟨hg.os.trans (h2.os.trans I.old.os), hg.tape.trans (h2.tape.trans I.old.tape), hg.output.trans (h2.output.trans I.old.output), by omega, fun k hk => ?_⟩
    rw [keepB k (by omega) (fun e => by have := (own_lt k e.symm).1; omega), h2.block k (by omega), I.old.block k hk]
  · rw [rcells_append]; exact hown
  · by_cases c : j < i
    · rw [List.getElem?_append_left (by rw [I.len]; exact c)] at hj
      obtain ⟨r', e0, e1, e2, e3⟩ := I.val j e hj
      refine ⟨r', e0, e1, e2, e3.keep (fun b hb hl => ?_) (fun b hb hl => ⟨hb.1, newne b (by omega) hb.2⟩) (by omega)⟩
      rw [keepB b (by omega) hb.2, h2.block b hl]
    · have hj' : j = i := by
        have := (List.getElem?_eq_some_iff.1 hj).1
        rw [List.length_append, I.len] at this
        simp at this; omega
      subst hj'
      rw [List.getElem?_append_right (by rw [I.len]; exact Nat.le_refl _), I.len] at hj
      obtain rfl : (r.1, A', n, c') = e := by simpa using hj
      refine ⟨r, hr, rfl, hn, ?_⟩
      refine (ValsIn.of_own hk hrl).keep (fun b hb hl => ?_) (fun b hb hl => ?_) (by omega)
      · exact keepB b hl (fun e => by have := (own_lt b e.symm).2; omega)
      · exact ⟨by omega, newne b hl (fun e => by have := (own_lt b e.symm).2; omega)⟩
theorem OwI.rows {rs : List (Int × List Val)} {w wr : World} {n : Nat} {Ao : Option Addr} {co : Nat} {gs : List (Int × Option Addr × Nat × Nat)} (I : OwI rs w wr n Ao co gs) (hn : rs.length = n) : RowsAt wr Ao n rs :=
  ⟨hn, fun j r hj => by
    obtain ⟨e, he⟩ : ∃ e, gs[j]? = some e := ⟨_, List.getElem?_eq_getElem (by have := (List.getElem?_eq_some_iff.1 hj).1; rw [I.len]; omega)⟩
    obtain ⟨r', e0, e1, e2, e3⟩ := I.val j e he
    rw [hj] at e0
    injection e0 with e0
    subst e0
    obtain ⟨k0, k1⟩ := rcells_at he
    obtain ⟨g, eg, hg, -, c0, -⟩ := own_at I.row k0
    obtain ⟨g', eg', -, -, c1, -⟩ := own_at I.row k1
    rw [eg] at eg'
    injection eg' with eg'; injection eg' with eg'; subst eg'
    refine ⟨g, 0, e.2.1, e.2.2.1, e.2.2.2, eg, hg, ?_, ?_, e3.is, e2⟩
    · rw [Nat.zero_add, ← e1]; exact c0
    · rw [Nat.zero_add]; exact c1⟩

/-- what own leaves: the rows, in memory of its own -/
def OwnPost (rs : List (Int × List Val)) (n : Nat) (w : World) (e : Ending) (w' : World) : Prop := ∃ (A' : Option Addr) (c' : Nat), e = .returned (.slice A' n c') ∧ Hid (RowsAt w' A' n rs) ∧ Hid (Below w.heap.size w w')
set_option maxRecDepth 100000 in
set_option maxHeartbeats 8000000 in
theorem own12 (w : World) (A : Option Addr) (n c0 : Nat) (rs : List (Int × List Val)) (hr : RowsAt w A n rs) (hn : n ≤ 1000000) : Calls Try.prog 12 #[.slice A n c0] w (OwnPost rs n w) := by
  have HR := Lib.hid hr
  clear hr
  go_enter Try.func12, Try.ntmps12
  go_wp2_with fail
  go_loopg [3, 4] n (fun kx s3 s4 wr => ∃ (i : Nat) (Ao : Option Addr) (co : Nat), s3 = .slice Ao i co ∧ s4 = .int .i64 i ∧ kx + i = n ∧ Hid (∃ gs, OwI rs w wr i Ao co gs))
  case atStart => exact ⟨0, none, 0, rfl, rfl, rfl, Lib.hid ⟨[], OwI.zero rs w⟩⟩
  case round =>
    obtain ⟨i, Ao, co, rfl, rfl, hk, I⟩ := hrel
    by_cases hi : i < n
    · have hiz : (i : Int) < (n : Int) := by omega
      have hi0 : (0 : Int) ≤ (i : Int) := by omega
      have hi9 : (i : Int) < 1000001 := by omega
      obtain ⟨gs, hI⟩ := I.out
      obtain ⟨r, hr⟩ : ∃ r, rs[i]? = some r := ⟨_, List.getElem?_eq_getElem (by rw [HR.out.len]; exact hi)⟩
      obtain ⟨b, off, VA, vn, vc, rfl, hb, q0, q1, hv, hvn⟩ := (HR.out.below hI.old).at_ i r hr
      have CC := Lib.hid (twin25 wr.drew VA vn vc r.2 (hv.below (below_drew wr)) hvn)
      have II := Lib.hid hI
      have RR := Lib.hid hr
      have RL := Lib.hid hv.len
      clear hI hr hv I
      unfold TwinPost at CC
      go_upto_region 5 with fail
      go_region_law (first | (go_simp; go_at_call 25; refine CC.out.mono ?_; rintro e2 w2 ⟨A', c', rfl, h1, h2⟩; obtain ⟨An, cn', w3, hrun, hI3⟩ := II.out.step (by omega) RR.out (show Below wr.heap.size wr w2 from bt h2.out (below_drew wr)) hvn RL.out (show w2.ownsRow wr.heap.size 23 4 _ _ _ from h1.out); have HRUN := Lib.hid hrun; have NX := Lib.hid (show ∃ gs, OwI rs w w3 (i + 1) An cn' gs from ⟨_, hI3⟩); obtain ⟨q0', q1', hb'⟩ := (show w2.cell? ⟨b, off + i * 2, none⟩ = some (.int .i64 r.1) ∧ w2.cell? ⟨b, off + i * 2 + 1, none⟩ = some (.slice VA vn vc) ∧ b < w2.heap.size from ⟨((bt h2.out (below_drew wr)).cell (p := ⟨b, off + i * 2, none⟩) hb).trans q0, ((bt h2.out (below_drew wr)).cell (p := ⟨b, off + i * 2 + 1, none⟩) hb).trans q1, Nat.lt_of_lt_of_le hb (bt h2.out (below_drew wr)).size⟩); clear hrun hI3 h1 h2) | (refine step_append_runI rfl _ _ 44 44 rfl (.slice Ao i co) (.slice (some ⟨w2.heap.size, 0, none⟩) 1 1) (by simp [Act.eval]) (by simp [Act.eval]) HRUN.out ?_))
      all_goals
        go_wp2_with fail
        go_roundg (gk - 1)
        case measure => omega
        case rel => exact ⟨i + 1, An, cn', by first | rfl | (simp; done), by first | rfl | (simp; done), by omega, NX⟩
    · obtain rfl : n = i := by omega
      have hiz : ¬ (n : Int) < (n : Int) := by omega
      have EE := Lib.hid (show RowsAt wr Ao n rs by obtain ⟨gs, hI⟩ := I.out; exact hI.rows HR.out.len)
      have BB := Lib.hid (show Below w.heap.size w wr by obtain ⟨gs, hI⟩ := I.out; exact hI.old)
      clear I
      go_wp2_with fail
      go_ret
      exact ⟨Ao, co, rfl, EE, BB⟩

end Go.Proofs.Ytbcmmecilheicaa
