/- law 23's twin, own, ints. exec's part.args: the values, but nulls, of an aggregate's Arg. check.Aggregates, eval.Constant of expressions without aggregates, columns and labels; law21.sure. The names of the aggregates: found. exec's part.aggregate, of a sum. -/
import Derived.Test.YtbcmmecilheicaaGreatDoorCelA
import Derived.Deep.RegionLaw
import Derived.Test.YtbcmmecilheicaaGreatDoorGiveA
import Derived.Test.YtbcmmecilheicaaGreatDoorTruA
import Derived.Test.YtbcmmecilheicaaGreatDoorVal6

/- law 23's twin, own, ints. -/
namespace Go.Proofs.YtbcmmecilheicaaGreatDoor
open Go Go.RowKit

/-- the cells of a slice of values -/
theorem vals_src {W : World} {A : Option Addr} {n : Nat} {l : List Val} (h : ValsAt W A n l) : ∀ j u, (valCells l)[j]? = some u → ∃ a, A = some a ∧ W.cell? (a.add j) = some u := fun j u hj => by
 have hl := (List.getElem?_eq_some_iff.1 hj).1
 rw [valCells_len] at hl
 have hi : j / 4 < l.length := by omega
 obtain ⟨v, hv⟩ : ∃ v, l[j / 4]? = some v := ⟨_, List.getElem?_eq_getElem hi⟩
 obtain ⟨b, off, e, hb, c0, c1, c2, c3⟩ := h.at_ _ v hv
 obtain ⟨k0, k1, k2, k3⟩ := valCells_at hv
 refine ⟨_, e, ?_⟩
 have ea : ∀ x, (⟨b, off, none⟩ : Addr).add x = ⟨b, off + x, none⟩ := fun x => by unfold Addr.add; split <;> simp_all
 rw [ea]
 have e4 : j = j / 4 * 4 + j % 4 := by omega
 have hm : j % 4 < 4 := Nat.mod_lt _ (by omega)
 obtain ⟨q, hq⟩ : ∃ q, q = j / 4 := ⟨_, rfl⟩
 obtain ⟨r, hr⟩ : ∃ r, r = j % 4 := ⟨_, rfl⟩
 rw [← hq] at c0 c1 c2 c3 k0 k1 k2 k3 e4
 rw [← hr] at e4 hm
 match r, hm, e4 with
 | 0, _, e4 => rw [Nat.add_zero] at e4; rw [e4] at hj ⊢; rw [k0] at hj; injection hj with hj; rw [← hj]; exact c0
 | 1, _, e4 => rw [e4] at hj ⊢; rw [k1] at hj; injection hj with hj; rw [← hj]; exact c1
 | 2, _, e4 => rw [e4] at hj ⊢; rw [k2] at hj; injection hj with hj; rw [← hj]; exact c2
 | 3, _, e4 => rw [e4] at hj ⊢; rw [k3] at hj; injection hj with hj; rw [← hj]; exact c3

theorem app_vals {W : World} {A : Option Addr} {n c : Nat} {l : List Val} (h : ValsAt W A n l) (hn : n * 40 ≤ 140737488355328) :
  ∃ An cn W', (Builtin.append_ #[30, 30] 30 #[.slice none 0 0, .slice A n c]).run Tryz.prog W = .ok (.slice An n cn) W' ∧ W'.ownsRow W.heap.size 26 4 (.slice An n cn) n (valCells l) ∧ Below W.heap.size W W' := by
 have hl := h.len
 rcases Nat.eq_zero_or_pos n with h0 | h0
 ·subst h0
  obtain rfl : l = [] := List.eq_nil_of_length_eq_zero hl
  exact ⟨none, 0, W, app_zero tVals 30 W (Nat.le_refl _), World.ownsRow_nil _ _ _ _, Below.refl _ _⟩
 ·have hlen : (valCells l).length = n * 4 := by rw [valCells_len, hl]
  obtain ⟨u, hu⟩ : ∃ u, (valCells l)[0]? = some u := ⟨_, List.getElem?_eq_getElem (by omega)⟩
  obtain ⟨a, rfl, -⟩ := vals_src h 0 u hu
  obtain ⟨An, cn, W', hr, ho, hg, -⟩ := app_some tVals 30 (W := W) (B := W.heap.size) (Ao := none) (n := 0) (co := 0) (xs := []) (World.ownsRow_nil _ _ _ _) (Nat.le_refl _) a n c h0 (valCells l) hlen (fun j u hj => by
   obtain ⟨a', e, hc⟩ := vals_src h j u hj
   injection e with e
   rw [e]; exact hc) valCells_one (by unfold maxLen; omega) (by omega)
  simp only [Nat.zero_add, List.nil_append] at hr ho
  exact ⟨An, cn, W', hr, ho, ⟨hg.os, hg.tape, hg.output, hg.size, fun k hk => hg.block k hk (by simp [Value.ownBlock])⟩⟩

/-- what twin leaves -/
def TwinPost (l : List Val) (n : Nat) (w : World) (e : Ending) (w' : World) : Prop := ∃ (A' : Option Addr) (c' : Nat), e = .returned (.slice A' n c') ∧ Hid (w'.ownsRow w.heap.size 26 4 (.slice A' n c') n (valCells l)) ∧ Hid (Below w.heap.size w w')
set_option maxHeartbeats 2000000 in
theorem twin25 (w : World) (A : Option Addr) (n c : Nat) (l : List Val) (h : ValsAt w A n l) (hn : n * 40 ≤ 140737488355328) : Calls Tryz.prog 60 #[.slice A n c] w (TwinPost l n w) := by
 obtain ⟨An, cn, W', hr, ho, hb⟩ := app_vals (c := c) h hn
 have HR := Lib.hid hr
 have HO := Lib.hid ho
 have HB := Lib.hid hb
 clear hr ho hb h
 go_enter Tryz.func60, Tryz.ntmps60
 go_wp2_with (at_builtin; refine wpList_append_runI _ rfl _ _ 30 30 rfl (.slice none 0 0) (.slice A n c) rfl rfl HR.out ?_)
 go_ret
 exact ⟨An, cn, rfl, HO, HB⟩

def rcells (gs : List (Int × Option Addr × Nat × Nat)) : List Value := (gs.map fun e => [Value.int .i64 e.1, .slice e.2.1 e.2.2.1 e.2.2.2]).flatten
theorem rcells_len (gs : List (Int × Option Addr × Nat × Nat)) : (rcells gs).length = gs.length * 2 := by
 induction gs with
 | nil => rfl
 | cons p l ih => simp only [rcells, List.map_cons, List.flatten_cons, List.length_append, List.length_cons, List.length_nil] at ih ⊢; omega
theorem rcells_append (a b : List (Int × Option Addr × Nat × Nat)) : rcells (a ++ b) = rcells a ++ rcells b := by simp [rcells]
theorem rcells_one {gs : List (Int × Option Addr × Nat × Nat)} : ∀ u ∈ rcells gs, u.oneCell' = true := by
 intro u hu
 obtain ⟨c, hc, huc⟩ := List.mem_flatten.1 hu
 obtain ⟨p, hp, rfl⟩ := List.mem_map.1 hc
 simp only [List.mem_cons, List.not_mem_nil, or_false] at huc
 rcases huc with rfl | rfl <;> rfl
theorem rcells_at : ∀ {l : List (Int × Option Addr × Nat × Nat)} {i : Nat} {p : Int × Option Addr × Nat × Nat}, l[i]? = some p → (rcells l)[i * 2]? = some (.int .i64 p.1) ∧ (rcells l)[i * 2 + 1]? = some (.slice p.2.1 p.2.2.1 p.2.2.2)
 | [], _, _, h => by simp at h
 | q :: l, 0, p, h => by
  obtain rfl : q = p := by simpa using h
  exact ⟨rfl, rfl⟩
 | q :: l, i + 1, p, h => by
  have ih := rcells_at (l := l) (i := i) (p := p) (by simpa using h)
  have e : rcells (q :: l) = [Value.int .i64 q.1, .slice q.2.1 q.2.2.1 q.2.2.2] ++ rcells l := by simp [rcells]
  rw [e, List.getElem?_append_right (by simp; omega), List.getElem?_append_right (by simp; omega)]
  simp only [List.length_cons, List.length_nil]
  rw [show (i + 1) * 2 - (0 + 1 + 1) = i * 2 by omega, show (i + 1) * 2 + 1 - (0 + 1 + 1) = i * 2 + 1 by omega]
  exact ih

/-- rows of one's own, under way -/
structure OwI (rs : List (Int × List Val)) (w wr : World) (i : Nat) (Ao : Option Addr) (co : Nat) (gs : List (Int × Option Addr × Nat × Nat)) : Prop where
 old : Below w.heap.size w wr
 row : wr.ownsRow w.heap.size 32 2 (.slice Ao i co) i (rcells gs)
 len : gs.length = i
 val : ∀ (j : Nat) (e : Int × Option Addr × Nat × Nat), gs[j]? = some e → ∃ r, rs[j]? = some r ∧ e.1 = r.1 ∧ e.2.2.1 * 40 ≤ 140737488355328 ∧ ValsIn wr (fun b => w.heap.size ≤ b ∧ some b ≠ (Value.slice Ao i co).ownBlock) e.2.1 e.2.2.1 r.2
theorem OwI.zero (rs : List (Int × List Val)) (w : World) : OwI rs w w 0 none 0 [] := ⟨Below.refl _ _, World.ownsRow_nil _ _ _ _, rfl, fun j e h => by simp at h⟩
theorem OwI.step {rs : List (Int × List Val)} {w wr : World} {i : Nat} {Ao : Option Addr} {co : Nat} {gs : List (Int × Option Addr × Nat × Nat)} (I : OwI rs w wr i Ao co gs) (hi : i + 1 ≤ 1000001) {r : Int × List Val} (hr : rs[i]? = some r) {w2 : World} (h2 : Below wr.heap.size wr w2) {A' : Option Addr} {n c' : Nat} (hn : n * 40 ≤ 140737488355328) (hrl : r.2.length = n) (hk : w2.ownsRow wr.heap.size 26 4 (.slice A' n c') n (valCells r.2)) :
  ∃ An cn' w3, (Builtin.append_ #[60, 60] 60 #[.slice Ao i co, .slice (some ⟨w2.heap.size, 0, none⟩) 1 1]).run Tryz.prog (w2.alloc (.cells #[.int .i64 r.1, .slice A' n c'] 32)) = .ok (.slice An (i + 1) cn') w3 ∧ OwI rs w w3 (i + 1) An cn' (gs ++ [(r.1, A', n, c')]) := by
 have ow3 := own_below (own_below I.row h2) (below_alloc w2 (.cells #[.int .i64 r.1, .slice A' n c'] 32))
 have hs2 := h2.size
 have hs0 := I.old.size
 obtain ⟨An, cn', w3, hrun, hown, hg, hnew⟩ := app_some tRows 60 ow3 (by simp; omega) ⟨w2.heap.size, 0, none⟩ 1 1 (by omega) (rcells [(r.1, A', n, c')]) (rcells_len _) (fun j u hj => by
  rw [add_lit0, (Blk.new w2 32 _).cell j]
  simpa [rcells] using hj) rcells_one (by unfold maxLen; omega) (by omega)
 have own_lt : ∀ k, (Value.slice Ao i co).ownBlock = some k → w.heap.size ≤ k ∧ k < wr.heap.size := I.row.lt
 have keepB : ∀ b, b < w2.heap.size → some b ≠ (Value.slice Ao i co).ownBlock → w3.heap[b]? = w2.heap[b]? := fun b hb hne => by
  rw [hg.block b (by simp; omega) hne]
  exact Below.heap_alloc w2 _ b hb
 have newne : ∀ b, b < w2.heap.size → some b ≠ (Value.slice Ao i co).ownBlock → some b ≠ (Value.slice An (i + 1) cn').ownBlock := fun b hb hne e => by
  rcases hnew with hn | hn
  ·exact hne (e.trans hn)
  ·rw [hn] at e
   injection e with e
   simp at e; omega
 have hsz := hg.size
 simp at hsz
 refine ⟨An, cn', w3, hrun, ?_, ?_, by simp [I.len], fun j e hj => ?_⟩
 ·refine ⟨hg.os.trans (h2.os.trans I.old.os), hg.tape.trans (h2.tape.trans I.old.tape), hg.output.trans (h2.output.trans I.old.output), by omega, fun k hk => ?_⟩
  rw [keepB k (by omega) (fun e => by have := (own_lt k e.symm).1; omega), h2.block k (by omega), I.old.block k hk]
 ·rw [rcells_append]; exact hown
 ·by_cases c : j < i
  ·rw [List.getElem?_append_left (by rw [I.len]; exact c)] at hj
   obtain ⟨r', e0, e1, e2, e3⟩ := I.val j e hj
   refine ⟨r', e0, e1, e2, e3.keep (fun b hb hl => ?_) (fun b hb hl => ⟨hb.1, newne b (by omega) hb.2⟩) (by omega)⟩
   rw [keepB b (by omega) hb.2, h2.block b hl]
  ·have hj' : j = i := by
    have := (List.getElem?_eq_some_iff.1 hj).1
    rw [List.length_append, I.len] at this
    simp at this; omega
   subst hj'
   rw [List.getElem?_append_right (by rw [I.len]; exact Nat.le_refl _), I.len] at hj
   obtain rfl : (r.1, A', n, c') = e := by simpa using hj
   refine ⟨r, hr, rfl, hn, ?_⟩
   refine (ValsIn.of_own hk hrl).keep (fun b hb hl => ?_) (fun b hb hl => ?_) (by omega)
   ·exact keepB b hl (fun e => by have := (own_lt b e.symm).2; omega)
   ·exact ⟨by omega, newne b hl (fun e => by have := (own_lt b e.symm).2; omega)⟩
theorem OwI.rows {rs : List (Int × List Val)} {w wr : World} {n : Nat} {Ao : Option Addr} {co : Nat} {gs : List (Int × Option Addr × Nat × Nat)} (I : OwI rs w wr n Ao co gs) (hn : rs.length = n) : RowsAt wr Ao n rs :=
 ⟨hn, fun j r hj => by
  obtain ⟨e, he⟩ : ∃ e, gs[j]? = some e := ⟨_, List.getElem?_eq_getElem (by have := (List.getElem?_eq_some_iff.1 hj).1; rw [I.len]; omega)⟩
  obtain ⟨r', e0, e1, e2, e3⟩ := I.val j e he
  rw [hj] at e0
  injection e0 with e0
  subst e0
  obtain ⟨k0, k1⟩ := rcells_at he
  obtain ⟨g, eg, hg, -, c0, -⟩ := own_at I.row k0
  obtain ⟨g', eg', -, -, c1, -⟩ := own_at I.row k1
  rw [eg] at eg'
  injection eg' with eg'; injection eg' with eg'; subst eg'
  refine ⟨g, 0, e.2.1, e.2.2.1, e.2.2.2, eg, hg, ?_, ?_, e3.is, e2⟩
  ·rw [Nat.zero_add, ← e1]; exact c0
  ·rw [Nat.zero_add]; exact c1⟩

/-- what own leaves: the rows, in memory of its own -/
def OwnPost (rs : List (Int × List Val)) (n : Nat) (w : World) (e : Ending) (w' : World) : Prop := ∃ (A' : Option Addr) (c' : Nat), e = .returned (.slice A' n c') ∧ Hid (RowsAt w' A' n rs) ∧ Hid (Below w.heap.size w w')
set_option maxRecDepth 100000 in
set_option maxHeartbeats 8000000 in
theorem own12 (w : World) (A : Option Addr) (n c0 : Nat) (rs : List (Int × List Val)) (hr : RowsAt w A n rs) (hn : n ≤ 1000000) : Calls Tryz.prog 20 #[.slice A n c0] w (OwnPost rs n w) := by
 have HR := Lib.hid hr
 clear hr
 go_enter Tryz.func20, Tryz.ntmps20
 go_wp2_with fail
 go_loopg [3, 4] n (fun kx s3 s4 wr => ∃ (i : Nat) (Ao : Option Addr) (co : Nat), s3 = .slice Ao i co ∧ s4 = .int .i64 i ∧ kx + i = n ∧ Hid (∃ gs, OwI rs w wr i Ao co gs))
 case atStart => exact ⟨0, none, 0, rfl, rfl, rfl, Lib.hid ⟨[], OwI.zero rs w⟩⟩
 case round =>
  obtain ⟨i, Ao, co, rfl, rfl, hk, I⟩ := hrel
  by_cases hi : i < n
  ·have hiz : (i : Int) < (n : Int) := by omega
   have hi0 : (0 : Int) ≤ (i : Int) := by omega
   have hi9 : (i : Int) < 1000001 := by omega
   obtain ⟨gs, hI⟩ := I.out
   obtain ⟨r, hr⟩ : ∃ r, rs[i]? = some r := ⟨_, List.getElem?_eq_getElem (by rw [HR.out.len]; exact hi)⟩
   obtain ⟨b, off, VA, vn, vc, rfl, hb, q0, q1, hv, hvn⟩ := (HR.out.below hI.old).at_ i r hr
   have CC := Lib.hid (twin25 wr.drew VA vn vc r.2 (hv.below (below_drew wr)) hvn)
   have II := Lib.hid hI
   have RR := Lib.hid hr
   have RL := Lib.hid hv.len
   clear hI hr hv I
   unfold TwinPost at CC
   go_upto_region 5 with fail
   go_region_law (first | (go_simp; go_at_call 60; refine CC.out.mono ?_; rintro e2 w2 ⟨A', c', rfl, h1, h2⟩; obtain ⟨An, cn', w3, hrun, hI3⟩ := II.out.step (by omega) RR.out (show Below wr.heap.size wr w2 from bt h2.out (below_drew wr)) hvn RL.out (show w2.ownsRow wr.heap.size 26 4 _ _ _ from h1.out); have HRUN := Lib.hid hrun; have NX := Lib.hid (show ∃ gs, OwI rs w w3 (i + 1) An cn' gs from ⟨_, hI3⟩); obtain ⟨q0', q1', hb'⟩ := (show w2.cell? ⟨b, off + i * 2, none⟩ = some (.int .i64 r.1) ∧ w2.cell? ⟨b, off + i * 2 + 1, none⟩ = some (.slice VA vn vc) ∧ b < w2.heap.size from ⟨((bt h2.out (below_drew wr)).cell (p := ⟨b, off + i * 2, none⟩) hb).trans q0, ((bt h2.out (below_drew wr)).cell (p := ⟨b, off + i * 2 + 1, none⟩) hb).trans q1, Nat.lt_of_lt_of_le hb (bt h2.out (below_drew wr)).size⟩); clear hrun hI3 h1 h2) | (refine step_append_runI rfl _ _ 60 60 rfl (.slice Ao i co) (.slice (some ⟨w2.heap.size, 0, none⟩) 1 1) (by simp [Act.eval]) (by simp [Act.eval]) HRUN.out ?_))
   all_goals
    go_wp2_with fail
    go_roundg (gk - 1)
    case measure => omega
    case rel => exact ⟨i + 1, An, cn', by first | rfl | (simp; done), by first | rfl | (simp; done), by omega, NX⟩
  ·obtain rfl : n = i := by omega
   have hiz : ¬ (n : Int) < (n : Int) := by omega
   have EE := Lib.hid (show RowsAt wr Ao n rs by obtain ⟨gs, hI⟩ := I.out; exact hI.rows HR.out.len)
   have BB := Lib.hid (show Below w.heap.size w wr by obtain ⟨gs, hI⟩ := I.out; exact hI.old)
   clear I
   go_wp2_with fail
   go_ret
   exact ⟨Ao, co, rfl, EE, BB⟩

end Go.Proofs.YtbcmmecilheicaaGreatDoor

/- exec's part.args: the values, but nulls, of an aggregate's Arg. -/
namespace Go.Proofs.YtbcmmecilheicaaGreatDoor
open Go Go.RowKit

/-- the values, but nulls, of an expression over rows -/
noncomputable def argsP (lb : List ByteArray) (x : Ex) : List (Int × List Val) → List Val × Option Int
 | [] => ([], none)
 | r :: rs => match evalP ⟨r.1, r.2, lb⟩ x with
  | (_, some er) => ([], some er)
  | (v, none) => match argsP lb x rs with
   | (_, some er) => ([], some er)
   | (l, none) => (if v.kind ≠ 0 then v :: l else l, none)
/-- so far -/
def SofarA (lb : List ByteArray) (x : Ex) (rs : List (Int × List Val)) (i : Nat) (vs : List Val) : Prop :=
 vs.length ≤ i ∧ argsP lb x rs = match argsP lb x (rs.drop i) with
  | (_, some er) => ([], some er)
  | (l, none) => (vs ++ l, none)
theorem argsP_err (lb : List ByteArray) (x : Ex) : ∀ (rs : List (Int × List Val)) (l : List Val) (er : Int), argsP lb x rs = (l, some er) → l = []
 | [], l, er, h => by rw [argsP] at h; cases h
 | r :: rs, l, er, h => by
  rw [argsP] at h
  rcases hx : evalP ⟨r.1, r.2, lb⟩ x with ⟨v, e1⟩
  rw [hx] at h
  cases e1 with
  | some e1 => injection h with h1 h2; exact h1.symm
  | none =>
   rcases hl : argsP lb x rs with ⟨l2, e2⟩
   rw [hl] at h
   cases e2 with
   | some e2 => injection h with h1 h2; exact h1.symm
   | none => injection h with h1 h2; cases h2
theorem SofarA.zero (lb : List ByteArray) (x : Ex) (rs : List (Int × List Val)) : SofarA lb x rs 0 [] := by
 refine ⟨Nat.le_refl _, ?_⟩
 rw [List.drop_zero]
 rcases h : argsP lb x rs with ⟨l, er⟩
 cases er with
 | none => rfl
 | some er => rw [argsP_err lb x rs l er h]
theorem SofarA.err {lb : List ByteArray} {x : Ex} {rs : List (Int × List Val)} {i : Nat} {vs : List Val} (h : SofarA lb x rs i vs) {r : Int × List Val} (hr : rs[i]? = some r) {v : Val} {er : Int} (he : evalP ⟨r.1, r.2, lb⟩ x = (v, some er)) : argsP lb x rs = ([], some er) := by
 have hd : rs.drop i = r :: rs.drop (i + 1) := by
  have hlt := (List.getElem?_eq_some_iff.1 hr).1
  rw [List.drop_eq_getElem_cons hlt, (List.getElem?_eq_some_iff.1 hr).2]
 rw [h.2, hd, argsP, he]
theorem SofarA.ok {lb : List ByteArray} {x : Ex} {rs : List (Int × List Val)} {i : Nat} {vs : List Val} (h : SofarA lb x rs i vs) {r : Int × List Val} (hr : rs[i]? = some r) {v : Val} (he : evalP ⟨r.1, r.2, lb⟩ x = (v, none)) : SofarA lb x rs (i + 1) (if v.kind ≠ 0 then vs ++ [v] else vs) := by
 have hd : rs.drop i = r :: rs.drop (i + 1) := by
  have hlt := (List.getElem?_eq_some_iff.1 hr).1
  rw [List.drop_eq_getElem_cons hlt, (List.getElem?_eq_some_iff.1 hr).2]
 have hl0 := h.1
 refine ⟨by by_cases hk : v.kind = 0 <;> simp [hk] <;> omega, ?_⟩
 rw [h.2, hd, argsP, he]
 rcases hl : argsP lb x (rs.drop (i + 1)) with ⟨l, er⟩
 by_cases hk : v.kind = 0 <;> cases er <;> simp [hk]
theorem SofarA.end_ {lb : List ByteArray} {x : Ex} {rs : List (Int × List Val)} {vs : List Val} (h : SofarA lb x rs rs.length vs) : argsP lb x rs = (vs, none) := by
 rw [h.2, List.drop_length, argsP]
 simp

/-- no text of the rows is longer than it may be -/
def RowsTx (rs : List (Int × List Val)) : Prop := ∀ r ∈ rs, ∀ v ∈ r.2, v.text.size ≤ TB
/-- what args leaves -/
def ArgsPost (lb : List ByteArray) (x : Ex) (rs : List (Int × List Val)) (w : World) (e : Ending) (w' : World) : Prop := ∃ (A' : Option Addr) (k c' : Nat), e = .returned (.tuple #[.slice A' k c', errV (argsP lb x rs).2]) ∧ k ≤ c' ∧ k ≤ rs.length ∧ Hid (ValsAt w' A' k (argsP lb x rs).1) ∧ Hid (Below w.heap.size w w')

set_option maxRecDepth 100000 in
set_option maxHeartbeats 8000000 in
theorem args89 (w : World) (RA : Option Addr) (rn rc : Nat) (rs : List (Int × List Val)) (hr : RowsAt w RA rn rs) (hn : rn ≤ 1000000) (htx : RowsTx rs) (v1 v2 : Value) (h1 : v1.oneCell' = true) (h2 : v2.oneCell' = true) (x : Ex) (A : Option Addr) (n c : Nat) (hx : ExIs w x A n c) (lb : List ByteArray) (LA : Option Addr) (ln lc : Nat) (hlb : StrsAt w LA ln lb) (hlt : ∀ z ∈ lb, z.size ≤ TB) (i1 : Option Addr) (n1 c1 : Nat) (e1 : v1 = .slice i1 n1 c1) (i2 : Option Addr) (n2 c2 : Nat) (e2 : v2 = .slice i2 n2 c2) :
  Calls Tryz.prog 176 #[.agg #[.slice RA rn rc, v1, v2], .agg #[.string x.op, .int .i64 x.kind, .int .i64 x.col, .int .i64 x.val.kind, .int .i64 x.val.int, .string x.val.text, .bool x.val.bool, .slice A n c], .slice LA ln lc] w (ArgsPost lb x rs w) := by
 subst e1 e2
 clear h1 h2
 have HR := Lib.hid hr
 have HX := Lib.hid hx
 have HT := Lib.hid htx
 have HLB := Lib.hid hlb
 have HLT := Lib.hid hlt
 clear hr hx htx hlb hlt
 go_enter Tryz.func176, Tryz.ntmps176
 go_wp2_with fail
 obtain ⟨w1, hw1⟩ : ∃ z, z = (w.alloc (.cells #[.slice RA rn rc, .slice i1 n1 c1, .slice i2 n2 c2] 147)).alloc (.cells #[.string x.op, .int .i64 x.kind, .int .i64 x.col, .int .i64 x.val.kind, .int .i64 x.val.int, .string x.val.text, .bool x.val.bool, .slice A n c] 51) := ⟨_, rfl⟩
 have Z1 := Lib.hid (show Blk w1 (w.heap.size + 1) 51 #[.string x.op, .int .i64 x.kind, .int .i64 x.col, .int .i64 x.val.kind, .int .i64 x.val.int, .string x.val.text, .bool x.val.bool, .slice A n c] by rw [hw1]; exact blk_new' (w := w.alloc _) rfl (by simp))
 have B1 := Lib.hid (show Below w.heap.size w w1 by rw [hw1]; exact bt (below_alloc _ _) (below_alloc _ _))
 rw [← hw1]
 clear hw1
 go_loopg [8, 16] rn (fun kx s8 s16 wr => ∃ (i m : Nat) (vs : List Val) (Ao : Option Addr) (co : Nat), s8 = .slice Ao m co ∧ s16 = .int .i64 i ∧ kx + i = rn ∧ m ≤ i ∧ Hid (Below w1.heap.size w1 wr ∧ wr.ownsRow w1.heap.size 26 4 (.slice Ao m co) m (valCells vs) ∧ vs.length = m ∧ SofarA lb x rs i vs))
 case atStart => exact ⟨0, 0, [], none, 0, rfl, rfl, rfl, Nat.le_refl _, Lib.hid ⟨Below.refl _ _, World.ownsRow_nil _ _ _ _, rfl, SofarA.zero lb x rs⟩⟩
 case round =>
  obtain ⟨i, m, vs, Ao, co, rfl, rfl, hk, hm, I⟩ := hrel
  by_cases hi : i < rn
  ·obtain ⟨r, hr⟩ : ∃ r, rs[i]? = some r := ⟨_, List.getElem?_eq_getElem (by rw [HR.out.len]; exact hi)⟩
   have bwr : Below w.heap.size w wr := bt I.out.1 B1.out
   obtain ⟨b, off, VA, vn, vc, rfl, hb, q0, q1, hv, hvn⟩ := (HR.out.below bwr).at_ i r hr
   have hiz : (i : Int) < (rn : Int) := by omega
   have hi0 : (0 : Int) ≤ (i : Int) := by omega
   have hi9 : (i : Int) < 1000001 := by omega
   have bx : Below wr.heap.size wr (wr.alloc (.cells #[.int .i64 r.1, .slice VA vn vc] 32)) := below_alloc _ _
   have hEn : EnvAt wr ⟨r.1, r.2, lb⟩ VA vn LA ln := ⟨hv, HLB.out.below bwr, fun v hv => HT.out r (List.mem_of_getElem? hr) v hv, HLT.out⟩
   have call0 := of9 ⟨r.1, r.2, lb⟩ VA vn vc LA ln lc (hEn.below bx) (HX.out.bel (bt bx bwr))
   obtain ⟨⟨⟨rk, ri, rs', rb⟩, re⟩, hre⟩ : ∃ q, q = evalP ⟨r.1, r.2, lb⟩ x := ⟨_, rfl⟩
   rw [← hre] at call0
   have CC := Lib.hid call0
   have HRE := Lib.hid hre.symm
   have RX := Lib.hid hr
   have II := Lib.hid I.out
   have BR := Lib.hid bwr
   have zs := Z1.out.below I.out.1
   have hsl := zs.lt
   have hsl1 : w.heap.size + 1 < wr.heap.size + 1 := by omega
   have s0 := zs.cell 0
   have s1 := zs.cell 1
   have s2 := zs.cell 2
   have s3 := zs.cell 3
   have s4 := zs.cell 4
   have s5 := zs.cell 5
   have s6 := zs.cell 6
   have s7 := zs.cell 7
   clear hr bwr bx hEn call0 hre zs I hv
   go_wp2_with fail
   refine CC.out.mono ?_
   clear CC q0 q1 s0 s1 s2 s3 s4 s5 s6 s7
   rintro e w2 ⟨rfl, h2⟩
   have H2 := Lib.hid (show Below wr.heap.size wr w2 from h2.out.from1)
   clear h2
   simp only [resV, Val.cells]
   cases re with
   | some er =>
    simp only [errV]
    have EE := Lib.hid (II.out.2.2.2.err RX.out HRE.out)
    have BB := Lib.hid (show Below w.heap.size w w2 from bt H2.out BR.out)
    go_wp2_with fail
    go_ret2
    exact ⟨none, 0, 0, by rw [EE.out]; rfl, Nat.le_refl _, Nat.zero_le _, Lib.hid (by rw [EE.out]; exact ValsAt.nil _ _), Lib.hid (bt (below_alloc _ _) BB.out)⟩
   | none =>
    simp only [errV]
    have B12 : Below w1.heap.size w1 w2 := bt H2.out II.out.1
    by_cases hkd : rk = 0
    ·subst hkd
     have SS := Lib.hid (show SofarA lb x rs (i + 1) vs from II.out.2.2.2.ok RX.out HRE.out)
     have NX := Lib.hid (show Below w1.heap.size w1 (w2.alloc (.cells #[.int .i64 0, .int .i64 ri, .string rs', .bool rb] 26)) ∧ (w2.alloc (.cells #[.int .i64 0, .int .i64 ri, .string rs', .bool rb] 26)).ownsRow w1.heap.size 26 4 (.slice Ao m co) m (valCells vs) ∧ vs.length = m ∧ SofarA lb x rs (i + 1) vs from
      ⟨bt (below_alloc _ _) B12, own_below (own_below II.out.2.1 H2.out) (below_alloc w2 _), II.out.2.2.1, SS.out⟩)
     clear B12
     go_wp2_with fail
     go_roundg (gk - 1)
     case measure => omega
     case rel => exact ⟨i + 1, m, vs, Ao, co, rfl, by first | rfl | (simp; done), by omega, by omega, NX⟩
    ·have k1 : (rk != 0) = true := by simpa using hkd
     have k2 : (rk == 0) = false := by simpa using hkd
     have SS := Lib.hid (show SofarA lb x rs (i + 1) (vs ++ [⟨rk, ri, rs', rb⟩]) by
      have h := II.out.2.2.2.ok RX.out HRE.out
      rw [if_pos hkd] at h
      exact h)
     have ow2 := own_below II.out.2.1 (H2.out.trans ((below_alloc w2 (.cells #[.int .i64 rk, .int .i64 ri, .string rs', .bool rb] 26)).mono H2.out.size))
     have ow3 := own_below ow2 (below_alloc _ (.cells #[.int .i64 rk, .int .i64 ri, .string rs', .bool rb] 26))
     obtain ⟨v', w3, hr, hown, hb3⟩ := app_val ow3 (by unfold TB; omega) (by have := B12.size; simp; omega) ⟨rk, ri, rs', rb⟩ (w2.heap.size + 1) (blk_new' (w := w2.alloc _) rfl (by simp))
     obtain ⟨An, cn, hvn⟩ := own_slice hown
     subst hvn
     have NX := Lib.hid (show Below w1.heap.size w1 w3 ∧ w3.ownsRow w1.heap.size 26 4 (.slice An (m + 1) cn) (m + 1) (valCells (vs ++ [⟨rk, ri, rs', rb⟩])) ∧ (vs ++ [(⟨rk, ri, rs', rb⟩ : Val)]).length = m + 1 ∧ SofarA lb x rs (i + 1) (vs ++ [⟨rk, ri, rs', rb⟩]) from
      ⟨(bt (below_alloc _ _) (bt (below_alloc _ _) B12)).trans hb3, hown, by rw [List.length_append, II.out.2.2.1]; rfl, SS.out⟩)
     have HRUN := Lib.hid hr
     clear B12 ow2 ow3 hown hb3 hr hkd
     go_wp2_with (at_builtin; refine wpList_append_runI _ rfl _ _ 30 30 rfl (.slice Ao m co) (.slice (some ⟨w2.heap.size + 1, 0, none⟩) 1 1) rfl rfl HRUN.out ?_)
     go_roundg (gk - 1)
     case measure => omega
     case rel => exact ⟨i + 1, m + 1, _, An, cn, by first | rfl | (simp; done), by first | rfl | (simp; done), by omega, by omega, NX⟩
  ·obtain rfl : rn = i := by omega
   have hiz : ¬ (rn : Int) < (rn : Int) := by omega
   obtain ⟨A', c', hv, hvals⟩ := vals_of_own I.out.2.1 I.out.2.2.1
   injection hv with hv1 hv2 hv3
   subst hv1 hv3
   have hcap := (own_cap I.out.2.1).2
   have EE := Lib.hid (show argsP lb x rs = (vs, none) from by
    have h := I.out.2.2.2
    have hl := HR.out.len
    rw [← hl] at h
    exact h.end_)
   have VV := Lib.hid hvals
   have HRL := HR.out.len
   have BB := Lib.hid (bt I.out.1 B1.out)
   clear hvals I
   go_wp2_with fail
   go_ret2
   exact ⟨_, m, _, by rw [EE.out]; rfl, hcap, by omega, Lib.hid (by rw [EE.out]; exact VV.out), BB⟩

end Go.Proofs.YtbcmmecilheicaaGreatDoor

/- check.Aggregates, eval.Constant of expressions without aggregates, columns and labels; law21.sure. -/
namespace Go.Proofs.YtbcmmecilheicaaGreatDoor
open Go Go.RowKit

/-- no aggregate lies in it -/
def AggNo (x : Ex) (A : Option Addr) (n c : Nat) (W : World) : Prop := Calls Tryz.prog 78 #[exAgg x A n c] W fun e w' => e = .returned (.bool false) ∧ Hid (Below W.heap.size W w')

end Go.Proofs.YtbcmmecilheicaaGreatDoor

/- The names of the aggregates: found. -/
namespace Go.Proofs.YtbcmmecilheicaaGreatDoor
open Go Go.RowKit

set_option maxRecDepth 20000 in
set_option maxHeartbeats 2000000 in
/-- slices.Index, of a text that is there -/
theorem idx84y (w : World) (A : Option Addr) (n c : Nat) (l : List ByteArray) (h : StrsAt w A n l) (hn : n ≤ 1000000) (z : ByteArray) (k : Nat) (hkn : k < n) (hz : ∀ j y, l[j]? = some y → j < k → (z.toList == y.toList) = false) (hy : ∀ y, l[k]? = some y → (z.toList == y.toList) = true) :
  Calls Tryz.prog 170 #[.slice A n c, .string z] w fun e w' => e = .returned (.int .i64 k) ∧ w = w' := by
 have H := Lib.hid h
 have HZ := Lib.hid hz
 have HY := Lib.hid hy
 clear h hz hy
 go_enter Tryz.func170, Tryz.ntmps170
 go_wp2
 go_loopg [8] n (fun kx s8 wr => ∃ j : Nat, s8 = .int .i64 j ∧ kx + j = n ∧ j ≤ k ∧ w = wr)
 case atStart => exact ⟨0, rfl, rfl, Nat.zero_le _, rfl⟩
 case round =>
  obtain ⟨j, rfl, hk, hjk, rfl⟩ := hrel
  have hj : j < n := by omega
  obtain ⟨y, hy⟩ : ∃ y, l[j]? = some y := ⟨_, List.getElem?_eq_getElem (by rw [H.out.len]; exact hj)⟩
  obtain ⟨b, off, rfl, hb, hc⟩ := H.out.at_ j y hy
  have hjz : (j : Int) < (n : Int) := by omega
  have hj0 : (0 : Int) ≤ (j : Int) := by omega
  have hj1 : (j : Int) < 1000001 := by omega
  by_cases hjk2 : j < k
  ·have hq := HZ.out j y hy hjk2
   clear hy hb
   go_wp2
   go_roundg (gk - 1)
   case measure => omega
   case rel => exact ⟨j + 1, by first | rfl | (simp; done), by omega, by omega, rfl⟩
  ·obtain rfl : j = k := by omega
   have hq := HY.out y hy
   clear hy hb
   go_wp2
   go_ret
   exact ⟨rfl, rfl⟩
/-- is a text there? -/
def isIn (z : ByteArray) (l : List ByteArray) : Bool := l.any fun y => z.toList == y.toList
theorem isIn_first {z : ByteArray} : ∀ {l : List ByteArray}, isIn z l = true → ∃ k, k < l.length ∧ (∀ j y, l[j]? = some y → j < k → (z.toList == y.toList) = false) ∧ ∀ y, l[k]? = some y → (z.toList == y.toList) = true
 | [], h => by simp [isIn] at h
 | x :: l, h => by
  cases hx : z.toList == x.toList with
  | true => exact ⟨0, by simp, fun j y _ hj => absurd hj (Nat.not_lt_zero _), fun y hy => by
   have e : x = y := by simpa using hy
   rw [← e]; exact hx⟩
  | false =>
   have h' : isIn z l = true := by
    unfold isIn at h ⊢
    rw [List.any_cons, hx, Bool.false_or] at h
    exact h
   obtain ⟨k, h1, h2, h3⟩ := isIn_first h'
   refine ⟨k + 1, by simp; omega, fun j y hj hjk => ?_, fun y hy => h3 y (by simpa using hy)⟩
   match j, hj, hjk with
   | 0, hj, _ => obtain rfl : x = y := by simpa using hj
                 exact hx
   | j + 1, hj, hjk => exact h2 j y (by simpa using hj) (by omega)
theorem isIn_none {z : ByteArray} {l : List ByteArray} (h : isIn z l = false) : ∀ y ∈ l, (z.toList == y.toList) = false := fun y hy => by
 cases hx : z.toList == y.toList with
 | false => rfl
 | true =>
  have : isIn z l = true := List.any_eq_true.2 ⟨y, hy, hx⟩
  rw [h] at this
  cases this
set_option maxHeartbeats 2000000 in
theorem contains68g (w : World) (A : Option Addr) (n c : Nat) (l : List ByteArray) (h : StrsAt w A n l) (hn : n ≤ 1000000) (z : ByteArray) :
  Calls Tryz.prog 147 #[.slice A n c, .string z] w fun e w' => e = .returned (.bool (isIn z l)) ∧ w = w' := by
 cases hi : isIn z l with
 | false => exact contains68 w A n c l h hn z (isIn_none hi)
 | true =>
  obtain ⟨k, h1, h2, h3⟩ := isIn_first hi
  have hkn : k < n := by rw [← h.len]; exact h1
  have HC := Lib.hid (idx84y w A n c l h hn z k hkn h2 h3)
  have hk0 : (0 : Int) ≤ (k : Int) := by omega
  clear h h1 h2 h3 hi
  go_enter Tryz.func147, Tryz.ntmps147
  go_wp2_with (go_at_call 170; refine HC.out.mono ?_; rintro e w1 ⟨rfl, rfl⟩)
  go_ret
  exact ⟨rfl, rfl⟩
theorem aggs_at {w : World} {s : Nat} (zb : Blk w s 9 #[.string ⟨#[114, 111, 119, 115]⟩, .string ⟨#[99, 111, 117, 110, 116]⟩, .string ⟨#[115, 117, 109]⟩, .string ⟨#[109, 105, 110]⟩, .string ⟨#[109, 97, 120]⟩]) : StrsAt w (some ⟨s, 0, none⟩) 5 aggs := ⟨rfl, fun j y hj => by
  match j, hj with
  | 0, hj => obtain rfl : _ = y := Option.some.inj hj; exact ⟨_, _, rfl, zb.lt, zb.cell 0⟩
  | 1, hj => obtain rfl : _ = y := Option.some.inj hj; exact ⟨_, _, rfl, zb.lt, zb.cell 1⟩
  | 2, hj => obtain rfl : _ = y := Option.some.inj hj; exact ⟨_, _, rfl, zb.lt, zb.cell 2⟩
  | 3, hj => obtain rfl : _ = y := Option.some.inj hj; exact ⟨_, _, rfl, zb.lt, zb.cell 3⟩
  | 4, hj => obtain rfl : _ = y := Option.some.inj hj; exact ⟨_, _, rfl, zb.lt, zb.cell 4⟩
  | j + 5, hj => simp [aggs] at hj⟩
set_option maxHeartbeats 2000000 in
theorem agg47g (w : World) (z : ByteArray) : Calls Tryz.prog 106 #[.string z] w fun e w' => e = .returned (.bool (isIn z aggs)) ∧ Hid (Below w.heap.size w w') := by
 have HC := Lib.hid (contains68g (w.alloc (.cells #[.string ⟨#[114, 111, 119, 115]⟩, .string ⟨#[99, 111, 117, 110, 116]⟩, .string ⟨#[115, 117, 109]⟩, .string ⟨#[109, 105, 110]⟩, .string ⟨#[109, 97, 120]⟩] 9)) (some ⟨w.heap.size, 0, none⟩) 5 5 aggs (aggs_at (Blk.new w 9 _)) (by omega) z)
 go_enter Tryz.func106, Tryz.ntmps106
 go_wp2_with (go_at_call 147; refine HC.out.mono ?_; rintro e w1 ⟨rfl, rfl⟩)
 go_ret
 exact ⟨rfl, Lib.hid (below_alloc _ _)⟩
set_option maxHeartbeats 4000000 in
/-- an aggregate holds aggregates -/
theorem agg33t (w : World) (x : Ex) (A : Option Addr) (n c : Nat) (h : isIn x.op aggs = true) : Calls Tryz.prog 78 #[exAgg x A n c] w fun e w' => e = .returned (.bool true) ∧ Hid (Below w.heap.size w w') := by
 have HF := Lib.hid (fun (W : World) => agg47g W x.op)
 rw [h] at HF
 clear h
 go_enter Tryz.func78, Tryz.ntmps78
 go_wp2_with (go_at_call 106; refine (HF.out _).mono ?_; rintro e w1 ⟨rfl, h1⟩)
 go_ret
 exact ⟨rfl, Lib.hid h1.out.from1⟩

end Go.Proofs.YtbcmmecilheicaaGreatDoor

/- exec's part.aggregate, of a sum. -/
namespace Go.Proofs.YtbcmmecilheicaaGreatDoor
open Go Go.RowKit

/-- values added up -/
noncomputable def sumL : Val → List Val → Val × Option Int
 | s, [] => (s, none)
 | s, v :: l => match reckonP 43 s v with
  | (_, some er) => (Val.null, some er)
  | (s', none) => sumL s' l
noncomputable def sumP (lb : List ByteArray) (y : Ex) (rs : List (Int × List Val)) : Val × Option Int :=
 match argsP lb y rs with
 | (_, some er) => (Val.null, some er)
 | ([], none) => (Val.null, none)
 | (v :: l, none) => sumL v l
theorem sumL_at {s : Val} {l : List Val} {i : Nat} {v : Val} (h : l[i]? = some v) : sumL s (l.drop i) = match reckonP 43 s v with
  | (_, some er) => (Val.null, some er)
  | (s', none) => sumL s' (l.drop (i + 1)) := by
 obtain ⟨h1, rfl⟩ := List.getElem?_eq_some_iff.1 h
 rw [List.drop_eq_getElem_cons h1, sumL]
theorem blk_set4 {W : World} {b : Nat} {t : TypeId} {c0 c1 c2 c3 : Value} (z : Blk W b t #[c0, c1, c2, c3]) (d0 d1 d2 d3 : Value) :
  Blk ((((W.setCell ⟨b, 0, none⟩ d0).setCell ⟨b, 1, none⟩ d1).setCell ⟨b, 2, none⟩ d2).setCell ⟨b, 3, none⟩ d3) b t #[d0, d1, d2, d3] := by
 have z0 : Blk _ b t #[d0, c1, c2, c3] := z.set_ 0 d0
 have z1 : Blk _ b t #[d0, d1, c2, c3] := z0.set_ 1 d1
 have z2 : Blk _ b t #[d0, d1, d2, c3] := z1.set_ 2 d2
 exact z2.set_ 3 d3

set_option maxRecDepth 100000 in
set_option maxHeartbeats 8000000 in
theorem sum82 (w : World) (RA : Option Addr) (rn rc : Nat) (rs : List (Int × List Val)) (hr : RowsAt w RA rn rs) (hn : rn ≤ 1000000) (htx : RowsTx rs) (i1 : Option Addr) (n1 c1 : Nat) (i2 : Option Addr) (n2 c2 : Nat) (kind col : Int) (v : Val) (b off n c : Nat) (hb : b < w.heap.size) (hn0 : (0 : Int) < n)
  (y : Ex) (Ay : Option Addr) (ny cy : Nat) (hy : ExC w b off y Ay ny cy) (hyi : ExIs w y Ay ny cy) (lb : List ByteArray) (LA : Option Addr) (ln lc : Nat) (hlb : StrsAt w LA ln lb) (hlt : ∀ z ∈ lb, z.size ≤ TB) :
  Calls Tryz.prog 160 #[.agg #[.slice RA rn rc, .slice i1 n1 c1, .slice i2 n2 c2], .agg #[.string ⟨#[115, 117, 109]⟩, .int .i64 kind, .int .i64 col, .int .i64 v.kind, .int .i64 v.int, .string v.text, .bool v.bool, .slice (some ⟨b, off, none⟩) n c], .slice LA ln lc] w
   fun e w' => e = .returned (resV (sumP lb y rs)) ∧ Hid (Below w.heap.size w w') := by
 obtain ⟨w1, hw1⟩ : ∃ z, z = ((w.alloc (.cells #[.slice RA rn rc, .slice i1 n1 c1, .slice i2 n2 c2] 147)).alloc (.cells #[.string ⟨#[115, 117, 109]⟩, .int .i64 kind, .int .i64 col, .int .i64 v.kind, .int .i64 v.int, .string v.text, .bool v.bool, .slice (some ⟨b, off, none⟩) n c] 51)).alloc (.cells #[.int .i64 0, .int .i64 0, .string ⟨#[]⟩, .bool false] 26) := ⟨_, rfl⟩
 have B1 := Lib.hid (show Below w.heap.size w w1 by rw [hw1]; exact bt (below_alloc _ _) (bt (below_alloc _ _) (below_alloc _ _)))
 have Z0 := Lib.hid (show Blk w1 w.heap.size 147 #[.slice RA rn rc, .slice i1 n1 c1, .slice i2 n2 c2] by rw [hw1]; exact ((Blk.new w 147 _).alloc _).alloc _)
 have Z1 := Lib.hid (show Blk w1 (w.heap.size + 1) 51 #[.string ⟨#[115, 117, 109]⟩, .int .i64 kind, .int .i64 col, .int .i64 v.kind, .int .i64 v.int, .string v.text, .bool v.bool, .slice (some ⟨b, off, none⟩) n c] by rw [hw1]; exact (blk_new' (w := w.alloc _) rfl (by simp)).alloc _)
 have Z2 := Lib.hid (show Blk w1 (w.heap.size + 1 + 1) 26 #[.int .i64 0, .int .i64 0, .string ⟨#[]⟩, .bool false] by rw [hw1]; exact blk_new' (w := (w.alloc _).alloc _) rfl (by simp))
 have CC := Lib.hid (args89 w1.drew RA rn rc rs (hr.below (bt (below_drew w1) B1.out)) hn htx (.slice i1 n1 c1) (.slice i2 n2 c2) rfl rfl y Ay ny cy (hyi.bel (bt (below_drew w1) B1.out)) lb LA ln lc (hlb.below (bt (below_drew w1) B1.out)) hlt i1 n1 c1 rfl i2 n2 c2 rfl)
 have HL := Lib.hid hr.len
 obtain ⟨x0, x1, x2, x3, x4, x5, x6, x7⟩ := hy.below hb B1.out
 obtain ⟨⟨vs, er⟩, hres⟩ : ∃ q, q = argsP lb y rs := ⟨_, rfl⟩
 have HP := Lib.hid (show sumP lb y rs = match (vs, er) with
  | (_, some er) => (Val.null, some er)
  | ([], none) => (Val.null, none)
  | (v :: l, none) => sumL v l by rw [hres]; rfl)
 unfold ArgsPost at CC
 rw [← hres] at CC
 clear hr htx hy hyi hlb hlt hres
 have z00 := Z0.out.cell 0
 have z01 := Z0.out.cell 1
 have z02 := Z0.out.cell 2
 have z10 := Z1.out.cell 0
 have z17 := Z1.out.cell 7
 have hbb := Nat.lt_of_lt_of_le hb B1.out.size
 have hs1 := Z2.out.lt
 have hn1 : 0 < n := by omega
 have hn2 : ¬ n = 0 := by omega
 have hn3 : ¬ n ≤ 0 := by omega
 go_enter Tryz.func160, Tryz.ntmps160
 go_wp2_with fail
 rw [← hw1]
 clear hw1
 go_cut [8, 9] from 20 to 29 (fun s8 s9 wx => ∃ (A' : Option Addr) (k c' : Nat), s8 = .slice A' k c' ∧ s9 = errV er ∧ k ≤ c' ∧ k ≤ rs.length ∧ Hid (ValsAt wx A' k vs) ∧ Hid (Below w1.heap.size w1 wx))
 case first =>
  go_region_law (first | (go_simp; go_at_call 176; refine CC.out.mono ?_; rintro e2 w2 ⟨A', k, c', rfl, h1, h2, h3, h4⟩))
  all_goals
   go_wp2_with fail
   go_meet
   case rel => exact ⟨A', k, c', rfl, rfl, h1, h2, h3, Lib.hid (bt h4.out (below_drew w1))⟩
 case rest =>
  obtain ⟨A', k, c', rfl, rfl, hkc, hkr, HV, HB⟩ := hcut
  clear CC z00 z01 z02 z10 z17 x0 x1 x2 x3 x4 x5 x6 x7
  have hs2 := HB.out.size
  have z10 := (Z1.out.below HB.out).cell 0
  have hs3 : w.heap.size + 1 + 1 < wc.heap.size := Nat.lt_of_lt_of_le hs1 HB.out.size
  cases er with
  | some er =>
   have EE := Lib.hid (show sumP lb y rs = (Val.null, some er) from HP.out)
   simp only [errV]
   go_wp2_with fail
   refine (null34 _).mono ?_
   rintro e w2 ⟨rfl, h2⟩
   have B2 := Lib.hid (show Below w1.heap.size w1 w2 from bt h2.out HB.out)
   have ZR := Lib.hid (Z2.out.below B2.out)
   have hfz := fun o => ZR.out.frozen o
   have q0 := ZR.out.cell 0
   have q1 := ZR.out.cell 1
   have q2 := ZR.out.cell 2
   have q3 := ZR.out.cell 3
   have BW := Lib.hid (show Below w.heap.size w w2 from bt B2.out B1.out)
   clear z10 h2
   go_wp2_with fail
   refine bodyPost_ret (results_cv (s := 6) (k := 7) rfl rfl rfl (val_set ZR.out _ _ _ _)) rfl ⟨by rw [EE.out]; rfl, Lib.hid (by have hb := BW.out; have hs := hb.size; go_grown)⟩
  | none =>
   simp only [errV]
   have hlen := HV.out.len
   cases vs with
   | nil =>
    obtain rfl : k = 0 := by simpa using hlen.symm
    have EE := Lib.hid (show sumP lb y rs = (Val.null, none) from HP.out)
    go_wp2_with fail
    refine (null34 _).mono ?_
    rintro e w2 ⟨rfl, h2⟩
    have B2 := Lib.hid (show Below w1.heap.size w1 w2 from bt h2.out HB.out)
    have ZR := Lib.hid (Z2.out.below B2.out)
    have hfz := fun o => ZR.out.frozen o
    have q0 := ZR.out.cell 0
    have q1 := ZR.out.cell 1
    have q2 := ZR.out.cell 2
    have q3 := ZR.out.cell 3
    have BW := Lib.hid (show Below w.heap.size w w2 from bt B2.out B1.out)
    clear z10 h2
    go_wp2_with fail
    refine bodyPost_ret (results_cv (s := 6) (k := 7) rfl rfl rfl (val_set ZR.out _ _ _ _)) rfl ⟨by rw [EE.out]; rfl, Lib.hid (by have hb := BW.out; have hs := hb.size; go_grown)⟩
   | cons v0 t =>
    obtain ⟨m, hm⟩ : ∃ m, m = t.length := ⟨_, rfl⟩
    obtain rfl : k = m + 1 := by rw [hm]; simpa using hlen.symm
    have EE := Lib.hid (show sumP lb y rs = sumL v0 t from HP.out)
    obtain ⟨b', off', rfl, hb', c0', c1', c2', c3'⟩ := HV.out.at_ 0 v0 rfl
    simp only [Nat.zero_mul, Nat.add_zero] at c0' c1' c2' c3'
    have HM := Lib.hid hm
    have HRL := HL.out
    have hm9 : m < 1000000 := by omega
    have hm8 : ¬ (m : Int) + 1 = 0 := by omega
    have hm7 : ((m : Int) + 1 == 0) = false := by simp; omega
    have hm6 : 1 ≤ c' := by omega
    have hm5 : m ≤ c' - 1 := by omega
    clear hlen hm HP
    have ZRc := Lib.hid (Z2.out.below HB.out)
    by_cases hc1 : c' = 1
    ·subst hc1
     obtain rfl : m = 0 := by omega
     have E2 := Lib.hid (show sumP lb y rs = (v0, none) by
      rw [EE.out, List.eq_nil_of_length_eq_zero HM.out.symm]; rfl)
     go_wp2_with fail
     obtain ⟨wy, hwy⟩ : ∃ x, x = wc.alloc (.cells #[.int .i64 v0.kind, .int .i64 v0.int, .string v0.text, .bool v0.bool] 26) := ⟨_, rfl⟩
     have ZY := Lib.hid (show Blk wy wc.heap.size 26 #[.int .i64 v0.kind, .int .i64 v0.int, .string v0.text, .bool v0.bool] by rw [hwy]; exact Blk.new wc 26 _)
     have BY := Lib.hid (show Below wc.heap.size wc wy by rw [hwy]; exact below_alloc _ _)
     rw [← hwy]
     clear hwy z10
     have ZRy := Lib.hid (ZRc.out.below BY.out)
     have hfz := fun o => ZRy.out.frozen o
     have q0 := ZRy.out.cell 0
     have q1 := ZRy.out.cell 1
     have q2 := ZRy.out.cell 2
     have q3 := ZRy.out.cell 3
     have r0 := ZY.out.cell 0
     have r1 := ZY.out.cell 1
     have r2 := ZY.out.cell 2
     have r3 := ZY.out.cell 3
     have hzl := ZY.out.lt
     have BW := Lib.hid (show Below w.heap.size w wy from bt BY.out (bt HB.out B1.out))
     refine wp_loop_rounds 1 ?_
     rw [rounds_succ]
     go_wp2_with fail
     refine bodyPost_ret (results_cv (s := 6) (k := 7) rfl rfl rfl (val_set ZRy.out _ _ _ _)) rfl ⟨by rw [E2.out]; rfl, Lib.hid (by have hb := BW.out; have hs := hb.size; go_grown)⟩
    ·go_wp2_with fail
     obtain ⟨wy, hwy⟩ : ∃ x, x = wc.alloc (.cells #[.int .i64 v0.kind, .int .i64 v0.int, .string v0.text, .bool v0.bool] 26) := ⟨_, rfl⟩
     have ZY := Lib.hid (show Blk wy wc.heap.size 26 #[.int .i64 v0.kind, .int .i64 v0.int, .string v0.text, .bool v0.bool] by rw [hwy]; exact Blk.new wc 26 _)
     have BY := Lib.hid (show Below wc.heap.size wc wy by rw [hwy]; exact below_alloc _ _)
     rw [← hwy]
     clear hwy z10
     go_loopg [9, 65] m (fun kx s9 s65 wr => ∃ (i : Nat) (cur : Val), s9 = .nilIface ∧ s65 = .int .i64 i ∧ kx + i = m ∧ Hid (Below wc.heap.size wc wr ∧ Blk wr wc.heap.size 26 #[.int .i64 cur.kind, .int .i64 cur.int, .string cur.text, .bool cur.bool] ∧ sumL v0 t = sumL cur (t.drop i)))
     case atStart => exact ⟨0, v0, rfl, rfl, rfl, Lib.hid ⟨BY.out, ZY.out, rfl⟩⟩
     case round =>
      obtain ⟨i, ⟨ck, ci, cs, cb⟩, rfl, rfl, hk, I⟩ := hrel
      by_cases hi : i < m
      ·obtain ⟨u, hu⟩ : ∃ u, t[i]? = some u := ⟨_, List.getElem?_eq_getElem (by rw [← HM.out]; exact hi)⟩
       have hiz : (i : Int) < (m : Int) := by omega
       have hi0 : (0 : Int) ≤ (i : Int) := by omega
       have hi9 : (i : Int) < 1000000 := by omega
       obtain ⟨b2, off2, e2, hb2, d0, d1, d2, d3⟩ := (HV.out.below I.out.1).at_ (i + 1) u (by simpa using hu)
       injection e2 with e2
       injection e2 with e2 e3
       subst e2 e3
       have ea : off' + (i + 1) * 4 = off' + 4 + i * 4 := by omega
       rw [ea] at d0 d1 d2 d3
       have hs := sumL_at (s := ⟨ck, ci, cs, cb⟩) hu
       rw [← I.out.2.2] at hs
       obtain ⟨⟨⟨rk, ri, rs', rb⟩, re⟩, hre⟩ : ∃ q, q = reckonP 43 ⟨ck, ci, cs, cb⟩ u := ⟨_, rfl⟩
       have CC := Lib.hid (reckon49 (wr.alloc (.cells #[.int .i64 u.kind, .int .i64 u.int, .string u.text, .bool u.bool] 26)) 43 (.inl rfl) ⟨ck, ci, cs, cb⟩ u)
       rw [← hre] at CC hs
       have HS := Lib.hid hs
       have zr := I.out.2.1
       have hzl := zr.lt
       have r0 := zr.cell 0
       have r1 := zr.cell 1
       have r2 := zr.cell 2
       have r3 := zr.cell 3
       have II := Lib.hid I.out
       clear hu hs hre I zr
       go_wp2_with fail
       refine CC.out.mono ?_
       clear CC d0 d1 d2 d3 r0 r1 r2 r3
       rintro e w2 ⟨rfl, h2⟩
       have B2 := Lib.hid (show Below wr.heap.size wr w2 from bt h2.out (below_alloc _ _))
       have zr2 := II.out.2.1.below B2.out
       have hfz := fun o => zr2.frozen o
       have r0 := zr2.cell 0
       have r1 := zr2.cell 1
       have r2 := zr2.cell 2
       have r3 := zr2.cell 3
       have ZR2 := Lib.hid zr2
       have Bc2 := Lib.hid (show Below wc.heap.size wc w2 from bt B2.out II.out.1)
       clear h2 zr2
       simp only [resV, Val.cells]
       cases re with
       | some er =>
        have E2 := Lib.hid (show sumP lb y rs = (Val.null, some er) by rw [EE.out]; exact HS.out)
        simp only [errV]
        go_wp2_with fail
        refine (null34 _).mono ?_
        rintro e w4 ⟨rfl, h4⟩
        have B4 := Lib.hid (bt h4.out (show Below w1.heap.size w1 _ by have hb := bt Bc2.out HB.out; have hs := hb.size; go_grown))
        have ZR4 := Lib.hid (Z2.out.below B4.out)
        have hfz4 := fun o => ZR4.out.frozen o
        have q0 := ZR4.out.cell 0
        have q1 := ZR4.out.cell 1
        have q2 := ZR4.out.cell 2
        have q3 := ZR4.out.cell 3
        have BW := Lib.hid (show Below w.heap.size w w4 from bt B4.out B1.out)
        clear h4 hfz r0 r1 r2 r3
        go_wp2_with fail
        refine bodyPost_ret (results_cv (s := 6) (k := 7) rfl rfl rfl (val_set ZR4.out _ _ _ _)) rfl ⟨by rw [E2.out]; rfl, Lib.hid (by have hb := BW.out; have hs := hb.size; go_grown)⟩
       | none =>
        have NX := Lib.hid (show Below wc.heap.size wc ((((w2.setCell ⟨wc.heap.size, 0, none⟩ (.int .i64 rk)).setCell ⟨wc.heap.size, 1, none⟩ (.int .i64 ri)).setCell ⟨wc.heap.size, 2, none⟩ (.string rs')).setCell ⟨wc.heap.size, 3, none⟩ (.bool rb)) ∧ Blk ((((w2.setCell ⟨wc.heap.size, 0, none⟩ (.int .i64 rk)).setCell ⟨wc.heap.size, 1, none⟩ (.int .i64 ri)).setCell ⟨wc.heap.size, 2, none⟩ (.string rs')).setCell ⟨wc.heap.size, 3, none⟩ (.bool rb)) wc.heap.size 26 #[.int .i64 rk, .int .i64 ri, .string rs', .bool rb] ∧ sumL v0 t = sumL ⟨rk, ri, rs', rb⟩ (t.drop (i + 1)) from
         ⟨by have hb := Bc2.out; have hs := hb.size; go_grown, blk_set4 ZR2.out _ _ _ _, HS.out⟩)
        simp only [errV]
        go_wp2_with fail
        go_roundg (gk - 1)
        case measure => omega
        case rel => exact ⟨i + 1, ⟨rk, ri, rs', rb⟩, by first | rfl | (simp; done), by first | rfl | (simp; done), by omega, NX⟩
      ·obtain rfl : i = m := by omega
       have hiz : ¬ (i : Int) < (i : Int) := by omega
       have E2 := Lib.hid (show sumP lb y rs = (⟨ck, ci, cs, cb⟩, none) by
        rw [EE.out, I.out.2.2, List.drop_eq_nil_of_le (by rw [← HM.out]; exact Nat.le_refl _)]; rfl)
       have zr := I.out.2.1
       have r0 := zr.cell 0
       have r1 := zr.cell 1
       have r2 := zr.cell 2
       have r3 := zr.cell 3
       have hzl := zr.lt
       have ZR4 := Lib.hid (Z2.out.below (bt I.out.1 HB.out))
       have hfz4 := fun o => ZR4.out.frozen o
       have q0 := ZR4.out.cell 0
       have q1 := ZR4.out.cell 1
       have q2 := ZR4.out.cell 2
       have q3 := ZR4.out.cell 3
       have BW := Lib.hid (show Below w.heap.size w wr from bt I.out.1 (bt HB.out B1.out))
       clear I zr
       go_wp2_with fail
       refine bodyPost_ret (results_cv (s := 6) (k := 7) rfl rfl rfl (val_set ZR4.out _ _ _ _)) rfl ⟨by rw [E2.out]; rfl, Lib.hid (by have hb := BW.out; have hs := hb.size; go_grown)⟩

end Go.Proofs.YtbcmmecilheicaaGreatDoor
