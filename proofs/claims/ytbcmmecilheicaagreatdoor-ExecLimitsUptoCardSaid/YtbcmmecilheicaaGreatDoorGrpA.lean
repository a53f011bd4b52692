/- exec.Groups at many columns: cells, comparing. exec.Groups: its first loop, and what the sort leaves. exec.Groups: the walk: it leaves the document's groups. -/
import Derived.Test.YtbcmmecilheicaaGreatDoorCelA
import Derived.Test.YtbcmmecilheicaaGreatDoorSrtK
import Derived.Deep.RegionLaw
import Derived.Test.YtbcmmecilheicaaGreatDoorGiveA

/- exec.Groups at many columns: cells, comparing. -/

namespace Go.Proofs.YtbcmmecilheicaaGreatDoor
open Go Go.RowKit

set_option maxRecDepth 100000 in
set_option maxHeartbeats 8000000 in
theorem compareFuncW (w : World) (A : Option Addr) (n c : Nat) (B : Option Addr) (m d : Nat) (x y : List Val) (hx : ValsAt w A n x) (hy : ValsAt w B m y) (hn : n ≤ 1048576) (hm : m ≤ 1048576) :
  Calls Tryz.prog 159 #[.slice A n c, .slice B m d, .func (.func 95) #[] #[]] w fun e w' => e = .returned (.int .i64 (keyCmp x y)) ∧ Hid (Below w.heap.size w w') := by
 have HX := Lib.hid hx
 have HY := Lib.hid hy
 have hn9 : (n : Int) < 1048577 := by omega
 have hm9 : (m : Int) < 1048577 := by omega
 clear hx hy
 go_enter Tryz.func159, Tryz.ntmps159
 go_wp2_with fail
 go_loopg [13] n (fun kx s13 wr => ∃ i : Nat, s13 = .int .i64 i ∧ kx + i = n ∧ Hid (Below w.heap.size w wr ∧ keyCmp x y = keyCmp (x.drop i) (y.drop i)))
 case atStart => exact ⟨0, rfl, rfl, Lib.hid ⟨Below.refl _ _, rfl⟩⟩
 case round =>
  obtain ⟨i, rfl, hk, I⟩ := hrel
  have hi9 : (i : Int) < 1048577 := by omega
  by_cases hi : i < n
  ·have hiz : (i : Int) < (n : Int) := by omega
   obtain ⟨a, ha⟩ : ∃ a, x[i]? = some a := ⟨_, List.getElem?_eq_getElem (by rw [HX.out.len]; exact hi)⟩
   obtain ⟨b, off, rfl, hb, hv⟩ := HX.out.at_ i a ha
   obtain ⟨c0, c1, c2, c3⟩ := hv.below hb I.out.1
   have hbl : b < wr.heap.size := Nat.lt_of_lt_of_le hb I.out.1.size
   by_cases hj : i < m
   ·have hjz : (i : Int) < (m : Int) := by omega
    have hgd : decide (m ≤ i) = false := decide_eq_false (by omega)
    obtain ⟨u, hu⟩ : ∃ u, y[i]? = some u := ⟨_, List.getElem?_eq_getElem (by rw [HY.out.len]; exact hj)⟩
    obtain ⟨b2, off2, rfl, hb2, hv2⟩ := HY.out.at_ i u hu
    obtain ⟨d0, d1, d2, d3⟩ := hv2.below hb2 I.out.1
    have hbl2 : b2 < wr.heap.size := Nat.lt_of_lt_of_le hb2 I.out.1.size
    have hbl3 : b2 < wr.heap.size + 1 := by omega
    have hs := keyCmp_step ha hu
    have CC := Lib.hid (compare43 ((wr.alloc (.cells #[.int .i64 a.kind, .int .i64 a.int, .string a.text, .bool a.bool] 26)).alloc (.cells #[.int .i64 u.kind, .int .i64 u.int, .string u.text, .bool u.bool] 26)) a u)
    obtain ⟨r, hr⟩ : ∃ r, r = compareP a u := ⟨_, rfl⟩
    rw [← hr] at CC hs
    by_cases h0 : r = 0
    ·subst h0
     have NX := Lib.hid (show keyCmp x y = keyCmp (x.drop (i + 1)) (y.drop (i + 1)) by rw [I.out.2, hs]; simp)
     have BB := Lib.hid I.out.1
     clear hs hr ha hu hv hv2 I
     go_wp2_with fail
     refine CC.out.mono ?_
     rintro e w2 ⟨rfl, h2⟩
     have B2 := Lib.hid (bt h2.out.from2 BB.out)
     clear h2 CC
     go_wp2_with fail
     go_roundg (gk - 1)
     case measure => omega
     case rel => exact ⟨i + 1, by first | rfl | (simp; done), by omega, Lib.hid ⟨B2.out, NX.out⟩⟩
    ·have NX := Lib.hid (show keyCmp x y = r by rw [I.out.2, hs, if_pos h0])
     have BB := Lib.hid I.out.1
     have h1 : (r != 0) = true := by simpa using h0
     have h2 : (r == 0) = false := by simpa using h0
     clear hs hr ha hu hv hv2 I
     go_wp2_with fail
     refine CC.out.mono ?_
     rintro e w2 ⟨rfl, h3⟩
     have B2 := Lib.hid (bt h3.out.from2 BB.out)
     clear h3 CC
     go_wp2_with fail
     go_ret
     exact ⟨by rw [NX.out]; rfl, B2⟩
   ·have hjz : m ≤ i := by omega
    have hgd : decide (m ≤ i) = true := decide_eq_true (by omega)
    have NX := Lib.hid (show keyCmp x y = 1 by rw [I.out.2]; exact keyCmp_long (by rw [HX.out.len]; exact hi) (by rw [HY.out.len]; omega))
    have BB := Lib.hid I.out.1
    clear ha hv I
    go_wp2_with fail
    go_ret
    exact ⟨by rw [NX.out]; rfl, Lib.hid (bt (below_alloc _ _) BB.out)⟩
  ·have hiz : ¬ (i : Int) < (n : Int) := by omega
   by_cases hj : n < m
   ·have hjz : (n : Int) < (m : Int) := by omega
    have NX := Lib.hid (show keyCmp x y = -1 by rw [I.out.2]; exact keyCmp_short (by rw [HX.out.len]; omega) (by rw [HY.out.len]; omega))
    go_wp2_with fail
    go_ret
    exact ⟨by rw [NX.out]; rfl, Lib.hid I.out.1⟩
   ·have hjz : ¬ (n : Int) < (m : Int) := by omega
    have NX := Lib.hid (show keyCmp x y = 0 by rw [I.out.2]; exact keyCmp_none (by rw [HX.out.len]; omega) (by rw [HY.out.len]; omega))
    go_wp2_with fail
    go_ret
    exact ⟨by rw [NX.out]; rfl, Lib.hid I.out.1⟩

set_option maxRecDepth 100000 in
set_option maxHeartbeats 4000000 in
theorem orderCompareW (w : World) (A : Option Addr) (n c : Nat) (B : Option Addr) (m d : Nat) (x y : List Val) (hx : ValsAt w A n x) (hy : ValsAt w B m y) (hn : n ≤ 1048576) (hm : m ≤ 1048576) :
  Calls Tryz.prog 128 #[.slice A n c, .slice B m d] w fun e w' => e = .returned (.int .i64 (keyCmp x y)) ∧ Hid (Below w.heap.size w w') := by
 have CC := Lib.hid (compareFuncW w A n c B m d x y hx hy hn hm)
 clear hx hy
 go_enter Tryz.func128, Tryz.ntmps128
 go_wp2_with fail
 refine CC.out.mono ?_
 rintro e w2 ⟨rfl, h2⟩
 go_wp2_with fail
 go_ret
 exact ⟨rfl, h2⟩

set_option maxRecDepth 100000 in
set_option maxHeartbeats 4000000 in
/-- the comparison of exec.Groups -/
theorem keyedW (w : World) (A : Option Addr) (n c : Nat) (B : Option Addr) (m d : Nat) (z z' : Int) (x y : List Val) (hx : ValsAt w A n x) (hy : ValsAt w B m y) (hn : n ≤ 1048576) (hm : m ≤ 1048576) :
  Calls Tryz.prog 127 #[.agg #[.slice A n c, .int .i64 z], .agg #[.slice B m d, .int .i64 z']] w fun e w' => e = .returned (.int .i64 (keyCmp x y)) ∧ Hid (Below w.heap.size w w') := by
 have hb : Below w.heap.size w ((w.alloc (.cells #[.slice A n c, .int .i64 z] 229)).alloc (.cells #[.slice B m d, .int .i64 z'] 229)) := bt (below_alloc _ _) (below_alloc _ _)
 have CC := Lib.hid (orderCompareW ((w.alloc (.cells #[.slice A n c, .int .i64 z] 229)).alloc (.cells #[.slice B m d, .int .i64 z'] 229)) A n c B m d x y (hx.below hb) (hy.below hb) hn hm)
 clear hx hy hb
 go_enter Tryz.func127, Tryz.ntmps127
 go_wp2_with fail
 refine CC.out.mono ?_
 rintro e w2 ⟨rfl, h2⟩
 go_wp2_with fail
 go_ret
 exact ⟨rfl, Lib.hid h2.out.from2⟩

set_option maxRecDepth 100000 in
set_option maxHeartbeats 8000000 in
theorem cells71 (w : World) (at_ : Int) (VA : Option Addr) (vn vc : Nat) (vals : List Val) (hv : ValsAt w VA vn vals) (hvn : vn ≤ 140737488355328) (CA : Option Addr) (cn cc : Nat) (cols : List Int) (hc : IntsAt w CA cn cols) (hcn : cn ≤ 1048576) :
  Calls Tryz.prog 71 #[.agg #[.int .i64 at_, .slice VA vn vc], .slice CA cn cc] w (CellsPost vals cols cn w) := by
 unfold CellsPost
 have HV := Lib.hid hv
 have HC := Lib.hid hc
 clear hv hc
 go_enter Tryz.func71, Tryz.ntmps71
 go_wp2_with fail
 obtain ⟨w1, hw1⟩ : ∃ x, x = w.alloc (.cells #[.int .i64 at_, .slice VA vn vc] 32) := ⟨_, rfl⟩
 have Z1 := Lib.hid (show Blk w1 w.heap.size 32 #[.int .i64 at_, .slice VA vn vc] by rw [hw1]; exact Blk.new w 32 _)
 have B1 := Lib.hid (show Below w.heap.size w w1 by rw [hw1]; exact below_alloc _ _)
 rw [← hw1]
 clear hw1
 go_loopg [5, 10] cn (fun kx s5 s10 wr => ∃ (i : Nat) (Ao : Option Addr) (co : Nat), s5 = .slice Ao i co ∧ s10 = .int .i64 i ∧ kx + i = cn ∧ Hid (Below w1.heap.size w1 wr ∧ wr.ownsRow w1.heap.size 26 4 (.slice Ao i co) i (valCells ((cols.take i).map (cellP vals)))))
 case atStart => exact ⟨0, none, 0, rfl, rfl, rfl, Lib.hid ⟨Below.refl _ _, World.ownsRow_nil _ _ _ _⟩⟩
 case round =>
  obtain ⟨i, Ao, co, rfl, rfl, hk, I⟩ := hrel
  by_cases hi : i < cn
  ·have hiz : (i : Int) < (cn : Int) := by omega
   have hi9 : (i : Int) < 1048577 := by omega
   obtain ⟨z, hz⟩ : ∃ z, cols[i]? = some z := ⟨_, List.getElem?_eq_getElem (by rw [HC.out.len]; exact hi)⟩
   obtain ⟨b, off, rfl, hb, hcell⟩ := (HC.out.below (bt I.out.1 B1.out)).at_ i z hz
   have zs := Z1.out.below I.out.1
   have s0 := zs.cell 0
   have s1 := zs.cell 1
   have hsl := zs.lt
   have CC := Lib.hid (cell40 wr at_ VA vn vc vals (HV.out.below (bt I.out.1 B1.out)) hvn z)
   have HZ := Lib.hid hz
   have II := Lib.hid I.out
   clear hz I zs
   go_wp2_with fail
   refine CC.out.mono ?_
   rintro e w2 ⟨rfl, h2⟩
   have ow2 := own_below II.out.2 h2.out
   have ow3 := own_below ow2 (below_alloc _ (.cells #[.int .i64 (cellP vals z).kind, .int .i64 (cellP vals z).int, .string (cellP vals z).text, .bool (cellP vals z).bool] 26))
   have B2 := bt h2.out II.out.1
   obtain ⟨v', w3, hr, hown, hb3⟩ := app_val ow3 (by unfold TB; omega) (by have := B2.size; simp; omega) (cellP vals z) w2.heap.size (Blk.new w2 26 _)
   obtain ⟨An, cn', hvn'⟩ := own_slice hown
   subst hvn'
   have NX := Lib.hid (show Below w1.heap.size w1 w3 ∧ w3.ownsRow w1.heap.size 26 4 (.slice An (i + 1) cn') (i + 1) (valCells ((cols.take (i + 1)).map (cellP vals))) from
    ⟨(bt (below_alloc _ _) B2).trans hb3, by rw [List.take_add_one, HZ.out, List.map_append]; exact hown⟩)
   have HR := Lib.hid hr
   clear hown hb3 hr ow2 ow3 B2 h2 CC s0 s1 hcell
   simp only [Val.cells]
   go_wp2_with (at_builtin; refine wpList_append_runI _ rfl _ _ 30 30 rfl (.slice Ao i co) (.slice (some ⟨w2.heap.size, 0, none⟩) 1 1) rfl rfl HR.out ?_)
   go_roundg (gk - 1)
   case measure => omega
   case rel => exact ⟨i + 1, An, cn', rfl, by first | rfl | (simp; done), by omega, NX⟩
  ·obtain rfl : cn = i := by omega
   have hiz : ¬ (cn : Int) < (cn : Int) := by omega
   have EE := Lib.hid (show wr.ownsRow w.heap.size 26 4 (.slice Ao cn co) cn (valCells (cols.map (cellP vals))) by
    have h := I.out.2
    rw [List.take_of_length_le (by rw [HC.out.len]; exact Nat.le_refl _)] at h
    exact own_base h (fun g hg => Nat.le_trans B1.out.size (h.lt g hg).1))
   have BB := Lib.hid (bt I.out.1 B1.out)
   clear I
   go_wp2_with fail
   go_ret
   exact ⟨Ao, co, rfl, EE, BB⟩

end Go.Proofs.YtbcmmecilheicaaGreatDoor

/- exec.Groups: its first loop, and what the sort leaves. -/
namespace Go.Proofs.YtbcmmecilheicaaGreatDoor
open Go Go.RowKit

def kcells (gs : List ElK) : List Value := (gs.map fun e => [Value.slice e.a e.n e.c, .int .i64 e.z]).flatten
theorem kcells_len (gs : List ElK) : (kcells gs).length = gs.length * 2 := by
 induction gs with
 | nil => rfl
 | cons p l ih => simp only [kcells, List.map_cons, List.flatten_cons, List.length_append, List.length_cons, List.length_nil] at ih ⊢; omega
theorem kcells_append (a b : List ElK) : kcells (a ++ b) = kcells a ++ kcells b := by simp [kcells]
theorem kcells_one {gs : List ElK} : ∀ u ∈ kcells gs, u.oneCell' = true := by
 intro u hu
 obtain ⟨c, hc, huc⟩ := List.mem_flatten.1 hu
 obtain ⟨p, hp, rfl⟩ := List.mem_map.1 hc
 simp only [List.mem_cons, List.not_mem_nil, or_false] at huc
 rcases huc with rfl | rfl <;> rfl
theorem rowF_list {enc : Nat → List Value} {f : Nat → Nat} : ∀ {n : Nat} {gs : List ElK}, gs.length = n → (∀ j e, gs[j]? = some e → enc (f j) = [.slice e.a e.n e.c, .int .i64 e.z]) → rowF enc f n = kcells gs := by
 intro n
 induction n with
 | zero =>
  intro gs hl _
  obtain rfl : gs = [] := List.eq_nil_of_length_eq_zero hl
  rfl
 | succ n ih =>
  intro gs hl h
  obtain ⟨gs', e, rfl⟩ : ∃ gs' e, gs = gs' ++ [e] := by
   rcases List.eq_nil_or_concat gs with rfl | ⟨g, e, rfl⟩
   ·simp at hl
   ·exact ⟨g, e, by rw [List.concat_eq_append]⟩
  have hl' : gs'.length = n := by simpa using hl
  rw [rowF_succ, kcells_append, ih hl' (fun j e' hj => h j e' (by rw [List.getElem?_append_left (List.getElem?_eq_some_iff.1 hj).1]; exact hj))]
  congr 1
  have hlast : (gs' ++ [e])[n]? = some e := by rw [← hl', List.getElem?_append_right (Nat.le_refl _)]; simp
  rw [h n e hlast]
  rfl

/-- what the first loop keeps -/
structure GrI (rs : List (Int × List Val)) (cols : List Int) (cn : Nat) (w wr : World) (i : Nat) (Ao : Option Addr) (co : Nat) (gs : List ElK) : Prop where
 old : Below w.heap.size w wr
 row : wr.ownsRow w.heap.size 229 2 (.slice Ao i co) i (kcells gs)
 len : gs.length = i
 key : ∀ (j : Nat) (e : ElK), gs[j]? = some e → e.n = cn ∧ e.z = j ∧ ValsIn wr (fun b => w.heap.size ≤ b ∧ some b ≠ (Value.slice Ao i co).ownBlock) e.a cn (keyOf rs cols j)
theorem GrI.zero (rs : List (Int × List Val)) (cols : List Int) (cn : Nat) (w : World) : GrI rs cols cn w w 0 none 0 [] :=
 ⟨Below.refl _ _, World.ownsRow_nil _ _ _ _, rfl, fun j e h => by simp at h⟩
/-- one round -/
theorem GrI.step {rs : List (Int × List Val)} {cols : List Int} {cn : Nat} {w wr : World} {i : Nat} {Ao : Option Addr} {co : Nat} {gs : List ElK} (I : GrI rs cols cn w wr i Ao co gs) (hi : i + 1 ≤ 1000001) {r : Int × List Val} (hr : rs[i]? = some r) (hcl : cols.length = cn) {w2 : World} (h2 : Below wr.heap.size wr w2) {A' : Option Addr} {c' : Nat} (hk : w2.ownsRow wr.heap.size 26 4 (.slice A' cn c') cn (valCells (cols.map (cellP r.2)))) :
  ∃ An cn' w3, (Builtin.append_ #[227, 227] 227 #[.slice Ao i co, .slice (some ⟨w2.heap.size, 0, none⟩) 1 1]).run Tryz.prog (w2.alloc (.cells #[.slice A' cn c', .int .i64 i] 229)) = .ok (.slice An (i + 1) cn') w3 ∧ GrI rs cols cn w w3 (i + 1) An cn' (gs ++ [⟨A', cn, c', i⟩]) := by
 have ow3 := own_below (own_below I.row h2) (below_alloc w2 (.cells #[.slice A' cn c', .int .i64 i] 229))
 have hs2 := h2.size
 have hs0 := I.old.size
 obtain ⟨An, cn', w3, hrun, hown, hg, hnew⟩ := app_some tKeyed 227 ow3 (by simp; omega) ⟨w2.heap.size, 0, none⟩ 1 1 (by omega) (kcells [⟨A', cn, c', i⟩]) (kcells_len _) (fun j u hj => by
  rw [add_lit0, (Blk.new w2 229 _).cell j]
  simpa [kcells] using hj) kcells_one (by unfold maxLen; omega) (by omega)
 have own_lt : ∀ k, (Value.slice Ao i co).ownBlock = some k → w.heap.size ≤ k ∧ k < wr.heap.size := I.row.lt
 have keepB : ∀ b, b < w2.heap.size → some b ≠ (Value.slice Ao i co).ownBlock → w3.heap[b]? = w2.heap[b]? := fun b hb hne => by
  rw [hg.block b (by simp; omega) hne]
  exact Below.heap_alloc w2 _ b hb
 have newne : ∀ b, b < w2.heap.size → some b ≠ (Value.slice Ao i co).ownBlock → some b ≠ (Value.slice An (i + 1) cn').ownBlock := fun b hb hne e => by
  rcases hnew with hn | hn
  ·exact hne (e.trans hn)
  ·rw [hn] at e
   injection e with e
   simp at e; omega
 refine ⟨An, cn', w3, hrun, ?_, ?_, by simp [I.len], fun j e hj => ?_⟩
 ·refine ⟨hg.os.trans (h2.os.trans I.old.os), hg.tape.trans (h2.tape.trans I.old.tape), hg.output.trans (h2.output.trans I.old.output), by have := hg.size; simp at this; omega, fun k hk => ?_⟩
  rw [keepB k (by omega) (fun e => by have := (own_lt k e.symm).1; omega), h2.block k (by omega), I.old.block k hk]
 ·rw [kcells_append]; exact hown
 ·by_cases c : j < i
  ·rw [List.getElem?_append_left (by rw [I.len]; exact c)] at hj
   obtain ⟨e1, e2, e3⟩ := I.key j e hj
   refine ⟨e1, e2, e3.keep (fun b hb hl => ?_) (fun b hb hl => ⟨hb.1, newne b (by omega) hb.2⟩) (by have := hg.size; simp at this; omega)⟩
   rw [keepB b (by omega) hb.2, h2.block b hl]
  ·have hj' : j = i := by
    have := (List.getElem?_eq_some_iff.1 hj).1
    rw [List.length_append, I.len] at this
    simp at this; omega
   subst hj'
   rw [List.getElem?_append_right (by rw [I.len]; exact Nat.le_refl _), I.len] at hj
   obtain rfl : (⟨A', cn, c', (j : Int)⟩ : ElK) = e := by simpa using hj
   refine ⟨rfl, rfl, ?_⟩
   rw [keyOf_at hr]
   have hv := ValsIn.of_own hk (by simp [hcl])
   refine hv.keep (fun b hb hl => ?_) (fun b hb hl => ?_) (by have := hg.size; simp at this; omega)
   ·exact keepB b hl (fun e => by have := (own_lt b e.symm).2; omega)
   ·refine ⟨by omega, newne b hl (fun e => by have := (own_lt b e.symm).2; omega)⟩

/-- what lies there behind the sort -/
structure GrS (rs : List (Int × List Val)) (cols : List Int) (cn n : Nat) (L : List Nat) (w ws : World) (Ao : Option Addr) (co : Nat) : Prop where
 old : Below w.heap.size w ws
 row : ∀ i, i < n → ∃ g A c, Ao = some ⟨g, 0, none⟩ ∧ g < ws.heap.size ∧ ws.cell? ⟨g, i * 2, none⟩ = some (.slice A cn c) ∧ ws.cell? ⟨g, i * 2 + 1, none⟩ = some (.int .i64 (oR L i)) ∧ ValsAt ws A cn (keyOf rs cols (oR L i))

set_option maxRecDepth 100000 in
set_option maxHeartbeats 8000000 in
/-- the sort of the keyed rows -/
theorem sortKeyed {rs : List (Int × List Val)} {cols : List Int} {cn n : Nat} {w wr : World} {Ao : Option Addr} {co : Nat} {gs : List ElK} (I : GrI rs cols cn w wr n Ao co gs) (hn : n ≤ 1000000) (hcn : cn ≤ 1048576) {L : List Nat} (hL : Ranks keyCmp (keyOf rs cols) n L) :
  Calls Tryz.prog 126 #[.slice Ao n co, .func (.func 127) #[] #[]] wr fun e w' => e = .returned (.tuple #[]) ∧ Hid (GrS rs cols cn n L w w' Ao co) := by
 rcases Nat.eq_zero_or_pos n with h0 | h0
 ·subst h0
  have e : Value.slice Ao 0 co = .slice none 0 0 ∨ ∃ g, Ao = some ⟨g, 0, none⟩ ∧ g < wr.heap.size := by
   obtain ⟨-, h2⟩ := I.row
   rcases h2 with ⟨h2, -⟩ | ⟨g, cap, cur, h2, h3, h4, -⟩
   ·exact .inl h2
   ·injection h2 with h2
    exact .inr ⟨g, h2, (Array.getElem?_eq_some_iff.1 h4).1⟩
  have hz : ∀ W, W = wr → GrS rs cols cn 0 L w W Ao co := fun W hW => ⟨by rw [hW]; exact I.old, fun i hi => absurd hi (Nat.not_lt_zero _)⟩
  rcases e with e | ⟨g, e, hg⟩
  ·rw [e]
   exact (sortStable22_nil wr).mono fun ev w' ⟨h1, h2⟩ => ⟨h1, Lib.hid (hz w' h2.symm)⟩
  ·subst e
   have hS : SW wr g 229 2 co 0 (encK fun _ => ⟨none, 0, 0, 0⟩) (fun k => k) wr := SW.of_own (B := w.heap.size) (by
    have h := I.row
    have hg0 : gs = [] := List.eq_nil_of_length_eq_zero I.len
    rw [hg0] at h
    exact h) (fun _ => rfl)
   refine (sortStable22 wr g co 0 (fun _ => ⟨none, 0, 0, 0⟩) (fun k => k) (fun _ _ => 0) ⟨fun W _ r s hr => absurd hr (Nat.not_lt_zero _), fun r s hr => absurd hr (Nat.not_lt_zero _)⟩ (Nat.zero_le _) (fun k => k) (fun k hk => absurd hk (Nat.not_lt_zero _)) wr hS (fun k hk => absurd hk (Nat.not_lt_zero _))).mono fun ev w' ⟨h1, h2⟩ => ?_
   obtain ⟨F, hF, -⟩ := h2.out
   refine ⟨h1, Lib.hid ⟨?_, fun i hi => absurd hi (Nat.not_lt_zero _)⟩⟩
   have hgr := hF.grown
   have hlt := (I.row.lt g rfl).1
   exact ⟨hgr.os.trans I.old.os, hgr.tape.trans I.old.tape, hgr.output.trans I.old.output, Nat.le_trans I.old.size hgr.size, fun k hk => by
    rw [hgr.block k (Nat.lt_of_lt_of_le hk I.old.size) (fun e => by injection e with e; omega), I.old.block k hk]⟩
 ·obtain ⟨e0, he0⟩ : ∃ e, gs[0]? = some e := ⟨_, List.getElem?_eq_getElem (by rw [I.len]; exact h0)⟩
  have hc0 : (kcells gs)[0]? = some (.slice e0.a e0.n e0.c) := by
   cases gs with
   | nil => simp at he0
   | cons a l =>
    obtain rfl : a = e0 := by simpa using he0
    simp [kcells]
  obtain ⟨g, rfl, hg, hBg, -, -⟩ := own_at I.row hc0
  let D : ElK := ⟨none, 0, 0, 0⟩
  let el : Nat → ElK := fun r => gs.getD (oR L r) D
  have hel : ∀ r, r < n → gs[oR L r]? = some (el r) := fun r hr => by
   have := hL.oR_lt hr
   show _ = some (gs.getD (oR L r) D)
   rw [List.getD_eq_getElem?_getD, List.getElem?_eq_getElem (by rw [I.len]; exact this)]; rfl
  have hS : SW wr g 229 2 co n (encK el) (fR L) wr := SW.of_own (B := w.heap.size) (by
   rw [rowF_list (gs := gs) I.len (fun j e hj => by
    have hjn : j < n := by rw [← I.len]; exact (List.getElem?_eq_some_iff.1 hj).1
    have h1 := hel (fR L j) (hL.fR_lt hjn)
    rw [hL.oR_fR hjn, hj] at h1
    injection h1 with h1
    show [Value.slice (el (fR L j)).a (el (fR L j)).n (el (fR L j)).c, Value.int .i64 (el (fR L j)).z] = _
    rw [← h1])]
   exact I.row) (fun _ => rfl)
  have keyS : ∀ W, wr.grownBy W (some g) → ∀ r, r < n → ValsAt W (el r).a cn (keyOf rs cols (oR L r)) ∧ (el r).n = cn ∧ (el r).z = (oR L r : Nat) := fun W hW r hr => by
   obtain ⟨k1, k2, k3⟩ := I.key _ _ (hel r hr)
   exact ⟨(k3.keep (S' := fun _ => True) (fun b hb hl => hW.block b hl hb.2) (fun _ _ _ => trivial) hW.size).is, k1, k2⟩
  have HC : CmpK wr g n el (oR L) (fun r s => keyCmp (keyOf rs cols (oR L r)) (keyOf rs cols (oR L s))) := ⟨fun W hW r s hr hs => by
   obtain ⟨a1, a2, a3⟩ := keyS W hW r hr
   obtain ⟨b1, b2, b3⟩ := keyS W hW s hs
   rw [a2, b2]
   exact keyedW W _ cn _ _ cn _ _ _ _ _ a1 b1 hcn hcn, fun r s hr hs ho => hL.lt totK hr hs ho⟩
  refine (sortStable22 wr g co n el (oR L) _ HC hn (fR L) (fun k hk => hL.fR_lt hk) wr hS (fun k hk => hL.oR_fR hk)).mono fun ev w' ⟨h1, h2⟩ => ?_
  obtain ⟨F, hF, hFk⟩ := h2.out
  have hgr := hF.grown
  refine ⟨h1, Lib.hid ⟨?_, fun i hi => ?_⟩⟩
  ·exact ⟨hgr.os.trans I.old.os, hgr.tape.trans I.old.tape, hgr.output.trans I.old.output, Nat.le_trans I.old.size hgr.size, fun k hk => by
    rw [hgr.block k (Nat.lt_of_lt_of_le hk I.old.size) (fun e => by injection e with e; omega), I.old.block k hk]⟩
  ·obtain ⟨k1, k2, k3⟩ := keyS w' hgr i hi
   have c0 := hF.cell (i := i) (c := 0) hi (by omega)
   have c1 := hF.cell (i := i) (c := 1) hi (by omega)
   rw [hFk i hi] at c0 c1
   refine ⟨g, (el i).a, (el i).c, rfl, hF.ltW, ?_, ?_, k1⟩
   ·rw [← k2]; exact c0
   ·rw [← k3]; exact c1

end Go.Proofs.YtbcmmecilheicaaGreatDoor

/- exec.Groups: the walk: it leaves the document's groups. -/
namespace Go.Proofs.YtbcmmecilheicaaGreatDoor
open Go Go.RowKit

/-- the document's groups, in lists of one's own -/
def GroupsPost (rs : List (Int × List Val)) (cols : List Int) (n : Nat) (w : World) (e : Ending) (w' : World) : Prop :=
 ∃ (A' : Option Addr) (m c' : Nat) (vs : List Value), e = .returned (.slice A' m c') ∧ Hid (Mat w' w.heap.size A' m c' vs (refGroups keyCmp (keyOf rs cols) n)) ∧ Hid (Below w.heap.size w w')
theorem Mat.base {W : World} {B B' : Nat} {A : Option Addr} {n c : Nat} {vs : List Value} {gs : List (List Nat)} (h : Mat W B A n c vs gs) (hb : B' ≤ B) : Mat W B' A n c vs gs :=
 ⟨own_base h.outer (fun g hg => Nat.le_trans hb (h.outer.lt g hg).1), h.inn.len, fun a u g hu hg => by
  obtain ⟨h1, h2⟩ := h.inn.row a u g hu hg
  exact ⟨own_base h1 (fun k hk => Nat.le_trans hb (h1.lt k hk).1), fun k hk => ⟨Nat.le_trans hb (h2 k hk).1, (h2 k hk).2⟩⟩, h.inn.apart⟩
theorem set_last {α : Type} (l : List α) (x y : α) : (l ++ [x]).set l.length y = l ++ [y] := by
 rw [List.set_append_right _ _ (Nat.le_refl _), Nat.sub_self]; rfl

/-- an empty group more -/
theorem push_step {wq ws : World} {B : Nat} {A : Option Addr} {m c : Nat} {vs : List Value} {gs : List (List Nat)} (h : Mat wq B A m c vs gs) (hm : m + 1 ≤ 1000001) (hs : Below ws.heap.size ws wq) (hsB : ws.heap.size = B) :
  ∃ An cn w4, (Builtin.append_ #[193, 193] 193 #[.slice A m c, .slice (some ⟨wq.heap.size, 0, none⟩) 1 1]).run Tryz.prog (wq.alloc (.cells #[.slice none 0 0] 65)) = .ok (.slice An (m + 1) cn) w4 ∧ Mat w4 B An (m + 1) cn (vs ++ [.slice none 0 0]) (gs ++ [[]]) ∧ Below ws.heap.size ws w4 ∧
   ∀ k, k < wq.heap.size → some k ≠ (Value.slice A m c).ownBlock → w4.heap[k]? = wq.heap[k]? := by
 obtain ⟨An, cn, w4, hrun, hM4, hg4⟩ := (h.below (below_alloc wq (.cells #[.slice none 0 0] 65))).push (by have := hs.size; simp; omega) hm wq.heap.size (Blk.new wq 65 _)
 refine ⟨An, cn, w4, hrun, hM4, ?_, fun k hk hne => ?_⟩
 ·have h1 := bt (below_alloc wq (.cells #[.slice none 0 0] 65)) hs
  refine ⟨hg4.os.trans h1.os, hg4.tape.trans h1.tape, hg4.output.trans h1.output, Nat.le_trans h1.size hg4.size, fun k hk => ?_⟩
  rw [hg4.block k (Nat.lt_of_lt_of_le hk h1.size) (fun e => by have := (h.outer.lt k e.symm).1; omega), h1.block k hk]
 ·rw [hg4.block k (by simp; omega) hne]
  exact Below.heap_alloc wq _ k hk

set_option maxRecDepth 100000 in
set_option maxHeartbeats 16000000 in
theorem groups11 (w : World) (A : Option Addr) (n c0 : Nat) (rs : List (Int × List Val)) (hr : RowsAt w A n rs) (hn : n ≤ 1000000) (CA : Option Addr) (cn cc : Nat) (cols : List Int) (hc : IntsAt w CA cn cols) (hcn : cn ≤ 1048576) :
  Calls Tryz.prog 92 #[.slice A n c0, .slice CA cn cc] w (GroupsPost rs cols n w) := by
 have HR := Lib.hid hr
 have HC := Lib.hid hc
 have hL0 := ginv_ref (key := keyOf rs cols) totK n
 obtain ⟨L, hLe⟩ : ∃ L, L = (refGroups keyCmp (keyOf rs cols) n).flatten := ⟨_, rfl⟩
 have HL := Lib.hid (show Ranks keyCmp (keyOf rs cols) n L by rw [hLe]; exact hL0.ranks totK)
 have HG := Lib.hid (show grpF keyCmp (keyOf rs cols) L = refGroups keyCmp (keyOf rs cols) n by rw [hLe]; exact hL0.grp totK)
 clear hr hc hL0 hLe
 go_enter Tryz.func92, Tryz.ntmps92
 go_wp2_with fail
 go_loopg [5, 13] n (fun kx s5 s13 wr => ∃ (i : Nat) (Ao : Option Addr) (co : Nat), s5 = .slice Ao i co ∧ s13 = .int .i64 i ∧ kx + i = n ∧ Hid (∃ gs, GrI rs cols cn w wr i Ao co gs))
 case atStart => exact ⟨0, none, 0, rfl, rfl, rfl, Lib.hid ⟨[], GrI.zero rs cols cn w⟩⟩
 case round =>
  obtain ⟨i, Ao, co, rfl, rfl, hk, I⟩ := hrel
  by_cases hi : i < n
  ·have hiz : (i : Int) < (n : Int) := by omega
   have hi9 : (i : Int) < 1000001 := by omega
   obtain ⟨gs, hI⟩ := I.out
   obtain ⟨r, hr⟩ : ∃ r, rs[i]? = some r := ⟨_, List.getElem?_eq_getElem (by rw [HR.out.len]; exact hi)⟩
   obtain ⟨b, off, VA, vn, vc, rfl, hb, q0, q1, hv, hvn⟩ := (HR.out.below hI.old).at_ i r hr
   have bx : Below wr.heap.size wr (wr.alloc (.cells #[.int .i64 r.1, .slice VA vn vc] 32)) := below_alloc _ _
   have CC := Lib.hid (cells71 (wr.alloc (.cells #[.int .i64 r.1, .slice VA vn vc] 32)) r.1 VA vn vc r.2 (hv.below bx) (by omega) CA cn cc cols ((HC.out.below hI.old).below bx) hcn)
   have II := Lib.hid hI
   have RR := Lib.hid hr
   clear hI hr hv bx I
   unfold CellsPost at CC
   go_wp2_with fail
   refine CC.out.mono ?_
   rintro e w2 ⟨A', c', rfl, h1, h2⟩
   have B2 := h2.out.from1
   obtain ⟨An, cn', w3, hrun, hI3⟩ := II.out.step (by omega) RR.out (HC.out.len) B2 (own_base h1.out (fun g hg => by have := (h1.out.lt g hg).1; simp at this; omega))
   have HRUN := Lib.hid hrun
   have NX := Lib.hid (show ∃ gs, GrI rs cols cn w w3 (i + 1) An cn' gs from ⟨_, hI3⟩)
   clear hrun hI3 h1 h2 B2 CC
   go_wp2_with (at_builtin; refine wpList_append_runI _ rfl _ _ 227 227 rfl (.slice Ao i co) (.slice (some ⟨w2.heap.size, 0, none⟩) 1 1) rfl rfl HRUN.out ?_)
   go_roundg (gk - 1)
   case measure => omega
   case rel => exact ⟨i + 1, An, cn', rfl, by first | rfl | (simp; done), by omega, NX⟩
  ·obtain rfl : i = n := by omega
   have hiz : ¬ (i : Int) < (i : Int) := by omega
   have SK := Lib.hid (show Calls Tryz.prog 126 #[.slice Ao i co, .func (.func 127) #[] #[]] wr fun e w' => e = .returned (.tuple #[]) ∧ Hid (GrS rs cols cn i L w w' Ao co) by
    obtain ⟨gs, hI⟩ := I.out
    exact sortKeyed hI hn hcn HL.out)
   clear I hk hi
   go_wp2_with fail
   refine SK.out.mono ?_
   rintro e ws ⟨rfl, hS⟩
   clear SK
   go_wp2_with fail
   go_loopg [8, 31] i (fun kx s8 s31 wr => ∃ (t m : Nat) (Bo : Option Addr) (do_ : Nat) (vs : List Value), s8 = .slice Bo m do_ ∧ s31 = .int .i64 t ∧ kx + t = i ∧ Hid (Below ws.heap.size ws wr ∧ Mat wr ws.heap.size Bo m do_ vs (grpF keyCmp (keyOf rs cols) (L.take t))))
   case atStart => exact ⟨0, 0, none, 0, [], rfl, rfl, rfl, Lib.hid ⟨Below.refl _ _, Mat.nil _ _⟩⟩
   case round =>
    obtain ⟨t, m, Bo, do_, vs, rfl, rfl, hkt, I⟩ := hrel
    have ht9 : (t : Int) < 1000001 := by omega
    by_cases ht : t < i
    ·have htz : (t : Int) < (i : Int) := by omega
     obtain ⟨g, Ak, ck, rfl, hg, y0, y1, hvk⟩ := hS.out.row t ht
     have hg1 : g < wr.heap.size := Nat.lt_of_lt_of_le hg I.out.1.size
     have p0 := (I.out.1.cell (p := ⟨g, t * 2, none⟩) hg).trans y0
     have p1 := (I.out.1.cell (p := ⟨g, t * 2 + 1, none⟩) hg).trans y1
     have hmle : m ≤ t := by
      have h1 := I.out.2.len.1
      have h2 : (grpF keyCmp (keyOf rs cols) (L.take t)).length ≤ t := grpF_le _ _ _ (by rw [List.length_take]; exact Nat.min_le_left _ _)
      omega
     obtain ⟨j, hj⟩ : ∃ j, j = oR L t := ⟨_, rfl⟩
     rw [← hj] at p1
     have hLt : L[t]? = some j := by rw [hj]; exact oR_at (by rw [HL.out.len]; exact ht)
     have JJ := Lib.hid (And.intro hj hLt)
     clear hj hLt y0 y1
     go_upto_region 11 with fail
     go_cut [9, 10] from 33 to 35 (fun s9 s10 wx => s9 = .int .i64 t ∧ s10 = .pointer (some ⟨wr.heap.size, 0, none⟩) ∧ wx = wr.alloc (.cells #[.slice Ak cn ck, .int .i64 j] 229))
     case first =>
      go_wp2_with fail
      go_meet
      case rel => exact ⟨rfl, rfl, rfl⟩
     case rest =>
     obtain ⟨rfl, rfl, rfl⟩ := hcut
     obtain ⟨wa, hwa⟩ : ∃ x, x = wr.alloc (.cells #[.slice Ak cn ck, .int .i64 j] 229) := ⟨_, rfl⟩
     have ZA := Lib.hid (show Blk wa wr.heap.size 229 #[.slice Ak cn ck, .int .i64 j] by rw [hwa]; exact Blk.new wr 229 _)
     have BA := Lib.hid (show Below wr.heap.size wr wa by rw [hwa]; exact below_alloc _ _)
     have hsa : wa.heap.size = wr.heap.size + 1 := by rw [hwa]; simp
     have SA := Lib.hid hsa
     rw [← hwa]
     clear hwa p0 p1 hsa
     go_step
     go_step
     go_cut [8] from 36 to 52 (fun s8 wx => ∃ (m' : Nat) (Bo' : Option Addr) (do' : Nat) (vs' : List Value) (acc : List (List Nat)) (l : List Nat), s8 = .slice Bo' (m' + 1) do' ∧ m' ≤ t ∧ Hid (Blk wx wr.heap.size 229 #[.slice Ak cn ck, .int .i64 j] ∧ Below ws.heap.size ws wx ∧ Mat wx ws.heap.size Bo' (m' + 1) do' vs' (acc ++ [l]) ∧ acc.length = m' ∧ grpF keyCmp (keyOf rs cols) (L.take (t + 1)) = acc ++ [l ++ [j]] ∧ l.length ≤ t))
     case first =>
      have hb8 : wr.heap.size < wa.heap.size := ZA.out.lt
      have MA := Lib.hid (I.out.2.below BA.out)
      have BSA := Lib.hid (bt BA.out I.out.1)
      have hpush : ∀ acc, grpF keyCmp (keyOf rs cols) (L.take t) = acc → grpF keyCmp (keyOf rs cols) (L.take (t + 1)) = pushG keyCmp (keyOf rs cols) acc j := fun acc h => by
       rw [List.take_add_one, JJ.out.2]
       show grpF _ _ (L.take t ++ [j]) = _
       rw [grpF_snoc, h]
      have PU := Lib.hid hpush
      clear hpush
      rcases Nat.eq_zero_or_pos t with h0 | h0
      ·subst h0
       have EQ := Lib.hid (show grpF keyCmp (keyOf rs cols) (L.take (0 + 1)) = grpF keyCmp (keyOf rs cols) (L.take 0) ++ [[] ++ [j]] by rw [PU.out _ rfl]; rfl)
       clear PU
       have hq : Below wa.heap.size wa wa.drew := below_drew wa
       obtain ⟨An, cn', w4, hrun, hM4, hBS4, hkp⟩ := push_step (MA.out.below hq) (by omega) (bt hq BSA.out) rfl
       have HRUN := Lib.hid hrun
       have NX := Lib.hid (show Blk w4 wr.heap.size 229 #[.slice Ak cn ck, .int .i64 j] ∧ Below ws.heap.size ws w4 ∧ Mat w4 ws.heap.size An (m + 1) cn' _ _ from
        ⟨(hkp _ (Nat.lt_of_lt_of_le ZA.out.lt hq.size) (fun e => by have := (I.out.2.outer.lt _ e.symm).2; omega)).trans (ZA.out.below hq), hBS4, hM4⟩)
       clear hrun hM4 hBS4 hkp I hq
       go_wp2_with fail
       go_region
       go_wp2_with (at_builtin; refine wpList_append_runI _ rfl _ _ 193 193 rfl (.slice Bo m do_) (.slice (some ⟨wa.heap.size, 0, none⟩) 1 1) rfl rfl HRUN.out ?_)
       go_meet
       case rel => exact ⟨m, An, cn', _, _, [], rfl, hmle, Lib.hid ⟨NX.out.1, NX.out.2.1, NX.out.2.2, MA.out.len.1, EQ.out, Nat.zero_le _⟩⟩
      ·obtain ⟨q, rfl⟩ : ∃ q, t = q + 1 := ⟨t - 1, by omega⟩
       obtain ⟨g', Ap, cp, e1, hg', z0, z1, hvp⟩ := hS.out.row q (by omega)
       injection e1 with e1
       injection e1 with e1
       subst e1
       have x0 : ∀ p : BelowW wa, p.w.cell? ⟨wr.heap.size, 0, none⟩ = some (.slice Ak cn ck) := fun p => (ZA.out.below p.h).cell 0
       have l0 : ∀ p : BelowW wa, p.w.cell? ⟨g, q * 2, none⟩ = some (.slice Ap cn cp) := fun p => ((bt p.h BSA.out).cell (p := ⟨g, q * 2, none⟩) hg).trans z0
       have CC : Hid (∀ p : BelowW wa, Calls Tryz.prog 128 #[.slice Ap cn cp, .slice Ak cn ck] p.w fun e w' => e = .returned (.int .i64 (keyCmp (keyOf rs cols (oR L q)) (keyOf rs cols (oR L (q + 1))))) ∧ Hid (Below p.w.heap.size p.w w')) := Lib.hid (fun p => orderCompareW p.w Ap cn cp Ak cn ck _ _ (hvp.below (bt p.h BSA.out)) (hvk.below (bt p.h BSA.out)) hcn hcn)
       rw [← JJ.out.1] at CC
       have hgn := grpF_next (cmp := keyCmp) (key := keyOf rs cols) JJ.out.2 (oR_at (L := L) (r := q) (by rw [HL.out.len]; omega))
       obtain ⟨D, gl, hD1, hD2, hD3, hD4⟩ := hgn
       obtain ⟨r, hr⟩ : ∃ r, r = keyCmp (keyOf rs cols (oR L q)) (keyOf rs cols j) := ⟨_, rfl⟩
       rw [← hr] at CC hD3 hD4
       have hmD : m = D.length + 1 := by have h := MA.out.len.1; rw [hD1] at h; simpa using h.symm
       have z2 : (q : Int) < (i : Int) := by omega
       have z6 : IntKind.i64.wrap (q : Int) = (q : Int) := by rw [IntKind.wrap_i64]; omega
       have z7 : ((q : Int) + 1 == 0) = false := by simp; omega
       have z8 : ¬ (q : Int) + 1 = 0 := by omega
       have z9 : decide ((q : Int) + 1 = 0) = false := by simp; omega
       by_cases h1 : r = 0
       ·subst h1
        have EQ := Lib.hid (hD3 rfl)
        have MD := Lib.hid hD1
        have LD := Lib.hid hD2
        clear hr hD1 hD2 hD3 hD4 z0 z1 hvp hvk PU
        go_wp2_with fail
        refine wp_region_quiet_below (by kernel_rfl) (by kernel_rfl) ?_
        repeat (quiet_step ((go_at_call 128; refine calls_below _ (CC.out _))))
        refine wpQuiet_nil ?_
        intro wq hw'
        have hq : Below wa.heap.size wa wq := by obtain ⟨p, rfl⟩ := hw'; exact p.h
        clear hw' x0 l0
        go_wp2_with fail
        go_meet
        case rel =>
         subst hmD
         have hM := MA.out.below hq
         rw [MD.out] at hM
         exact ⟨D.length, Bo, do_, vs, D, gl, rfl, by omega, Lib.hid ⟨ZA.out.below hq, bt hq BSA.out, hM, rfl, EQ.out, LD.out⟩⟩
       ·have h2 : (r != 0) = true := by simpa using h1
        have h3 : (r == 0) = false := by simpa using h1
        have EQ := Lib.hid (show grpF keyCmp (keyOf rs cols) (L.take (q + 1 + 1)) = grpF keyCmp (keyOf rs cols) (L.take (q + 1)) ++ [[] ++ [j]] by rw [hD4 h1, hD1])
        clear hr hD1 hD2 hD3 hD4 z0 z1 hvp hvk hmD PU
        go_wp2_with fail
        refine wp_region_quiet_below (by kernel_rfl) (by kernel_rfl) ?_
        repeat (quiet_step ((go_at_call 128; refine calls_below _ (CC.out _))))
        refine wpQuiet_nil ?_
        intro wq hw'
        have hq : Below wa.heap.size wa wq := by obtain ⟨p, rfl⟩ := hw'; exact p.h
        clear hw' x0 l0
        obtain ⟨An, cn', w4, hrun, hM4, hBS4, hkp⟩ := push_step (MA.out.below hq) (by omega) (bt hq BSA.out) rfl
        have HRUN := Lib.hid hrun
        have NX := Lib.hid (show Blk w4 wr.heap.size 229 #[.slice Ak cn ck, .int .i64 j] ∧ Below ws.heap.size ws w4 ∧ Mat w4 ws.heap.size An (m + 1) cn' _ _ from
         ⟨(hkp _ (Nat.lt_of_lt_of_le ZA.out.lt hq.size) (fun e => by have := (I.out.2.outer.lt _ e.symm).2; omega)).trans (ZA.out.below hq), hBS4, hM4⟩)
        clear hrun hM4 hBS4 hkp I hq
        go_wp2_with (at_builtin; refine wpList_append_runI _ rfl _ _ 193 193 rfl (.slice Bo m do_) (.slice (some ⟨wq.heap.size, 0, none⟩) 1 1) rfl rfl HRUN.out ?_)
        go_meet
        case rel => exact ⟨m, An, cn', _, _, [], rfl, hmle, Lib.hid ⟨NX.out.1, NX.out.2.1, NX.out.2.2, MA.out.len.1, EQ.out, Nat.zero_le _⟩⟩
     case rest =>
      obtain ⟨m', Bo', do', vs', acc, l, rfl, hm', H⟩ := hcut
      have hM := H.out.2.2.1
      have hvl := hM.len.2
      obtain ⟨u, hu⟩ : ∃ u, vs'[m']? = some u := ⟨_, List.getElem?_eq_getElem (by omega)⟩
      obtain ⟨Au, nu, cu, rfl⟩ := hM.inn.slices u (List.mem_of_getElem? hu)
      obtain ⟨g8, e8, hg8, -, c8, -⟩ := own_at hM.outer hu
      subst e8
      have hl8 : (acc ++ [l])[m']? = some l := by rw [← H.out.2.2.2.1, List.getElem?_append_right (Nat.le_refl _)]; simp
      have bz : Below wc.heap.size wc (wc.drew.alloc (.cells #[.int .i64 j] 3)) := bt (below_alloc wc.drew _) (below_drew wc)
      have hnu := (own_cap (hM.inn.row m' _ l hu hl8).1).1
      obtain ⟨-, An, cn', w4, hrun, hc4, hf4, hM4, hB4, -, -⟩ := (hM.below bz).add (by have := H.out.2.1.size; simp; omega) hu hl8 (by have := H.out.2.2.2.2.2; omega) j wc.heap.size (Blk.new wc.drew 3 _)
      have hg9 : g8 < wc.heap.size + 1 := by omega
      have hbx := H.out.1.lt
      have hbx1 : wr.heap.size < wc.heap.size + 1 := by omega
      have b1 := H.out.1.cell 1
      have z6 : IntKind.i64.wrap (m' : Int) = (m' : Int) := by rw [IntKind.wrap_i64]; omega
      have z2 : (m' : Int) < (m' : Int) + 1 := by omega
      have hm9 : (m' : Int) < 1000001 := by omega
      have HRUN := Lib.hid hrun
      have NX := Lib.hid (show Below ws.heap.size ws (w4.setCell ⟨g8, m', none⟩ (.slice An (nu + 1) cn')) ∧ Mat (w4.setCell ⟨g8, m', none⟩ (.slice An (nu + 1) cn')) ws.heap.size (some ⟨g8, 0, none⟩) (m' + 1) do' (vs'.set m' (.slice An (nu + 1) cn')) (grpF keyCmp (keyOf rs cols) (L.take (t + 1))) from
       ⟨(bt bz H.out.2.1).trans hB4, by
        rw [H.out.2.2.2.2.1]
        have e := set_last acc l (l ++ [j])
        rw [H.out.2.2.2.1] at e
        rw [← e]; exact hM4⟩)
      clear hrun hM hM4 hB4 hu hl8 hvl H bz hnu
      go_wp2_with fail
      go_region_law (first | (refine step_append_runI rfl _ _ 65 65 rfl (.slice Au nu cu) (.slice (some ⟨wc.heap.size, 0, none⟩) 1 1) (by simp [Act.eval]) (by simp [Act.eval]) HRUN.out ?_))
      all_goals
       go_wp2_with fail
       go_roundg (gk - 1)
       case measure => omega
       case rel => exact ⟨t + 1, m' + 1, some ⟨g8, 0, none⟩, do', _, rfl, by first | rfl | (simp; done), by omega, NX⟩
    ·obtain rfl : t = i := by omega
     have htz : ¬ (t : Int) < (t : Int) := by omega
     have EE := Lib.hid (show Mat wr w.heap.size Bo m do_ vs (refGroups keyCmp (keyOf rs cols) t) by
      have h := I.out.2
      rw [List.take_of_length_le (by rw [HL.out.len]; exact Nat.le_refl _), HG.out] at h
      exact h.base hS.out.old.size)
     have BB := Lib.hid (bt I.out.1 hS.out.old)
     clear I
     go_wp2_with fail
     go_ret
     exact ⟨Bo, m, do_, vs, rfl, EE, BB⟩

end Go.Proofs.YtbcmmecilheicaaGreatDoor
