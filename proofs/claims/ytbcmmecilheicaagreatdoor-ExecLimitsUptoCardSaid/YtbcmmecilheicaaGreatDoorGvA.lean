/- law 23's give: as law 21's. law 23's gives: expressions as the program's; rows of cells appended whole. -/
import Derived.Test.YtbcmmecilheicaaGreatDoorGiveA
import Derived.Test.YtbcmmecilheicaaGreatDoorOqB

/- law 23's give: as law 21's. -/
namespace Go.Proofs.YtbcmmecilheicaaGreatDoor
open Go Go.RowKit

set_option maxRecDepth 100000 in
set_option maxHeartbeats 8000000 in
theorem give54 {W0 : World} {x : Ex} {A : Option Addr} {n c : Nat} (h : ExIs W0 x A n c) : ∀ W, Below W0.heap.size W0 W → Calls Tryz.prog 54 #[exAgg x A n c] W (GivePost x n W) := by
 induction h with
 | mk op kind col v args A n c len small tx b off hA As ns cs cells sub ih =>
  intro W hW
  show Calls Tryz.prog 54 #[.agg #[.string op, .int .i64 kind, .int .i64 col, .int .i64 v.kind, .int .i64 v.int, .string v.text, .bool v.bool, .slice A n c]] W _
  have hn9 : n ≤ 1466015503701 := by unfold TB at small; omega
  have HW := Lib.hid hW
  have HA := Lib.hid hA
  have HC := Lib.hid cells
  have HI := Lib.hid ih
  have HL := Lib.hid len
  have HS := Lib.hid small
  have HT := Lib.hid tx
  clear hW hA cells ih len small tx sub
  go_enter Tryz.func54, Tryz.ntmps54
  go_upto_region 2 with fail
  obtain ⟨w1, hw1⟩ : ∃ y, y = ((W.alloc (.cells #[.string op, .int .i64 kind, .int .i64 col, .int .i64 v.kind, .int .i64 v.int, .string v.text, .bool v.bool, .slice A n c] 38)).alloc (.cells #[.string ⟨#[]⟩, .int .i64 0, .int .i64 0, .int .i64 0, .int .i64 0, .string ⟨#[]⟩, .bool false, .slice none 0 0] 51)).alloc (.cells #[.string op, .int .i64 kind, .int .i64 col, .int .i64 v.kind, .int .i64 v.int, .string v.text, .bool v.bool, .slice none 0 0] 51) := ⟨_, rfl⟩
  have G0 := Lib.hid (show GI W op kind col v args A n c w1 0 none 0 by
   rw [hw1]
   refine ⟨bt (below_alloc _ _) (bt (below_alloc _ _) (below_alloc _ _)), by simp, ((blk_new' (w := W) rfl rfl).alloc _).alloc _, (blk_new' (w := W.alloc _) rfl (by simp)).alloc _, blk_new' (w := (W.alloc _).alloc _) rfl (by simp), [], World.ownsRow_nil _ _ _ _, rfl, fun g hg => by cases hg⟩)
  rw [← hw1]
  clear hw1
  go_wp2_with fail
  go_loopg [4] n (fun kx s4 wr => ∃ (i : Nat) (Ao : Option Addr) (co : Nat), s4 = .int .i64 i ∧ kx + i = n ∧ Hid (GI W op kind col v args A n c wr i Ao co))
  case atStart => exact ⟨0, none, 0, rfl, rfl, G0⟩
  case round =>
   obtain ⟨i, Ao, co, rfl, hk, I⟩ := hrel
   have x7 := I.out.xb.cell 7
   by_cases hi : i < n
   ·have hiz : (i : Int) < (n : Int) := by omega
    have hi0 : (0 : Int) ≤ (i : Int) := by omega
    have hx96 : (i : Int) < 1466015503701 := by omega
    obtain ⟨e, he⟩ : ∃ e, args[i]? = some e := ⟨_, List.getElem?_eq_getElem (by rw [HL.out]; exact hi)⟩
    obtain ⟨hAe, hbl⟩ := HA.out (by omega)
    subst hAe
    have bwr : Below W0.heap.size W0 wr := bt I.out.old HW.out
    obtain ⟨c0, c1, c2, c3, c4, c5, c6, c7⟩ := (HC.out i e he).below hbl bwr
    have y7 := I.out.y.cell 7
    have hyl := I.out.y.lt
    have call := Lib.hid (HI.out i e he wr.drew ((bt (below_drew wr) bwr)))
    have HE := Lib.hid he
    have II := Lib.hid I.out
    have hs1 : (i + 1) * 96 ≤ TB := by have := HS.out; unfold TB at this ⊢; omega
    have HS1 := Lib.hid hs1
    clear he bwr I hs1
    go_upto_region 5 with fail
    go_region_law (first | (go_simp; go_at_call 54; refine call.out.mono ?_; rintro e2 w2 ⟨A2, c2, rfl, hin, h2⟩; obtain ⟨An, cn, w4, hr, f1, f2, gi⟩ := give_step II.out HS1.out HE.out (show Below wr.heap.size wr w2 from bt h2.out (below_drew wr)) hin.out; have HR := Lib.hid hr; have GG := Lib.hid gi; have y8 := (II.out.y.below (show Below wr.heap.size wr w2 from bt h2.out (below_drew wr))).cell 7; have hyl2 := (II.out.y.below (show Below wr.heap.size wr w2 from bt h2.out (below_drew wr))).lt; clear gi hin h2 hr) | (refine step_append_runI rfl _ _ 49 49 rfl (.slice Ao i co) (.slice (some ⟨w2.heap.size, 0, none⟩) 1 1) (by simp [Act.eval]) (by simp [Act.eval]) HR.out ?_))
    all_goals
     go_wp2_with fail
     go_roundg (gk - 1)
     case measure => omega
     case rel => exact ⟨i + 1, An, cn, by first | rfl | (simp; done), by omega, GG⟩
   ·obtain rfl : n = i := by omega
    have hiz : ¬ (n : Int) < (n : Int) := by omega
    have y0 := I.out.y.cell 0
    have y1 := I.out.y.cell 1
    have y2 := I.out.y.cell 2
    have y3 := I.out.y.cell 3
    have y4 := I.out.y.cell 4
    have y5 := I.out.y.cell 5
    have y6 := I.out.y.cell 6
    have y7 := I.out.y.cell 7
    have r0 := I.out.res.cell 0
    have r1 := I.out.res.cell 1
    have r2 := I.out.res.cell 2
    have r3 := I.out.res.cell 3
    have r4 := I.out.res.cell 4
    have r5 := I.out.res.cell 5
    have r6 := I.out.res.cell 6
    have r7 := I.out.res.cell 7
    have hfz := fun o => I.out.res.frozen o
    have EE := Lib.hid (give_end I.out HL.out HS.out HT.out)
    have RR := Lib.hid I.out.res
    have OO := Lib.hid I.out.old
    have SZ := Lib.hid I.out.size
    clear I
    go_wp2_with fail
    refine bodyPost_ret (results_e (s := 2) rfl rfl (ex_set RR.out _ _ _ _ _ _ _ _)) rfl ⟨Ao, co, rfl, Lib.hid (EE.out.keep (fun b hb hl => ex_far (by omega) _ _ _ _ _ _ _ _) (fun b hb _ => by omega) (by simp [World.setCell])), Lib.hid ?_⟩
    have hb := OO.out
    have hs := hb.size
    have hs2 := SZ.out
    go_grown

end Go.Proofs.YtbcmmecilheicaaGreatDoor

/- law 23's gives: expressions as the program's; rows of cells appended whole. -/
namespace Go.Proofs.YtbcmmecilheicaaGreatDoor
open Go Go.RowKit

/-- expressions given so far -/
structure XsI (W : World) (xs : List Ex) (wr : World) (i : Nat) (Ao : Option Addr) (co : Nat) : Prop where
 old : Below W.heap.size W wr
 kids : ∃ gs : List Given, wr.ownsRow W.heap.size 51 8 (.slice Ao i co) i (exCells gs) ∧ gs.map (·.1) = xs.take i ∧ ∀ g ∈ gs, ExIn wr (fun b => W.heap.size ≤ b ∧ some b ≠ (Value.slice Ao i co).ownBlock) g.1 g.2.1 g.2.2.1 g.2.2.2
theorem XsI.zero (W : World) (xs : List Ex) : XsI W xs W 0 none 0 := ⟨Below.refl _ _, [], World.ownsRow_nil _ _ _ _, rfl, fun g h => by cases h⟩
theorem XsI.step {W wr : World} {xs : List Ex} {i : Nat} {Ao : Option Addr} {co : Nat} (I : XsI W xs wr i Ao co) (hs : (i + 1) * 96 ≤ TB) {e : Ex} (he : xs[i]? = some e) {w2 : World} (h2 : Below wr.heap.size wr w2) {A2 : Option Addr} {m c2 : Nat} (hin : ExIn w2 (fun b => wr.heap.size ≤ b) e A2 m c2) :
  ∃ An cn w4, (Builtin.append_ #[49, 49] 49 #[.slice Ao i co, .slice (some ⟨w2.heap.size, 0, none⟩) 1 1]).run Tryz.prog (w2.alloc (.cells #[.string e.op, .int .i64 e.kind, .int .i64 e.col, .int .i64 e.val.kind, .int .i64 e.val.int, .string e.val.text, .bool e.val.bool, .slice A2 m c2] 51)) = .ok (.slice An (i + 1) cn) w4 ∧ XsI W xs w4 (i + 1) An cn := by
 obtain ⟨gs, k1, k2, k3⟩ := I.kids
 have hsz := I.old.size
 have h2s := h2.size
 have hb3 : Below w2.heap.size w2 (w2.alloc (.cells #[.string e.op, .int .i64 e.kind, .int .i64 e.col, .int .i64 e.val.kind, .int .i64 e.val.int, .string e.val.text, .bool e.val.bool, .slice A2 m c2] 51)) := below_alloc _ _
 have ow := own_below (own_below k1 h2) hb3
 obtain ⟨An, cn, w4, hr, hown, hg, hnew⟩ := app_ex ow hs (by simp; omega) (e, A2, m, c2) w2.heap.size (Blk.new w2 51 _)
 have own_lt : ∀ k, (Value.slice Ao i co).ownBlock = some k → W.heap.size ≤ k ∧ k < wr.heap.size := k1.lt
 have size4 : w2.heap.size + 1 ≤ w4.heap.size := by have := hg.size; simpa using this
 have keep : ∀ b, b < w2.heap.size → some b ≠ (Value.slice Ao i co).ownBlock → w4.heap[b]? = w2.heap[b]? := fun b hb hne => by
  rw [hg.block b (by simp; omega) hne]
  exact Below.heap_alloc w2 _ b hb
 refine ⟨An, cn, w4, hr, ⟨?_, ?_, ?_, by omega, fun k hk => ?_⟩, gs ++ [(e, A2, m, c2)], hown, ?_, ?_⟩
 ·exact hg.os.trans (h2.os.trans I.old.os)
 ·exact hg.tape.trans (h2.tape.trans I.old.tape)
 ·exact hg.output.trans (h2.output.trans I.old.output)
 ·rw [keep k (by omega) (fun hc => by have := (own_lt k hc.symm).1; omega), h2.block k (by omega), I.old.block k hk]
 ·rw [List.map_append, k2, List.take_add_one, he]; rfl
 ·intro g hgm
  have fin : ∀ {S : Nat → Prop}, (∀ b, S b → b < w2.heap.size → W.heap.size ≤ b ∧ some b ≠ (Value.slice Ao i co).ownBlock) → ∀ {x A n c}, ExIn w2 S x A n c → ExIn w4 (fun b => W.heap.size ≤ b ∧ some b ≠ (Value.slice An (i + 1) cn).ownBlock) x A n c := by
   intro S hS x A n c hx
   refine hx.keep (fun b hb hlt => keep b hlt (hS b hb hlt).2) (fun b hb hlt => ⟨(hS b hb hlt).1, fun hc => ?_⟩) (by omega)
   rcases hnew with hn | hn
   ·exact (hS b hb hlt).2 (hc.trans hn)
   ·rw [hn] at hc
    injection hc with hc
    simp at hc; omega
  rcases List.mem_append.1 hgm with hgm | hgm
  ·refine fin (S := fun b => W.heap.size ≤ b ∧ some b ≠ (Value.slice Ao i co).ownBlock) (fun b hb _ => hb) ((k3 g hgm).keep (fun b _ hlt => h2.block b hlt) (fun b hb _ => hb) h2.size)
  ·obtain rfl : g = (e, A2, m, c2) := by simpa using hgm
   exact fin (S := fun b => wr.heap.size ≤ b) (fun b hb _ => ⟨by omega, fun hc => by have := (own_lt b hc.symm).2; omega⟩) hin
theorem XsI.read {W wr : World} {xs : List Ex} {n : Nat} {Ao : Option Addr} {co : Nat} (I : XsI W xs wr n Ao co) (hl : xs.length = n) : ExsIn wr (fun b => W.heap.size ≤ b) Ao n xs := by
 obtain ⟨gs, k1, k2, k3⟩ := I.kids
 rw [← hl, List.take_length] at k2
 have hgl : gs.length = n := by rw [← hl, ← k2]; simp
 subst hgl
 rw [← k2]
 exact own_exs k1 (fun b hb => (k1.lt b hb).1) (fun g hg => (k3 g hg).keep (fun _ _ _ => rfl) (fun b hb _ => hb.1) (Nat.le_refl _))

def GvsPost (xs : List Ex) (n : Nat) (w : World) (e : Ending) (w' : World) : Prop := ∃ (A' : Option Addr) (c' : Nat), e = .returned (.slice A' n c') ∧ Hid (ExsIn w' (fun b => w.heap.size ≤ b) A' n xs) ∧ Hid (Below w.heap.size w w')
set_option maxRecDepth 100000 in
set_option maxHeartbeats 4000000 in
theorem gives53 (w : World) (A : Option Addr) (n c : Nat) (xs : List Ex) (hx : ExsAt w A n xs) (hn : n * 96 ≤ TB) : Calls Tryz.prog 53 #[.slice A n c] w (GvsPost xs n w) := by
 have hn9 : n ≤ 1466015503701 := by unfold TB at hn; omega
 have HX := Lib.hid hx
 have HN := Lib.hid hn
 clear hx hn
 go_enter Tryz.func53, Tryz.ntmps53
 go_wp2_with fail
 go_loopg [3, 4] n (fun kx s3 s4 wr => ∃ (i : Nat) (Ao : Option Addr) (co : Nat), s3 = .slice Ao i co ∧ s4 = .int .i64 i ∧ kx + i = n ∧ Hid (XsI w xs wr i Ao co))
 case atStart => exact ⟨0, none, 0, rfl, rfl, rfl, Lib.hid (XsI.zero _ _)⟩
 case round =>
  obtain ⟨i, Ao, co, rfl, rfl, hk, I⟩ := hrel
  have hi9 : (i : Int) < 1466015503702 := by omega
  have hi0 : (0 : Int) ≤ (i : Int) := by omega
  by_cases hi : i < n
  ·have hiz : (i : Int) < (n : Int) := by omega
   obtain ⟨e, he⟩ : ∃ e, xs[i]? = some e := ⟨_, List.getElem?_eq_getElem (by rw [HX.out.len]; exact hi)⟩
   obtain ⟨b, off, Ae, ne, ce, rfl, hb, hc, hx⟩ := HX.out.at_ i e he
   obtain ⟨c0, c1, c2, c3, c4, c5, c6, c7⟩ := hc.below hb I.out.old
   have hbw := Nat.lt_of_lt_of_le hb I.out.old.size
   have CG := Lib.hid (show Calls Tryz.prog 54 #[.agg #[.string e.op, .int .i64 e.kind, .int .i64 e.col, .int .i64 e.val.kind, .int .i64 e.val.int, .string e.val.text, .bool e.val.bool, .slice Ae ne ce]] wr (GivePost e ne wr) from give54 hx wr I.out.old)
   have hs1 : (i + 1) * 96 ≤ TB := by have := HN.out; unfold TB at this ⊢; omega
   have HS1 := Lib.hid hs1
   have HE := Lib.hid he
   clear he hc hx hs1
   unfold GivePost at CG
   go_wp2_with fail
   refine CG.out.mono ?_
   clear CG c0 c1 c2 c3 c4 c5 c6 c7
   rintro e2 w2 ⟨A2, c2, rfl, hin, h2⟩
   obtain ⟨An, cn, w4, hr, hX⟩ := I.out.step HS1.out HE.out h2.out hin.out
   have HR := Lib.hid hr
   have NX := Lib.hid hX
   clear hr hX
   go_wp2_with (at_builtin; refine wpList_append_runI _ rfl _ _ 49 49 rfl (.slice Ao i co) (.slice (some ⟨w2.heap.size, 0, none⟩) 1 1) rfl rfl HR.out ?_)
   go_roundg (gk - 1)
   case measure => omega
   case rel => exact ⟨i + 1, An, cn, by first | rfl | (simp; done), by first | rfl | (simp; done), by omega, NX⟩
  ·have hiz : ¬ (i : Int) < (n : Int) := by omega
   obtain rfl : i = n := by omega
   go_wp2_with fail
   go_ret
   exact ⟨Ao, co, rfl, Lib.hid (I.out.read HX.out.len), Lib.hid I.out.old⟩

/-- a row of cells appended to nothing -/
theorem app_cells {sl e : TypeId} {bs : Nat} {z : Value} (T : SlT Tryz.prog sl e 1 bs z) (ty : TypeId) {W : World} {S : Nat → Prop} {A : Option Addr} {n c : Nat} {l : List Value} (h : CellsIn W S A n l) (h1 : ∀ u ∈ l, u.oneCell' = true) (hn : n ≤ 1048577) (hb : bs ≤ 100) :
  ∃ An cn W', (Builtin.append_ #[sl, sl] ty #[.slice none 0 0, .slice A n c]).run Tryz.prog W = .ok (.slice An n cn) W' ∧ W'.ownsRow W.heap.size e 1 (.slice An n cn) n l ∧ Below W.heap.size W W' := by
 have hl := h.len
 rcases Nat.eq_zero_or_pos n with h0 | h0
 ·subst h0
  obtain rfl : l = [] := List.eq_nil_of_length_eq_zero hl
  exact ⟨none, 0, W, app_zero T ty W (Nat.le_refl _), World.ownsRow_nil _ _ _ _, Below.refl _ _⟩
 ·obtain ⟨u, hu⟩ : ∃ u, l[0]? = some u := ⟨_, List.getElem?_eq_getElem (by omega)⟩
  obtain ⟨b, off, rfl, -, -, -⟩ := h.at_ 0 u hu
  have hbs : (0 + n) * bs ≤ 140737488355328 := by
   have := Nat.mul_le_mul hn hb
   rw [Nat.zero_add]; omega
  obtain ⟨An, cn, W', hr, ho, hg, -⟩ := app_some T ty (W := W) (B := W.heap.size) (Ao := none) (n := 0) (co := 0) (xs := []) (World.ownsRow_nil _ _ _ _) (Nat.le_refl _) ⟨b, off, none⟩ n c h0 l (by rw [hl, Nat.mul_one]) (fun j u hj => by
   obtain ⟨b', off', e, -, -, hc⟩ := h.at_ j u hj
   injection e with e
   injection e with e1 e2
   subst e1 e2
   have ea : (⟨b, off, none⟩ : Addr).add j = ⟨b, off + j, none⟩ := by unfold Addr.add; split <;> simp_all
   rw [ea]; exact hc) h1 (by unfold maxLen; omega) hbs
  simp only [Nat.zero_add, List.nil_append] at hr ho
  exact ⟨An, cn, W', hr, ho, ⟨hg.os, hg.tape, hg.output, hg.size, fun k hk => hg.block k hk (by simp [Value.ownBlock])⟩⟩

end Go.Proofs.YtbcmmecilheicaaGreatDoor
