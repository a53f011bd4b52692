/- exec's runner.parts without aggregates: each row a part. exec's runner.parts of groups: what its loops keep. exec's runner.parts of groups; of one part: the walks. -/
import Derived.Test.YtbcmmecilheicaaGreatDoorQryM
import Derived.Test.YtbcmmecilheicaaGreatDoorGrpA
import Derived.Test.YtbcmmecilheicaaGreatDoorFilA
import Derived.Deep.RegionLaw

/- exec's runner.parts without aggregates: each row a part. -/
namespace Go.Proofs.YtbcmmecilheicaaGreatDoor
open Go Go.RowKit

theorem ValsIn.old_keep {w W : World} (hb : Below w.heap.size w W) {A : Option Addr} {n : Nat} {l : List Val} (h : ValsAt w A n l) : ValsIn W (fun b => b < w.heap.size) A n l :=
 h.old.keep (fun b hb' _ => hb.block b hb') (fun _ hb' _ => hb') hb.size
/-- what the loop keeps -/
structure PtI (w wr : World) (i : Nat) (Ao : Option Addr) (co : Nat) (gs : List ElP) (rs : RowL) : Prop where
 old : Below w.heap.size w wr
 row : wr.ownsRow w.heap.size 147 3 (.slice Ao i co) i (pcells gs)
 len : gs.length = i
 at_ : ∀ (j : Nat) (e : ElP) (r : Int × List Val), gs[j]? = some e → rs[j]? = some r → e.a' = none ∧ e.n' = 0 ∧ e.c' = 0 ∧ e.a2 = none ∧ e.n2 = 0 ∧ e.c2 = 0 ∧ RowsIn wr (fun b => some b ≠ (Value.slice Ao i co).ownBlock) e.a e.n [r]
theorem PtI.zero (w : World) (rs : RowL) : PtI w w 0 none 0 [] rs := ⟨Below.refl _ _, World.ownsRow_nil _ _ _ _, rfl, fun j e r h => by simp at h⟩
theorem PtI.step {w wr : World} {i : Nat} {Ao : Option Addr} {co : Nat} {gs : List ElP} {rs : RowL} (I : PtI w wr i Ao co gs rs) (hi : i + 1 ≤ 1000001) {r : Int × List Val} (hr : rs[i]? = some r) {VA : Option Addr} {vn vc : Nat} (hv : ValsAt w VA vn r.2) (hvn : vn * 40 ≤ 140737488355328) {w2 : World} (h2 : Below wr.heap.size wr w2) {w3 : World} (hw3 : w3 = (w2.alloc (.cells #[.int .i64 r.1, .slice VA vn vc] 32)).alloc (.cells #[.slice (some ⟨w2.heap.size, 0, none⟩) 1 1, .slice none 0 0, .slice none 0 0] 147)) :
  ∃ An cn w5, (Builtin.append_ #[142, 142] 142 #[.slice Ao i co, .slice (some ⟨w2.heap.size + 1, 0, none⟩) 1 1]).run Tryz.prog w3 = .ok (.slice An (i + 1) cn) w5 ∧ PtI w w5 (i + 1) An cn (gs ++ [⟨some ⟨w2.heap.size, 0, none⟩, 1, 1, none, 0, 0, none, 0, 0⟩]) rs := by
 have b23 : Below w2.heap.size w2 w3 := by rw [hw3]; exact bt (below_alloc _ _) (below_alloc _ _)
 have zr : Blk w3 w2.heap.size 32 #[.int .i64 r.1, .slice VA vn vc] := by rw [hw3]; exact (Blk.new w2 32 _).alloc _
 have zp : Blk w3 (w2.heap.size + 1) 147 #[.slice (some ⟨w2.heap.size, 0, none⟩) 1 1, .slice none 0 0, .slice none 0 0] := by rw [hw3]; exact blk_new' (w := w2.alloc _) rfl (by simp)
 have hsz3 : w3.heap.size = w2.heap.size + 2 := by rw [hw3]; simp
 have b3 := bt b23 h2
 have ow3 := own_below I.row b3
 have hs2 := h2.size
 have hs0 := I.old.size
 obtain ⟨An, cn, w5, hrun, hown, hg, hnew⟩ := app_some tParts 142 ow3 (by omega) ⟨w2.heap.size + 1, 0, none⟩ 1 1 (by omega) (pcells [⟨some ⟨w2.heap.size, 0, none⟩, 1, 1, none, 0, 0, none, 0, 0⟩]) (pcells_len _) (fun j u hj => by
  rw [add_lit0, zp.cell j]
  simpa [pcells] using hj) pcells_one (by unfold maxLen; omega) (by omega)
 have own_lt : ∀ k, (Value.slice Ao i co).ownBlock = some k → w.heap.size ≤ k ∧ k < wr.heap.size := I.row.lt
 have own_lt' : ∀ k, (Value.slice An (i + 1) cn).ownBlock = some k → w.heap.size ≤ k ∧ k < w5.heap.size := hown.lt
 have keepB : ∀ b, b < w3.heap.size → some b ≠ (Value.slice Ao i co).ownBlock → w5.heap[b]? = w3.heap[b]? := fun b hb hne => hg.block b hb hne
 have newne : ∀ b, b < w3.heap.size → some b ≠ (Value.slice Ao i co).ownBlock → some b ≠ (Value.slice An (i + 1) cn).ownBlock := fun b hb hne e => by
  rcases hnew with hn | hn
  ·exact hne (e.trans hn)
  ·rw [hn] at e
   injection e with e
   omega
 have b5 : Below w.heap.size w w5 := by
  have h1 := bt b3 I.old
  refine ⟨hg.os.trans h1.os, hg.tape.trans h1.tape, hg.output.trans h1.output, Nat.le_trans h1.size hg.size, fun k hk => ?_⟩
  rw [keepB k (by omega) (fun e => by have := (own_lt k e.symm).1; omega), h1.block k hk]
 refine ⟨An, cn, w5, hrun, b5, by rw [pcells_append]; exact hown, by simp [I.len], fun j e q hj hq => ?_⟩
 by_cases c : j < i
 ·rw [List.getElem?_append_left (by rw [I.len]; exact c)] at hj
  obtain ⟨a1, a2, a3, a4, a5, a6, a7⟩ := I.at_ j e q hj hq
  refine ⟨a1, a2, a3, a4, a5, a6, a7.keep (fun b hb hl => ?_) (fun b hb hl => newne b (by omega) hb) (by have := hg.size; omega)⟩
  rw [keepB b (by omega) hb, b3.block b hl]
 ·have hj' : j = i := by
   have := (List.getElem?_eq_some_iff.1 hj).1
   rw [List.length_append, I.len] at this
   simp at this; omega
  subst hj'
  rw [List.getElem?_append_right (by rw [I.len]; exact Nat.le_refl _), I.len] at hj
  obtain rfl : (⟨some ⟨w2.heap.size, 0, none⟩, 1, 1, none, 0, 0, none, 0, 0⟩ : ElP) = e := by simpa using hj
  obtain rfl : r = q := Option.some.inj (hr.symm.trans hq)
  have hne2 : some w2.heap.size ≠ (Value.slice Ao j co).ownBlock := fun e => by have := (own_lt _ e.symm).2; omega
  have k5 : w5.heap[w2.heap.size]? = w3.heap[w2.heap.size]? := keepB _ (by omega) hne2
  refine ⟨rfl, rfl, rfl, rfl, rfl, rfl, rfl, fun x u hx => ?_⟩
  match x, hx with
  | 0, hx =>
   obtain rfl : r = u := by simpa using hx
   have zr5 : Blk w5 w2.heap.size 32 #[.int .i64 r.1, .slice VA vn vc] := k5.trans zr
   refine ⟨w2.heap.size, 0, VA, vn, vc, rfl, zr5.lt, newne _ (by omega) hne2, zr5.cell 0, zr5.cell 1, ?_, hvn⟩
   exact (ValsIn.old_keep b5 hv).keep (fun _ _ _ => rfl) (fun b hb _ e => by have := (own_lt' b e.symm).1; omega) (Nat.le_refl _)
  | x + 1, hx => simp at hx

set_option maxRecDepth 100000 in
set_option maxHeartbeats 8000000 in
theorem parts29b (w : World) (tb : ByteArray) (T1 : Option Addr) (t1 u1 : Nat) (T2 : Option Addr) (t2 u2 : Nat) (T3 : Option Addr) (t3 u3 : Nat) (T4 : Option Addr) (t4 u4 : Nat) (T5 : Option Addr) (t5 u5 : Nat) (lim : Int) (RA : Option Addr) (rn rc : Nat) (LA : Option Addr) (ln lc : Nat) (rs : RowL) (hr : RowsAt w RA rn rs) (hn : rn ≤ 1000000) :
  Calls Tryz.prog 56 #[.agg #[.string tb, .slice T1 t1 u1, .slice T2 t2 u2, .slice T3 t3 u3, .slice T4 t4 u4, .slice T5 t5 u5, .int .i64 lim, .bool false, .slice RA rn rc, .slice LA ln lc]] w (PartsPost (rs.map fun r => [r]) w) := by
 obtain ⟨w1, hw1⟩ : ∃ z, z = w.alloc (.cells #[.string tb, .slice T1 t1 u1, .slice T2 t2 u2, .slice T3 t3 u3, .slice T4 t4 u4, .slice T5 t5 u5, .int .i64 lim, .bool false, .slice RA rn rc, .slice LA ln lc] 141) := ⟨_, rfl⟩
 have Z1 := Lib.hid (show Blk w1 w.heap.size 141 #[.string tb, .slice T1 t1 u1, .slice T2 t2 u2, .slice T3 t3 u3, .slice T4 t4 u4, .slice T5 t5 u5, .int .i64 lim, .bool false, .slice RA rn rc, .slice LA ln lc] by rw [hw1]; exact Blk.new w 141 _)
 have B1 := Lib.hid (show Below w.heap.size w w1 by rw [hw1]; exact below_alloc _ _)
 have HR := Lib.hid (hr.below B1.out)
 have z7 := Z1.out.cell 7
 have z8 := Z1.out.cell 8
 have hs1 := Z1.out.lt
 clear hr
 go_enter Tryz.func56, Tryz.ntmps56
 go_upto_region 13 with fail
 rw [← hw1]
 clear hw1
 go_wp2_with fail
 clear z7 z8
 go_loopg [3, 53] rn (fun kx s3 s53 wr => ∃ (i : Nat) (Ao : Option Addr) (co : Nat), s3 = .slice Ao i co ∧ s53 = .int .i64 i ∧ kx + i = rn ∧ Hid ((∃ gs, PtI w1 wr i Ao co gs rs) ∧ (i = 0 → Ao = none ∧ co = 0)))
 case atStart => exact ⟨0, none, 0, rfl, rfl, rfl, Lib.hid ⟨⟨[], PtI.zero w1 rs⟩, fun _ => ⟨rfl, rfl⟩⟩⟩
 case round =>
  obtain ⟨i, Ao, co, rfl, rfl, hk, I⟩ := hrel
  have hi9 : (i : Int) < 1000001 := by omega
  have hi0 : (0 : Int) ≤ (i : Int) := by omega
  obtain ⟨⟨gs, P⟩, hz0⟩ := I.out
  have PP := Lib.hid P
  have HZ0 := Lib.hid hz0
  clear I P hz0
  by_cases hi : i < rn
  ·have hiz : (i : Int) < (rn : Int) := by omega
   obtain ⟨r, hr⟩ : ∃ r, rs[i]? = some r := ⟨_, List.getElem?_eq_getElem (by rw [HR.out.len]; exact hi)⟩
   obtain ⟨b, off, VA, vn, vc, rfl, hb, p0, p1, hv, hvn⟩ := HR.out.at_ i r hr
   have hb' := Nat.lt_of_lt_of_le hb PP.out.old.size
   have x0 := (PP.out.old.cell (p := ⟨b, off + i * 2, none⟩) hb).trans p0
   have x1 := (PP.out.old.cell (p := ⟨b, off + i * 2 + 1, none⟩) hb).trans p1
   obtain ⟨An, cn, w5, hrun, hP⟩ := PP.out.step (by omega) hr hv hvn (below_alloc wr (.cells #[.int .i64 r.1, .slice VA vn vc] 32)) rfl
   rw [World.size_alloc] at hrun
   have HRUN := Lib.hid hrun
   have NX := Lib.hid (show (∃ gs, PtI w1 w5 (i + 1) An cn gs rs) ∧ (i + 1 = 0 → An = none ∧ cn = 0) from ⟨⟨_, hP⟩, fun h => by omega⟩)
   go_wp2_with (at_builtin; refine wpList_append_runI _ rfl _ _ 142 142 rfl (.slice Ao i co) (.slice (some ⟨wr.heap.size + 1 + 1, 0, none⟩) 1 1) rfl rfl HRUN.out ?_)
   go_roundg (gk - 1)
   case measure => omega
   case rel => exact ⟨i + 1, An, cn, by first | rfl | (simp; done), by first | rfl | (simp; done), by omega, NX⟩
  ·have hiz : ¬ (i : Int) < (rn : Int) := by omega
   obtain rfl : i = rn := by omega
   have HL := Lib.hid HR.out.len
   go_wp2_with fail
   go_ret
   refine ⟨Ao, i, co, gs, rfl, Lib.hid (by rw [List.length_map, HL.out]), Lib.hid HZ0.out, Lib.hid PP.out.len, Lib.hid (own_base PP.out.row fun k hk => Nat.le_trans B1.out.size (PP.out.row.lt k hk).1), Lib.hid (fun j e rr he hrr => ?_), Lib.hid (bt PP.out.old B1.out)⟩
   rw [List.getElem?_map] at hrr
   obtain ⟨r, hr, rfl⟩ := Option.map_eq_some_iff.1 hrr
   exact PP.out.at_ j e r he hr

end Go.Proofs.YtbcmmecilheicaaGreatDoor

/- exec's runner.parts of groups: what its loops keep. -/
namespace Go.Proofs.YtbcmmecilheicaaGreatDoor
open Go Go.RowKit

/-- parts so far -/
structure PuI (w wr : World) (i : Nat) (Ao : Option Addr) (co : Nat) (gs : List ElP) (ps : List RowL) : Prop where
 old : Below w.heap.size w wr
 row : wr.ownsRow w.heap.size 147 3 (.slice Ao i co) i (pcells gs)
 len : gs.length = i
 at_ : ∀ (j : Nat) (e : ElP) (r : RowL), gs[j]? = some e → ps[j]? = some r → e.a' = none ∧ e.n' = 0 ∧ e.c' = 0 ∧ e.a2 = none ∧ e.n2 = 0 ∧ e.c2 = 0 ∧ RowsIn wr (fun b => some b ≠ (Value.slice Ao i co).ownBlock) e.a e.n r
theorem PuI.zero (w : World) (ps : List RowL) : PuI w w 0 none 0 [] ps := ⟨Below.refl _ _, World.ownsRow_nil _ _ _ _, rfl, fun j e r h => by simp at h⟩
theorem PuI.step {w wr : World} {i : Nat} {Ao : Option Addr} {co : Nat} {gs : List ElP} {ps : List RowL} (I : PuI w wr i Ao co gs ps) (hi : i + 1 ≤ 1000001) {r : RowL} (hr : ps[i]? = some r) {w2 : World} (h2 : Below wr.heap.size wr w2) {PA : Option Addr} {pn pc : Nat} (hv : RowsIn w2 (fun b => b < w.heap.size ∨ wr.heap.size ≤ b) PA pn r) {w3 : World} (hw3 : w3 = w2.alloc (.cells #[.slice PA pn pc, .slice none 0 0, .slice none 0 0] 147)) :
  ∃ An cn w5, (Builtin.append_ #[142, 142] 142 #[.slice Ao i co, .slice (some ⟨w2.heap.size, 0, none⟩) 1 1]).run Tryz.prog w3 = .ok (.slice An (i + 1) cn) w5 ∧ PuI w w5 (i + 1) An cn (gs ++ [⟨PA, pn, pc, none, 0, 0, none, 0, 0⟩]) ps := by
 have b23 : Below w2.heap.size w2 w3 := by rw [hw3]; exact below_alloc _ _
 have zp : Blk w3 w2.heap.size 147 #[.slice PA pn pc, .slice none 0 0, .slice none 0 0] := by rw [hw3]; exact Blk.new w2 147 _
 have hsz3 : w3.heap.size = w2.heap.size + 1 := by rw [hw3]; simp
 have b3 := bt b23 h2
 have ow3 := own_below I.row b3
 have hs2 := h2.size
 have hs0 := I.old.size
 obtain ⟨An, cn, w5, hrun, hown, hg, hnew⟩ := app_some tParts 142 ow3 (by omega) ⟨w2.heap.size, 0, none⟩ 1 1 (by omega) (pcells [⟨PA, pn, pc, none, 0, 0, none, 0, 0⟩]) (pcells_len _) (fun j u hj => by
  rw [add_lit0, zp.cell j]
  simpa [pcells] using hj) pcells_one (by unfold maxLen; omega) (by omega)
 have own_lt : ∀ k, (Value.slice Ao i co).ownBlock = some k → w.heap.size ≤ k ∧ k < wr.heap.size := I.row.lt
 have keepB : ∀ b, b < w3.heap.size → some b ≠ (Value.slice Ao i co).ownBlock → w5.heap[b]? = w3.heap[b]? := fun b hb hne => hg.block b hb hne
 have newne : ∀ b, b < w3.heap.size → some b ≠ (Value.slice Ao i co).ownBlock → some b ≠ (Value.slice An (i + 1) cn).ownBlock := fun b hb hne e => by
  rcases hnew with hn | hn
  ·exact hne (e.trans hn)
  ·rw [hn] at e
   injection e with e
   omega
 have b5 : Below w.heap.size w w5 := by
  have h1 := bt b3 I.old
  refine ⟨hg.os.trans h1.os, hg.tape.trans h1.tape, hg.output.trans h1.output, Nat.le_trans h1.size hg.size, fun k hk => ?_⟩
  rw [keepB k (by omega) (fun e => by have := (own_lt k e.symm).1; omega), h1.block k hk]
 refine ⟨An, cn, w5, hrun, b5, by rw [pcells_append]; exact hown, by simp [I.len], fun j e q hj hq => ?_⟩
 by_cases c : j < i
 ·rw [List.getElem?_append_left (by rw [I.len]; exact c)] at hj
  obtain ⟨a1, a2, a3, a4, a5, a6, a7⟩ := I.at_ j e q hj hq
  refine ⟨a1, a2, a3, a4, a5, a6, a7.keep (fun b hb hl => ?_) (fun b hb hl => newne b (by omega) hb) (by have := hg.size; omega)⟩
  rw [keepB b (by omega) hb, b3.block b hl]
 ·have hj' : j = i := by
   have := (List.getElem?_eq_some_iff.1 hj).1
   rw [List.length_append, I.len] at this
   simp at this; omega
  subst hj'
  rw [List.getElem?_append_right (by rw [I.len]; exact Nat.le_refl _), I.len] at hj
  obtain rfl : (⟨PA, pn, pc, none, 0, 0, none, 0, 0⟩ : ElP) = e := by simpa using hj
  obtain rfl : r = q := Option.some.inj (hr.symm.trans hq)
  have hne2 : ∀ b, b < w2.heap.size → (b < w.heap.size ∨ wr.heap.size ≤ b) → some b ≠ (Value.slice Ao j co).ownBlock := fun b _ hb e => by have := own_lt _ e.symm; omega
  refine ⟨rfl, rfl, rfl, rfl, rfl, rfl, hv.keep (fun b hb hl => ?_) (fun b hb hl => newne b (by omega) (hne2 b hl hb)) (by have := hg.size; omega)⟩
  rw [keepB b (by omega) (hne2 b hl hb), b23.block b hl]

/-- one part's rows so far -/
structure PvI (w wr wc : World) (k : Nat) (PA : Option Addr) (pc : Nat) (gs : List (Int × Option Addr × Nat × Nat)) (vs : RowL) : Prop where
 old : Below wr.heap.size wr wc
 box : Blk wc wr.heap.size 147 #[.slice PA k pc, .slice none 0 0, .slice none 0 0]
 row : wc.ownsRow (wr.heap.size + 1) 32 2 (.slice PA k pc) k (rcells gs)
 len : gs.length = k
 vlen : vs.length = k
 val : ∀ (j : Nat) (e : Int × Option Addr × Nat × Nat) (r : Int × List Val), gs[j]? = some e → vs[j]? = some r → e.1 = r.1 ∧ e.2.2.1 * 40 ≤ 140737488355328 ∧ ValsAt w e.2.1 e.2.2.1 r.2
theorem PvI.step {w wr wc : World} {k : Nat} {PA : Option Addr} {pc : Nat} {gs : List (Int × Option Addr × Nat × Nat)} {vs : RowL} (I : PvI w wr wc k PA pc gs vs) (hk : k + 1 ≤ 1000001) (r : Int × List Val) {VA : Option Addr} {n c : Nat} (hn : n * 40 ≤ 140737488355328) (hv : ValsAt w VA n r.2) {wd : World} (hd : Below wc.heap.size wc wd) (z : Blk wd wc.heap.size 32 #[.int .i64 r.1, .slice VA n c]) :
  ∃ An cn w4, (Builtin.append_ #[60, 60] 60 #[.slice PA k pc, .slice (some ⟨wc.heap.size, 0, none⟩) 1 1]).run Tryz.prog wd = .ok (.slice An (k + 1) cn) w4 ∧
   w4.cell? ⟨wr.heap.size, 0, none⟩ = some (.slice PA k pc) ∧ w4.frozen? ⟨wr.heap.size, 0, none⟩ = false ∧ wr.heap.size < w4.heap.size ∧ PvI w wr (w4.setCell ⟨wr.heap.size, 0, none⟩ (.slice An (k + 1) cn)) (k + 1) An cn (gs ++ [(r.1, VA, n, c)]) (vs ++ [r]) := by
 have hs0 := I.old.size
 have hbl := I.box.lt
 obtain ⟨An, cn, w4, hrun, hown, hg, hnew⟩ := app_some tRows 60 (own_below I.row hd) (by have := hd.size; omega) ⟨wc.heap.size, 0, none⟩ 1 1 (by omega) (rcells [(r.1, VA, n, c)]) (rcells_len _) (fun j u hj => by
  rw [add_lit0, z.cell j]
  simpa [rcells] using hj) rcells_one (by unfold maxLen; omega) (by omega)
 have own_lt : ∀ b, (Value.slice PA k pc).ownBlock = some b → wr.heap.size + 1 ≤ b ∧ b < wc.heap.size := I.row.lt
 have keep : ∀ b, b < wr.heap.size + 1 → w4.heap[b]? = wc.heap[b]? := fun b hb => by
  rw [hg.block b (by have := hd.size; omega) (fun e => by have := (own_lt b e.symm).1; omega), hd.block b (by omega)]
 have b4 : Blk w4 wr.heap.size 147 #[.slice PA k pc, .slice none 0 0, .slice none 0 0] := (keep _ (by omega)).trans I.box
 have hs4 := hg.size
 have hsd := hd.size
 refine ⟨An, cn, w4, hrun, b4.cell 0, b4.frozen 0, b4.lt, ⟨hg.os.trans (hd.os.trans I.old.os), hg.tape.trans (hd.tape.trans I.old.tape), hg.output.trans (hd.output.trans I.old.output), by simp [World.setCell]; omega, fun b hb => ?_⟩, b4.set_ 0 _, ?_, by simp [I.len], by simp [I.vlen], fun j e q hj hq => ?_⟩
 ·rw [Below.heap_setCell _ _ _ _ (by show b ≠ wr.heap.size; omega), keep b (by omega), I.old.block b hb]
 ·rw [rcells_append]
  exact set_own hown (fun e => by have := (hown.lt _ e.symm).1; simp at this; omega) _
 ·by_cases c1 : j < k
  ·rw [List.getElem?_append_left (by rw [I.len]; exact c1)] at hj
   rw [List.getElem?_append_left (by rw [I.vlen]; exact c1)] at hq
   exact I.val j e q hj hq
  ·have hj' : j = k := by
    have := (List.getElem?_eq_some_iff.1 hj).1
    rw [List.length_append, I.len] at this
    simp at this; omega
   subst hj'
   rw [List.getElem?_append_right (by rw [I.len]; exact Nat.le_refl _), I.len] at hj
   rw [List.getElem?_append_right (by rw [I.vlen]; exact Nat.le_refl _), I.vlen] at hq
   obtain rfl : (r.1, VA, n, c) = e := by simpa using hj
   obtain rfl : r = q := by simpa using hq
   exact ⟨rfl, hn, hv⟩
theorem PvI.rows {w wr wc : World} {k : Nat} {PA : Option Addr} {pc : Nat} {gs : List (Int × Option Addr × Nat × Nat)} {vs : RowL} (I : PvI w wr wc k PA pc gs vs) (hw : Below w.heap.size w wr) : RowsIn wc (fun b => b < w.heap.size ∨ wr.heap.size ≤ b) PA k vs :=
 ⟨I.vlen, fun j r hj => by
  obtain ⟨e, he⟩ : ∃ e, gs[j]? = some e := ⟨_, List.getElem?_eq_getElem (by have := (List.getElem?_eq_some_iff.1 hj).1; rw [I.len, ← I.vlen]; exact this)⟩
  obtain ⟨e1, e2, e3⟩ := I.val j e r he hj
  obtain ⟨k0, k1⟩ := rcells_at he
  obtain ⟨g, eg, hg, hgb, c0, -⟩ := own_at I.row k0
  obtain ⟨g', eg', -, -, c1, -⟩ := own_at I.row k1
  rw [eg] at eg'
  injection eg' with eg'; injection eg' with eg'; subst eg'
  refine ⟨g, 0, e.2.1, e.2.2.1, e.2.2.2, eg, hg, .inr (by omega), ?_, ?_, (ValsIn.old_keep (bt I.old hw) e3).keep (fun _ _ _ => rfl) (fun b hb _ => .inl hb) (Nat.le_refl _), e2⟩
  ·rw [Nat.zero_add, ← e1]; exact c0
  ·rw [Nat.zero_add]; exact c1⟩

end Go.Proofs.YtbcmmecilheicaaGreatDoor

/- exec's runner.parts of groups; of one part: the walks. -/
namespace Go.Proofs.YtbcmmecilheicaaGreatDoor
open Go Go.RowKit

/-- the parts that groups come to -/
def grpParts (cols : List Int) (rs : RowL) : List RowL := (refGroups keyCmp (keyOf rs cols) rs.length).map fun g => g.map fun j => rs.getD j (0, [])

set_option maxRecDepth 100000 in
set_option maxHeartbeats 8000000 in
theorem parts56g (w : World) (tb : ByteArray) (T1 : Option Addr) (t1 u1 : Nat) (T2 : Option Addr) (t2 u2 : Nat) (T3 : Option Addr) (t3 u3 : Nat) (T4 : Option Addr) (t4 u4 : Nat) (T5 : Option Addr) (t5 u5 : Nat) (lim : Int) (RA : Option Addr) (rn rc : Nat) (LA : Option Addr) (ln lc : Nat) (rs : RowL) (hr : RowsAt w RA rn rs) (hn : rn ≤ 1000000) (cols : List Int) (hc : IntsAt w T4 t4 cols) (h4 : 0 < t4) (h4n : t4 ≤ 1048576) :
  Calls Tryz.prog 56 #[.agg #[.string tb, .slice T1 t1 u1, .slice T2 t2 u2, .slice T3 t3 u3, .slice T4 t4 u4, .slice T5 t5 u5, .int .i64 lim, .bool true, .slice RA rn rc, .slice LA ln lc]] w (PartsPost (grpParts cols rs) w) := by
 obtain ⟨w1, hw1⟩ : ∃ z, z = w.alloc (.cells #[.string tb, .slice T1 t1 u1, .slice T2 t2 u2, .slice T3 t3 u3, .slice T4 t4 u4, .slice T5 t5 u5, .int .i64 lim, .bool true, .slice RA rn rc, .slice LA ln lc] 141) := ⟨_, rfl⟩
 have Z1 := Lib.hid (show Blk w1 w.heap.size 141 #[.string tb, .slice T1 t1 u1, .slice T2 t2 u2, .slice T3 t3 u3, .slice T4 t4 u4, .slice T5 t5 u5, .int .i64 lim, .bool true, .slice RA rn rc, .slice LA ln lc] by rw [hw1]; exact Blk.new w 141 _)
 have B1 := Lib.hid (show Below w.heap.size w w1 by rw [hw1]; exact below_alloc _ _)
 have HR := Lib.hid (hr.below B1.out)
 have HL := Lib.hid hr.len
 have CG := Lib.hid (groups11 w1 RA rn rc rs HR.out hn T4 t4 u4 cols (hc.below B1.out) h4n)
 have GM := Lib.hid (ginv_ref (key := keyOf rs cols) totK rn)
 obtain ⟨G, hG⟩ : ∃ G, G = refGroups keyCmp (keyOf rs cols) rn := ⟨_, rfl⟩
 unfold GroupsPost at CG
 rw [← hG] at CG GM
 have PE := Lib.hid (show grpParts cols rs = G.map (fun g => g.map fun j => rs.getD j (0, [])) by rw [grpParts, HL.out, hG])
 have GL := Lib.hid (show G.length ≤ rn by
  rw [hG]
  have h := (ginv_ref (key := keyOf rs cols) totK rn).grp totK
  rw [← h]
  exact grpF_le _ _ _ (by rw [(ginv_ref (key := keyOf rs cols) totK rn).length totK]; exact Nat.le_refl _))
 have GE := Lib.hid (show ∀ g ∈ G, g.length ≤ rn by
  intro g hg
  have h := (GM.out).length totK
  have hp : g.length ≤ G.flatten.length := by
   obtain ⟨a, b, e⟩ := List.append_of_mem hg
   rw [e]; simp; omega
  omega)
 have z4 := Z1.out.cell 4
 have z7 := Z1.out.cell 7
 have z8 := Z1.out.cell 8
 have hs1 := Z1.out.lt
 have h4z : (t4 == 0) = false := by simp; omega
 have h4y : ¬ ((t4 : Int) = 0) := by omega
 have h4x : ((t4 : Int) == 0) = false := by simp; omega
 clear hr hc hG
 go_enter Tryz.func56, Tryz.ntmps56
 go_upto_region 13 with fail
 rw [← hw1]
 clear hw1
 go_wp2_with fail
 refine CG.out.mono ?_
 clear CG z4 z7 z8
 rintro e wg ⟨A', m, c', vs, rfl, hM, hg⟩
 have BG := Lib.hid (show Below w.heap.size w wg from bt hg.out B1.out)
 have ZG := Lib.hid (Z1.out.below hg.out)
 have HRG := Lib.hid (HR.out.below hg.out)
 have MM := Lib.hid hM.out
 have hml : m ≤ rn := by have := hM.out.len.1; have := GL.out; omega
 clear hg hM
 go_wp2_with fail
 go_loopg [3, 18] m (fun kx s3 s18 wr => ∃ (i : Nat) (Ao : Option Addr) (co : Nat), s3 = .slice Ao i co ∧ s18 = .int .i64 i ∧ kx + i = m ∧ Hid ((∃ gs, PuI wg wr i Ao co gs (grpParts cols rs)) ∧ (i = 0 → Ao = none ∧ co = 0)))
 case atStart => exact ⟨0, none, 0, rfl, rfl, rfl, Lib.hid ⟨⟨[], PuI.zero wg _⟩, fun _ => ⟨rfl, rfl⟩⟩⟩
 case round =>
  obtain ⟨i, Ao, co, rfl, rfl, hk, I⟩ := hrel
  have hi9 : (i : Int) < 1000001 := by omega
  have hi0 : (0 : Int) ≤ (i : Int) := by omega
  obtain ⟨⟨gs, P⟩, hz0⟩ := I.out
  have PP := Lib.hid P
  have HZ0 := Lib.hid hz0
  clear I P hz0
  by_cases hi : i < m
  ·have hiz : (i : Int) < (m : Int) := by omega
   obtain ⟨g, hgg⟩ : ∃ g, G[i]? = some g := ⟨_, List.getElem?_eq_getElem (by rw [MM.out.len.1]; exact hi)⟩
   obtain ⟨u, hu⟩ : ∃ u, vs[i]? = some u := ⟨_, List.getElem?_eq_getElem (by rw [MM.out.len.2]; exact hi)⟩
   obtain ⟨Au, nu, cu, rfl⟩ := MM.out.inn.slices u (List.mem_of_getElem? hu)
   obtain ⟨g8, e8, hg8, -, c8, -⟩ := own_at MM.out.outer hu
   subst e8
   have hin := (MM.out.inn.row i _ g hu hgg).1
   have hnu := (own_cap hin).1
   have c8' := (PP.out.old.cell (p := ⟨g8, i, none⟩) hg8).trans c8
   have hg8' := Nat.lt_of_lt_of_le hg8 PP.out.old.size
   have IN := Lib.hid hin
   have HP := Lib.hid (show (grpParts cols rs)[i]? = some (g.map fun j => rs.getD j (0, [])) by rw [PE.out, List.getElem?_map, hgg]; rfl)
   have GI_ := Lib.hid (show ∀ j ∈ g, j < rn from fun j hj => (GM.out.mem j).1 (List.mem_flatten.2 ⟨g, List.mem_of_getElem? hgg, hj⟩))
   have hng : nu ≤ rn := by rw [hnu]; exact GE.out g (List.mem_of_getElem? hgg)
   have HNU := Lib.hid hnu
   obtain ⟨wb, hwb⟩ : ∃ z, z = wr.alloc (.cells #[.slice none 0 0, .slice none 0 0, .slice none 0 0] 147) := ⟨_, rfl⟩
   have I0 := Lib.hid (show PvI wg wr wb 0 none 0 [] [] by
    rw [hwb]
    exact ⟨below_alloc _ _, Blk.new wr 147 _, World.ownsRow_nil _ _ _ _, rfl, rfl, fun j e r h => by simp at h⟩)
   clear hin hgg hu hnu c8
   obtain ⟨gko, hgo⟩ : ∃ q, q = gk := ⟨_, rfl⟩
   go_upto_region 6 with fail
   rw [← hwb]
   clear hwb
   go_wp2_with fail
   clear c8'
   go_loopg [25] nu (fun kx s25 wc => ∃ (k : Nat) (PA : Option Addr) (pc : Nat), s25 = .int .i64 k ∧ kx + k = nu ∧ Hid (∃ hs, PvI wg wr wc k PA pc hs ((g.map fun j => rs.getD j (0, [])).take k)))
   case atStart => exact ⟨0, none, 0, rfl, rfl, Lib.hid ⟨[], I0.out⟩⟩
   case round =>
    rename World => wc
    obtain ⟨k, PA, pc, rfl, hkk, J⟩ := hrel
    have hk9 : (k : Int) < 1000001 := by omega
    have hk0 : (0 : Int) ≤ (k : Int) := by omega
    obtain ⟨hs, Q⟩ := J.out
    have QQ := Lib.hid Q
    clear J Q
    by_cases hkn : k < nu
    ·have hkz : (k : Int) < (nu : Int) := by omega
     obtain ⟨j, hj⟩ : ∃ j, g[k]? = some j := ⟨_, List.getElem?_eq_getElem (by rw [← HNU.out]; exact hkn)⟩
     obtain ⟨gu, eu, hgu, -, cu', -⟩ := own_at IN.out (show (intsV g)[k]? = some (.int .i64 j) by unfold intsV; rw [List.getElem?_map, hj]; rfl)
     subst eu
     have hjn : j < rn := GI_.out j (List.mem_of_getElem? hj)
     obtain ⟨r, hr⟩ : ∃ r, rs[j]? = some r := ⟨_, List.getElem?_eq_getElem (by rw [HL.out]; exact hjn)⟩
     obtain ⟨b, off, VA, vn, vc, rfl, hb, p0, p1, hv, hvn⟩ := HRG.out.at_ j r hr
     have bgc : Below wg.heap.size wg wc := bt QQ.out.old PP.out.old
     have hbx := Nat.lt_of_lt_of_le hb bgc.size
     have hgx := Nat.lt_of_lt_of_le hgu bgc.size
     have x0 := (bgc.cell (p := ⟨b, off + j * 2, none⟩) hb).trans p0
     have x1 := (bgc.cell (p := ⟨b, off + j * 2 + 1, none⟩) hb).trans p1
     have y0 := (bgc.cell (p := ⟨gu, k, none⟩) hgu).trans cu'
     have zz := (ZG.out.below bgc)
     have z8 := zz.cell 8
     have hsz := zz.lt
     have q0 := QQ.out.box.cell 0
     have hq0 := QQ.out.box.lt
     have hjz : (j : Int) < (rn : Int) := by omega
     have hj0 : (0 : Int) ≤ (j : Int) := by omega
     have hj9 : (j : Int) < 1000001 := by omega
     obtain ⟨An, cn, w4, hrun, hc4, hf4, hl4, hQ4⟩ := QQ.out.step (by omega) r (c := vc) hvn hv (wd := wc.drew.alloc (.cells #[.int .i64 r.1, .slice VA vn vc] 32)) (bt (below_alloc wc.drew _) (below_drew wc)) (Blk.new wc.drew 32 _)
     have HRUN := Lib.hid hrun
     have NX := Lib.hid (show ∃ hs, PvI wg wr (w4.setCell ⟨wr.heap.size, 0, none⟩ (.slice An (k + 1) cn)) (k + 1) An cn hs ((g.map fun j => rs.getD j (0, [])).take (k + 1)) from
      ⟨_, by
       rw [List.take_add_one, List.getElem?_map, hj]
       simp only [Option.map_some, Option.toList_some]
       rw [List.getD_eq_getElem?_getD, hr]
       exact hQ4⟩)
     clear hrun hQ4 hr hj cu' p0 p1 hv bgc zz
     go_wp2_with fail
     go_region_law (first | (refine step_append_runI rfl _ _ 60 60 rfl (.slice PA k pc) (.slice (some ⟨wc.heap.size, 0, none⟩) 1 1) (by simp [Act.eval]) (by simp [Act.eval]) HRUN.out ?_))
     all_goals
      go_wp2_with fail
      go_roundg (gk - 1)
      case measure => omega
      case rel => exact ⟨k + 1, An, cn, by first | rfl | (simp; done), by omega, NX⟩
    ·have hkz : ¬ (k : Int) < (nu : Int) := by omega
     obtain rfl : k = nu := by omega
     have RR := Lib.hid (show RowsIn wc (fun b => b < wg.heap.size ∨ wr.heap.size ≤ b) PA k (g.map fun j => rs.getD j (0, [])) by
      have h := QQ.out.rows PP.out.old
      rw [List.take_of_length_le (by rw [List.length_map, HNU.out]; exact Nat.le_refl _)] at h
      exact h)
     have q0 := QQ.out.box.cell 0
     have q1 := QQ.out.box.cell 1
     have q2 := QQ.out.box.cell 2
     have hq0 := QQ.out.box.lt
     obtain ⟨An, cn, w5, hrun, hP⟩ := PP.out.step (by omega) HP.out QQ.out.old (pc := pc) RR.out rfl
     have HRUN := Lib.hid hrun
     have NX := Lib.hid (show (∃ gs, PuI wg w5 (i + 1) An cn gs (grpParts cols rs)) ∧ (i + 1 = 0 → An = none ∧ cn = 0) from ⟨⟨_, hP⟩, fun h => by omega⟩)
     clear hrun hP
     go_wp2_with (at_builtin; refine wpList_append_runI _ rfl _ _ 142 142 rfl (.slice Ao i co) (.slice (some ⟨wc.heap.size, 0, none⟩) 1 1) rfl rfl HRUN.out ?_)
     go_roundg (gko - 1)
     case measure => omega
     case rel => exact ⟨i + 1, An, cn, by first | rfl | (simp; done), by first | rfl | (simp; done), by omega, NX⟩
  ·have hiz : ¬ (i : Int) < (m : Int) := by omega
   obtain rfl : i = m := by omega
   have ML := Lib.hid MM.out.len.1
   go_wp2_with fail
   go_ret
   refine ⟨Ao, i, co, gs, rfl, Lib.hid (by rw [PE.out, List.length_map, ML.out]), Lib.hid HZ0.out, Lib.hid PP.out.len, Lib.hid (own_base PP.out.row fun k hk => Nat.le_trans BG.out.size (PP.out.row.lt k hk).1), Lib.hid (fun j e rr he hrr => PP.out.at_ j e rr he hrr), Lib.hid (bt PP.out.old BG.out)⟩

end Go.Proofs.YtbcmmecilheicaaGreatDoor
