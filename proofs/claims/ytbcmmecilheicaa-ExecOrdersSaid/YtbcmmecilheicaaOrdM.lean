/- exec's part.filled of an expression without aggregates: the same; runner.of of it. exec's runner.parts without aggregates: each row a part. What law 23's ExecOrders asks: a column of rows, in order. -/
import Derived.Test.YtbcmmecilheicaaQryM
import Derived.Test.YtbcmmecilheicaaSurA

/- exec's part.filled of an expression without aggregates: the same; runner.of of it. -/
namespace Go.Proofs.Ytbcmmecilheicaa
open Go Go.RowKit

set_option maxRecDepth 100000 in
set_option maxHeartbeats 8000000 in
/-- no aggregate: the expression itself -/
theorem filled65n (w : World) (RA : Option Addr) (rn rc : Nat) (i1 : Option Addr) (n1 c1 : Nat) (i2 : Option Addr) (n2 c2 : Nat) (x : Ex) (A : Option Addr) (n c : Nat) (LA : Option Addr) (ln lc : Nat) (lo : Nat)
    (hno : ∀ W, Below w.heap.size w W → AggNo x A n c W) (hin : ∀ W, Below w.heap.size w W → ExIn W (fun b => b < lo ∨ w.heap.size ≤ b) x A n c) :
    Calls Try.prog 65 #[.agg #[.slice RA rn rc, .slice i1 n1 c1, .slice i2 n2 c2], .agg #[.string x.op, .int .i64 x.kind, .int .i64 x.col, .int .i64 x.val.kind, .int .i64 x.val.int, .string x.val.text, .bool x.val.bool, .slice A n c], .slice LA ln lc] w (FillPost lo x none w) := by
  obtain ⟨w1, hw1⟩ : ∃ z, z = ((w.alloc (.cells #[.slice RA rn rc, .slice i1 n1 c1, .slice i2 n2 c2] 85)).alloc (.cells #[.string x.op, .int .i64 x.kind, .int .i64 x.col, .int .i64 x.val.kind, .int .i64 x.val.int, .string x.val.text, .bool x.val.bool, .slice A n c] 37)).alloc (.cells #[.string ⟨#[]⟩, .int .i64 0, .int .i64 0, .int .i64 0, .int .i64 0, .string ⟨#[]⟩, .bool false, .slice none 0 0] 37) := ⟨_, rfl⟩
  have B1 := Lib.hid (show Below w.heap.size w w1 by rw [hw1]; exact bt (below_alloc _ _) (bt (below_alloc _ _) (below_alloc _ _)))
  have Z1 := Lib.hid (show Blk w1 (w.heap.size + 1) 37 #[.string x.op, .int .i64 x.kind, .int .i64 x.col, .int .i64 x.val.kind, .int .i64 x.val.int, .string x.val.text, .bool x.val.bool, .slice A n c] by rw [hw1]; exact (blk_new' (w := w.alloc _) rfl (by simp)).alloc _)
  have Z2 := Lib.hid (show Blk w1 (w.heap.size + 1 + 1) 37 #[.string ⟨#[]⟩, .int .i64 0, .int .i64 0, .int .i64 0, .int .i64 0, .string ⟨#[]⟩, .bool false, .slice none 0 0] by rw [hw1]; exact blk_new' (w := (w.alloc _).alloc _) rfl (by simp))
  have HN := Lib.hid (hno w1 B1.out)
  unfold AggNo exAgg at HN
  have HI := Lib.hid hin
  clear hno hin
  have zc := Z1.out.cell
  have x0 := zc 0
  have x1 := zc 1
  have x2 := zc 2
  have x3 := zc 3
  have x4 := zc 4
  have x5 := zc 5
  have x6 := zc 6
  have x7 := zc 7
  have hs1 := Z2.out.lt
  clear zc
  go_enter Try.func65, Try.ntmps65
  go_wp2_with fail
  rw [← hw1]
  clear hw1
  refine HN.out.mono ?_
  clear HN x0 x1 x2 x3 x4 x5 x6 x7
  rintro e w2 ⟨rfl, h2⟩
  have zc := (Z1.out.below h2.out).cell
  have x0 := zc 0
  have x1 := zc 1
  have x2 := zc 2
  have x3 := zc 3
  have x4 := zc 4
  have x5 := zc 5
  have x6 := zc 6
  have x7 := zc 7
  have hs2 := h2.out.size
  have hs3 : w.heap.size + 1 < w2.heap.size := by omega
  have ZR := Lib.hid (Z2.out.below h2.out)
  have hfz := fun o => ZR.out.frozen o
  have q0 := ZR.out.cell 0
  have q1 := ZR.out.cell 1
  have q2 := ZR.out.cell 2
  have q3 := ZR.out.cell 3
  have q4 := ZR.out.cell 4
  have q5 := ZR.out.cell 5
  have q6 := ZR.out.cell 6
  have q7 := ZR.out.cell 7
  have hs4 := ZR.out.lt
  have BW := Lib.hid (show Below w.heap.size w w2 from bt h2.out B1.out)
  clear zc h2
  go_wp2_with fail
  have BF := Lib.hid (show Below w.heap.size w ((((((((w2.setCell ⟨w.heap.size + 1 + 1, 0, none⟩ (.string x.op)).setCell ⟨w.heap.size + 1 + 1, 1, none⟩ (.int .i64 x.kind)).setCell ⟨w.heap.size + 1 + 1, 2, none⟩ (.int .i64 x.col)).setCell ⟨w.heap.size + 1 + 1, 3, none⟩ (.int .i64 x.val.kind)).setCell ⟨w.heap.size + 1 + 1, 4, none⟩ (.int .i64 x.val.int)).setCell ⟨w.heap.size + 1 + 1, 5, none⟩ (.string x.val.text)).setCell ⟨w.heap.size + 1 + 1, 6, none⟩ (.bool x.val.bool)).setCell ⟨w.heap.size + 1 + 1, 7, none⟩ (.slice A n c)) by have hb := BW.out; have hs := hb.size; go_grown)
  refine bodyPost_ret (results_ee (s := 6) (k := 7) rfl rfl rfl (ex_set ZR.out _ _ _ _ _ _ _ _)) rfl ⟨A, n, c, rfl, Lib.hid (fun _ => HI.out _ BF.out), BF⟩

theorem ExIs.old {W : World} {x : Ex} {A : Option Addr} {n c : Nat} (h : ExIs W x A n c) : ExIn W (fun b => b < W.heap.size) x A n c := by
  induction h with
  | mk op kind col v args A n c len small tx b off hA As ns cs cells sub ih => exact .mk op kind col v args A n c len small tx b off (fun h => ⟨(hA h).1, (hA h).2, (hA h).2⟩) As ns cs cells ih

/-- what runner.of answers of an expression without aggregates -/
noncomputable def ofNo (lb : List ByteArray) (x : Ex) (rs : RowL) : Res := ofP lb rs x none
theorem of_no (w : World) (tb : ByteArray) (T1 : Option Addr) (t1 u1 : Nat) (T2 : Option Addr) (t2 u2 : Nat) (T3 : Option Addr) (t3 u3 : Nat) (T4 : Option Addr) (t4 u4 : Nat) (T5 : Option Addr) (t5 u5 : Nat) (lim : Int) (ag : Bool) (T8 : Option Addr) (t8 u8 : Nat) (LA : Option Addr) (ln lc : Nat)
    (lb : List ByteArray) (hlb : StrsAt w LA ln lb) (hlt : ∀ z ∈ lb, z.size ≤ TB) (x : Ex) (hno : ∀ W A n c, ExIs W x A n c → AggNo x A n c W) (rs : RowL) (hn : rs.length ≤ 1000000) (htx : RowsTx rs) :
    OfC (.agg #[.string tb, .slice T1 t1 u1, .slice T2 t2 u2, .slice T3 t3 u3, .slice T4 t4 u4, .slice T5 t5 u5, .int .i64 lim, .bool ag, .slice T8 t8 u8, .slice LA ln lc]) w (ofNo lb) x rs := by
  intro W hW RA rn rc i1 n1 c1 i2 n2 c2 A n c hr hx
  have hrl := hr.len
  exact of45 W tb T1 t1 u1 T2 t2 u2 T3 t3 u3 T4 t4 u4 T5 t5 u5 lim ag T8 t8 u8 RA rn rc rs hr (by omega) htx i1 n1 c1 i2 n2 c2 x A n c lb LA ln lc (hlb.below hW) hlt x none
    (fun W2 h2 => filled65n W2 RA rn rc i1 n1 c1 i2 n2 c2 x A n c LA ln lc W.heap.size (fun W3 h3 => hno W3 A n c (hx.bel (bt h3 h2)))
      (fun W3 h3 => hx.old.keep (fun b hb _ => (bt h3 h2).block b hb) (fun b hb _ => .inl hb) (bt h3 h2).size))

end Go.Proofs.Ytbcmmecilheicaa

/- exec's runner.parts without aggregates: each row a part. -/
namespace Go.Proofs.Ytbcmmecilheicaa
open Go Go.RowKit

theorem ValsIn.old_keep {w W : World} (hb : Below w.heap.size w W) {A : Option Addr} {n : Nat} {l : List Val} (h : ValsAt w A n l) : ValsIn W (fun b => b < w.heap.size) A n l :=
  h.old.keep (fun b hb' _ => hb.block b hb') (fun _ hb' _ => hb') hb.size
/-- what the loop keeps -/
structure PtI (w wr : World) (i : Nat) (Ao : Option Addr) (co : Nat) (gs : List ElP) (rs : RowL) : Prop where
  old : Below w.heap.size w wr
  row : wr.ownsRow w.heap.size 85 3 (.slice Ao i co) i (pcells gs)
  len : gs.length = i
  at_ : ∀ (j : Nat) (e : ElP) (r : Int × List Val), gs[j]? = some e → rs[j]? = some r → e.a' = none ∧ e.n' = 0 ∧ e.c' = 0 ∧ e.a2 = none ∧ e.n2 = 0 ∧ e.c2 = 0 ∧ RowsIn wr (fun b => some b ≠ (Value.slice Ao i co).ownBlock) e.a e.n [r]
theorem PtI.zero (w : World) (rs : RowL) : PtI w w 0 none 0 [] rs := ⟨Below.refl _ _, World.ownsRow_nil _ _ _ _, rfl, fun j e r h => by simp at h⟩
theorem PtI.step {w wr : World} {i : Nat} {Ao : Option Addr} {co : Nat} {gs : List ElP} {rs : RowL} (I : PtI w wr i Ao co gs rs) (hi : i + 1 ≤ 1000001) {r : Int × List Val} (hr : rs[i]? = some r) {VA : Option Addr} {vn vc : Nat} (hv : ValsAt w VA vn r.2) (hvn : vn * 40 ≤ 140737488355328) {w2 : World} (h2 : Below wr.heap.size wr w2) {w3 : World} (hw3 : w3 = (w2.alloc (.cells #[.int .i64 r.1, .slice VA vn vc] 29)).alloc (.cells #[.slice (some ⟨w2.heap.size, 0, none⟩) 1 1, .slice none 0 0, .slice none 0 0] 85)) :
    ∃ An cn w5, (Builtin.append_ #[80, 80] 80 #[.slice Ao i co, .slice (some ⟨w2.heap.size + 1, 0, none⟩) 1 1]).run Try.prog w3 = .ok (.slice An (i + 1) cn) w5 ∧ PtI w w5 (i + 1) An cn (gs ++ [⟨some ⟨w2.heap.size, 0, none⟩, 1, 1, none, 0, 0, none, 0, 0⟩]) rs := by
  have b23 : Below w2.heap.size w2 w3 := by rw [hw3]; exact bt (below_alloc _ _) (below_alloc _ _)
  have zr : Blk w3 w2.heap.size 29 #[.int .i64 r.1, .slice VA vn vc] := by rw [hw3]; exact (Blk.new w2 29 _).alloc _
  have zp : Blk w3 (w2.heap.size + 1) 85 #[.slice (some ⟨w2.heap.size, 0, none⟩) 1 1, .slice none 0 0, .slice none 0 0] := by rw [hw3]; exact blk_new' (w := w2.alloc _) rfl (by simp)
  have hsz3 : w3.heap.size = w2.heap.size + 2 := by rw [hw3]; simp
  have b3 := bt b23 h2
  have ow3 := own_below I.row b3
  have hs2 := h2.size
  have hs0 := I.old.size
  obtain ⟨An, cn, w5, hrun, hown, hg, hnew⟩ := app_some tParts 80 ow3 (by omega) ⟨w2.heap.size + 1, 0, none⟩ 1 1 (by omega) (pcells [⟨some ⟨w2.heap.size, 0, none⟩, 1, 1, none, 0, 0, none, 0, 0⟩]) (pcells_len _) (fun j u hj => by
    rw [add_lit0, zp.cell j]
    simpa [pcells] using hj) pcells_one (by unfold maxLen; omega) (by omega)
  have own_lt : ∀ k, (Value.slice Ao i co).ownBlock = some k → w.heap.size ≤ k ∧ k < wr.heap.size := I.row.lt
  have own_lt' : ∀ k, (Value.slice An (i + 1) cn).ownBlock = some k → w.heap.size ≤ k ∧ k < w5.heap.size := hown.lt
  have keepB : ∀ b, b < w3.heap.size → some b ≠ (Value.slice Ao i co).ownBlock → w5.heap[b]? = w3.heap[b]? := fun b hb hne => hg.block b hb hne
  have newne : ∀ b, b < w3.heap.size → some b ≠ (Value.slice Ao i co).ownBlock → some b ≠ (Value.slice An (i + 1) cn).ownBlock := fun b hb hne e => by
    rcases hnew with hn | hn
    · exact hne (e.trans hn)
    · rw [hn] at e
      injection e with e
      omega
  have b5 : Below w.heap.size w w5 := by
    have h1 := bt b3 I.old
    refine ⟨hg.os.trans h1.os, hg.tape.trans h1.tape, hg.output.trans h1.output, Nat.le_trans h1.size hg.size, fun k hk => ?_⟩
    rw [keepB k (by omega) (fun e => by have := (own_lt k e.symm).1; omega), h1.block k hk]
  refine ⟨An, cn, w5, hrun, b5, by rw [pcells_append]; exact hown, by simp [I.len], fun j e q hj hq => ?_⟩
  by_cases c : j < i
  · rw [List.getElem?_append_left (by rw [I.len]; exact c)] at hj
    obtain ⟨a1, a2, a3, a4, a5, a6, a7⟩ := I.at_ j e q hj hq
    refine ⟨a1, a2, a3, a4, a5, a6, a7.keep (fun b hb hl => ?_) (fun b hb hl => newne b (by omega) hb) (by have := hg.size; omega)⟩
    rw [keepB b (by omega) hb, b3.block b hl]
  · have hj' : j = i := by
      have := (List.getElem?_eq_some_iff.1 hj).1
      rw [List.length_append, I.len] at this
      simp at this; omega
    subst hj'
    rw [List.getElem?_append_right (by rw [I.len]; exact Nat.le_refl _), I.len] at hj
    obtain rfl : (⟨some ⟨w2.heap.size, 0, none⟩, 1, 1, none, 0, 0, none, 0, 0⟩ : ElP) = e := by simpa using hj
    obtain rfl : r = q := Option.some.inj (hr.symm.trans hq)
    have hne2 : some w2.heap.size ≠ (Value.slice Ao j co).ownBlock := fun e => by have := (own_lt _ e.symm).2; omega
    have k5 : w5.heap[w2.heap.size]? = w3.heap[w2.heap.size]? := keepB _ (by omega) hne2
    refine ⟨rfl, rfl, rfl, rfl, rfl, rfl, rfl, fun x u hx => ?_⟩
    match x, hx with
    | 0, hx =>
      obtain rfl : r = u := by simpa using hx
      have zr5 : Blk w5 w2.heap.size 29 #[.int .i64 r.1, .slice VA vn vc] := k5.trans zr
      refine ⟨w2.heap.size, 0, VA, vn, vc, rfl, zr5.lt, newne _ (by omega) hne2, zr5.cell 0, zr5.cell 1, ?_, hvn⟩
      exact (ValsIn.old_keep b5 hv).keep (fun _ _ _ => rfl) (fun b hb _ e => by have := (own_lt' b e.symm).1; omega) (Nat.le_refl _)
    | x + 1, hx => simp at hx

set_option maxRecDepth 100000 in
set_option maxHeartbeats 8000000 in
theorem parts29b (w : World) (tb : ByteArray) (T1 : Option Addr) (t1 u1 : Nat) (T2 : Option Addr) (t2 u2 : Nat) (T3 : Option Addr) (t3 u3 : Nat) (T4 : Option Addr) (t4 u4 : Nat) (T5 : Option Addr) (t5 u5 : Nat) (lim : Int) (RA : Option Addr) (rn rc : Nat) (LA : Option Addr) (ln lc : Nat) (rs : RowL) (hr : RowsAt w RA rn rs) (hn : rn ≤ 1000000) :
    Calls Try.prog 29 #[.agg #[.string tb, .slice T1 t1 u1, .slice T2 t2 u2, .slice T3 t3 u3, .slice T4 t4 u4, .slice T5 t5 u5, .int .i64 lim, .bool false, .slice RA rn rc, .slice LA ln lc]] w (PartsPost (rs.map fun r => [r]) w) := by
  obtain ⟨w1, hw1⟩ : ∃ z, z = w.alloc (.cells #[.string tb, .slice T1 t1 u1, .slice T2 t2 u2, .slice T3 t3 u3, .slice T4 t4 u4, .slice T5 t5 u5, .int .i64 lim, .bool false, .slice RA rn rc, .slice LA ln lc] 79) := ⟨_, rfl⟩
  have Z1 := Lib.hid (show Blk w1 w.heap.size 79 #[.string tb, .slice T1 t1 u1, .slice T2 t2 u2, .slice T3 t3 u3, .slice T4 t4 u4, .slice T5 t5 u5, .int .i64 lim, .bool false, .slice RA rn rc, .slice LA ln lc] by rw [hw1]; exact Blk.new w 79 _)
  have B1 := Lib.hid (show Below w.heap.size w w1 by rw [hw1]; exact below_alloc _ _)
  have HR := Lib.hid (hr.below B1.out)
  have z7 := Z1.out.cell 7
  have z8 := Z1.out.cell 8
  have hs1 := Z1.out.lt
  clear hr
  go_enter Try.func29, Try.ntmps29
  go_upto_region 13 with fail
  rw [← hw1]
  clear hw1
  go_wp2_with fail
  clear z7 z8
  go_loopg [3, 53] rn (fun kx s3 s53 wr => ∃ (i : Nat) (Ao : Option Addr) (co : Nat), s3 = .slice Ao i co ∧ s53 = .int .i64 i ∧ kx + i = rn ∧ Hid ((∃ gs, PtI w1 wr i Ao co gs rs) ∧ (i = 0 → Ao = none ∧ co = 0)))
  case atStart => exact ⟨0, none, 0, rfl, rfl, rfl, Lib.hid ⟨⟨[], PtI.zero w1 rs⟩, fun _ => ⟨rfl, rfl⟩⟩⟩
  case round =>
    obtain ⟨i, Ao, co, rfl, rfl, hk, I⟩ := hrel
    have hi9 : (i : Int) < 1000001 := by omega
    have hi0 : (0 : Int) ≤ (i : Int) := by omega
    obtain ⟨⟨gs, P⟩, hz0⟩ := I.out
    have PP := Lib.hid P
    have HZ0 := Lib.hid hz0
    clear I P hz0
    by_cases hi : i < rn
    · have hiz : (i : Int) < (rn : Int) := by omega
      obtain ⟨r, hr⟩ : ∃ r, rs[i]? = some r := ⟨_, List.getElem?_eq_getElem (by rw [HR.out.len]; exact hi)⟩
      obtain ⟨b, off, VA, vn, vc, rfl, hb, p0, p1, hv, hvn⟩ := HR.out.at_ i r hr
      have hb' := Nat.lt_of_lt_of_le hb PP.out.old.size
      have x0 := (PP.out.old.cell (p := ⟨b, off + i * 2, none⟩) hb).trans p0
      have x1 := (PP.out.old.cell (p := ⟨b, off + i * 2 + 1, none⟩) hb).trans p1
      obtain ⟨An, cn, w5, hrun, hP⟩ := PP.out.step (by omega) hr hv hvn (below_alloc wr (.cells #[.int .i64 r.1, .slice VA vn vc] 29)) rfl
      rw [World.size_alloc] at hrun
      have HRUN := Lib.hid hrun
      have NX := Lib.hid (show (∃ gs, PtI w1 w5 (i + 1) An cn gs rs) ∧ (i + 1 = 0 → An = none ∧ cn = 0) from ⟨⟨_, hP⟩, fun h => by omega⟩)
      go_wp2_with (at_builtin; refine wpList_append_runI _ rfl _ _ 80 80 rfl (.slice Ao i co) (.slice (some ⟨wr.heap.size + 1 + 1, 0, none⟩) 1 1) rfl rfl HRUN.out ?_)
      go_roundg (gk - 1)
      case measure => omega
      case rel => exact ⟨i + 1, An, cn, by first | rfl | (simp; done), by first | rfl | (simp; done), by omega, NX⟩
    · have hiz : ¬ (i : Int) < (rn : Int) := by omega
      obtain rfl : i = rn := by omega
      have HL := Lib.hid HR.out.len
      go_wp2_with fail
      go_ret
      refine ⟨Ao, i, co, gs, rfl, Lib.hid (by rw [List.length_map, HL.out]), Lib.hid HZ0.out, Lib.hid PP.out.len, Lib.hid (own_base PP.out.row fun k hk => Nat.le_trans B1.out.size (PP.out.row.lt k hk).1), Lib.hid (fun j e rr he hrr => ?_), Lib.hid (bt PP.out.old B1.out)⟩
      rw [List.getElem?_map] at hrr
      obtain ⟨r, hr, rfl⟩ := Option.map_eq_some_iff.1 hrr
      exact PP.out.at_ j e r he hr

end Go.Proofs.Ytbcmmecilheicaa

/- What law 23's ExecOrders asks: a column of rows, in order. -/
namespace Go.Proofs.Ytbcmmecilheicaa
open Go Go.RowKit

def colE (k : Nat) : Ex := .mk ⟨#[99, 111, 108]⟩ 0 k Val.null []
theorem col_of (lb : List ByteArray) (k : Nat) (r : Int × List Val) : ofNo lb (colE k) [r] = if r.2.length ≤ k then (Val.null, some 1) else (r.2.getD k Val.null, none) := by
  show evalP ⟨r.1, r.2, lb⟩ (colE k) = _
  unfold colE
  rw [evalP_mk, evo_col]
  by_cases h : r.2.length ≤ k
  · rw [if_pos (.inr (by show (r.2.length : Int) ≤ k; omega)), if_pos h]
  · rw [if_neg (by show ¬ ((k : Int) < 0 ∨ (r.2.length : Int) ≤ k); omega), if_neg h]
    rfl
theorem keep_all (lb : List ByteArray) : ∀ rs : RowL, keepP lb [] rs = (rs, none)
  | [] => rfl
  | r :: rs => by
    rw [keepP, trueP, keep_all lb rs]
    rfl
def valK (k : Nat) (r : Int × List Val) : Val := r.2.getD k Val.null
theorem single_getD {rs : RowL} {p : Nat} (h : p < rs.length) : (rs.map fun r => [r]).getD p [] = [rs[p]] := by
  rw [List.getD_eq_getElem?_getD, List.getElem?_map, List.getElem?_eq_getElem h]
  rfl
theorem tells_long {k : Nat} {d : Bool} {rs : RowL} (h : ∀ r ∈ rs, k < r.2.length) : errL ((rs.map fun r => [r]).map (tellsP (ofNo []) [colE k] [(colE k, d)])).flatten = none := by
  refine errL_flat_none fun u hu => ?_
  obtain ⟨q, hq, rfl⟩ := List.mem_map.1 hu
  obtain ⟨r, hr, rfl⟩ := List.mem_map.1 hq
  have e := col_of [] k r
  rw [if_neg (by have := h r hr; omega)] at e
  simp only [tellsP, List.map_cons, List.map_nil, List.cons_append, List.nil_append, e]
  rfl
theorem ordCmp_one (d : Bool) (a b : Val) : ordCmp [d] [a] [b] = dirCmp d a b := by
  show (if dirCmp d a b ≠ 0 then dirCmp d a b else 0) = _
  by_cases h : dirCmp d a b = 0
  · rw [if_neg (by simpa using h), h]
  · rw [if_pos h]
/-- all rows are long enough -/
theorem orders_long (k : Nat) (d : Bool) (rs : RowL) (h : ∀ r ∈ rs, k < r.2.length) :
    ∃ ms : List Val, queryP (keepP [] [] rs) (rs.map fun r => [r]) (ofNo []) [colE k] [(colE k, d)] (-1) = (ms.map fun v => [v], none) ∧ ms.Perm (rs.map (valK k)) ∧ ∀ i a b, ms[i]? = some a → ms[i + 1]? = some b → dirCmp d a b ≤ 0 := by
  have hk : (keepP [] [] rs).2 = none := by rw [keep_all]
  have hof : ∀ r ∈ rs, ofNo [] (colE k) [r] = (valK k r, none) := fun r hr => by
    rw [col_of, if_neg (by have := h r hr; omega)]
    rfl
  obtain ⟨L, hL⟩ : ∃ L, L = ranksP (ofNo []) [(colE k, d)] (rs.map fun r => [r]) := ⟨_, rfl⟩
  have hlen : (rs.map fun r => [r]).length = rs.length := by rw [List.length_map]
  have hG := ginv_ref (key := fun p => ordP (ofNo []) [(colE k, d)] ((rs.map fun r => [r]).getD p [])) (totO [d]) rs.length
  have hLe : L = (refGroups (ordCmp [d]) (fun p => ordP (ofNo []) [(colE k, d)] ((rs.map fun r => [r]).getD p [])) rs.length).flatten := by
    rw [hL]
    unfold ranksP
    rw [hlen]
    rfl
  have hperm : L.Perm (List.range rs.length) := by rw [hLe]; exact hG.perm (totO [d])
  have hlex := hG.lex
  rw [← hLe] at hlex
  have hkey : ∀ p, p < rs.length → ordP (ofNo []) [(colE k, d)] ((rs.map fun r => [r]).getD p []) = [valK k (rs.getD p (0, []))] := fun p hp => by
    rw [single_getD hp]
    simp only [ordP, List.map_cons, List.map_nil]
    rw [hof _ (List.getElem_mem hp), List.getD_eq_getElem?_getD, List.getElem?_eq_getElem hp]
    rfl
  have hmem : ∀ p ∈ L, p < rs.length := fun p hp => List.mem_range.1 (hperm.mem_iff.1 hp)
  refine ⟨L.map fun p => valK k (rs.getD p (0, [])), ?_, ?_, ?_⟩
  · rw [queryP_ok hk (tells_long h), if_neg (by omega)]
    unfold outsP
    rw [← hL, List.map_map]
    congr 1
    refine List.map_congr_left fun p hp => ?_
    have hp' := hmem p hp
    rw [single_getD hp']
    simp only [itsP, List.map_cons, List.map_nil, Function.comp]
    rw [hof _ (List.getElem_mem hp'), List.getD_eq_getElem?_getD, List.getElem?_eq_getElem hp']
    rfl
  · have e : rs.map (valK k) = (List.range rs.length).map fun p => valK k (rs.getD p (0, [])) := by
      apply List.ext_getElem?
      intro x
      by_cases hx : x < rs.length
      · rw [List.getElem?_map, List.getElem?_map, List.getElem?_range hx, List.getElem?_eq_getElem hx]
        simp only [Option.map_some, List.getD_eq_getElem?_getD, List.getElem?_eq_getElem hx, Option.getD_some]
      · rw [List.getElem?_eq_none (by simp; omega), List.getElem?_eq_none (by simp; omega)]
    rw [e]
    exact hperm.map _
  · intro i a b ha hb
    rw [List.getElem?_map] at ha hb
    obtain ⟨p, hp, rfl⟩ := Option.map_eq_some_iff.1 ha
    obtain ⟨q, hq, rfl⟩ := Option.map_eq_some_iff.1 hb
    obtain ⟨h1, rfl⟩ := List.getElem?_eq_some_iff.1 hp
    obtain ⟨h2, rfl⟩ := List.getElem?_eq_some_iff.1 hq
    have hx := List.pairwise_iff_getElem.1 hlex i (i + 1) h1 h2 (by omega)
    have k1 := hkey _ (hmem _ (List.getElem_mem h1))
    have k2 := hkey _ (hmem _ (List.getElem_mem h2))
    have hle : ordCmp [d] [valK k (rs.getD L[i] (0, []))] [valK k (rs.getD L[i + 1] (0, []))] ≤ 0 := by
      rw [← k1, ← k2]
      rcases hx with hx | ⟨hx, -⟩
      · exact Int.le_of_lt hx
      · exact Int.le_of_eq hx
    rw [ordCmp_one] at hle
    exact hle
/-- a row is short -/
theorem orders_short (k : Nat) (d : Bool) (rs : RowL) (h : ∃ r ∈ rs, r.2.length ≤ k) : queryP (keepP [] [] rs) (rs.map fun r => [r]) (ofNo []) [colE k] [(colE k, d)] (-1) = ([], some 1) := by
  have hk : (keepP [] [] rs).2 = none := by rw [keep_all]
  refine queryP_err hk ?_
  clear hk
  induction rs with
  | nil => obtain ⟨r, hr, -⟩ := h; cases hr
  | cons r rs ih =>
    rw [List.map_cons, List.map_cons, List.flatten_cons, errL_append]
    have e := col_of [] k r
    by_cases hr : r.2.length ≤ k
    · rw [if_pos hr] at e
      simp only [tellsP, List.map_cons, List.map_nil, List.cons_append, List.nil_append, e]
      rfl
    · rw [if_neg hr] at e
      have e2 : errL (tellsP (ofNo []) [colE k] [(colE k, d)] [r]) = none := by
        simp only [tellsP, List.map_cons, List.map_nil, List.cons_append, List.nil_append, e]
        rfl
      rw [e2]
      refine ih ?_
      obtain ⟨q, hq, hq2⟩ := h
      rcases List.mem_cons.1 hq with rfl | hq
      · exact absurd hq2 hr
      · exact ⟨q, hq, hq2⟩

theorem col_no : ∀ y ∈ aggs, ((⟨#[99, 111, 108]⟩ : ByteArray).toList == y.toList) = false := by
  intro y hy
  simp only [aggs, List.mem_cons, List.not_mem_nil, or_false] at hy
  rcases hy with rfl | rfl | rfl | rfl | rfl <;> kernel_rfl
theorem colNo (k : Nat) (W : World) (A : Option Addr) (n c : Nat) (h : ExIs W (colE k) A n c) : AggNo (colE k) A n c W := by
  cases h with
  | mk op kind col v args A n c len small tx b off hA As ns cs cells sub =>
    obtain rfl : 0 = n := len
    exact agg33 W _ 0 k Val.null [] A 0 c 0 0 col_no rfl (by omega) (fun h => by omega) (fun _ => none) (fun _ => 0) (fun _ => 0) (fun j e hj => by simp at hj) (fun j e hj => by simp at hj)

/-- the query of ExecOrders -/
theorem query_orders (W : World) (k : Nat) (d : Bool) (ib io ob oo : Nat) (hib : ib < W.heap.size) (hob : ob < W.heap.size) (hi : ExC W ib io (colE k) none 0 0) (ho : ExC W ob oo (colE k) none 0 0) (hd : W.cell? ⟨ob, oo + 8, none⟩ = some (.bool d)) (RA : Option Addr) (rn rc : Nat) (rs : RowL) (hr : RowsAt W RA rn rs) (hrn : rn ≤ 65536) (htx : RowsTx rs) :
    Calls Try.prog 15 #[.agg #[.string ⟨#[]⟩, .slice none 0 0, .slice (some ⟨ib, io, none⟩) 1 1, .slice none 0 0, .slice none 0 0, .slice (some ⟨ob, oo, none⟩) 1 1, .int .i64 (-1), .bool false], .slice RA rn rc, .slice none 0 0] W
      (QueryPost (queryP (keepP [] [] rs) (rs.map fun r => [r]) (ofNo []) [colE k] [(colE k, d)] (-1)) W) := by
  have hcx : ExIs W (colE k) none 0 0 := leafX W _ _ _ _ (by unfold TB; exact Nat.zero_le _)
  have nil9 : StrsAt W none 0 [] := ⟨rfl, fun j z h => by simp at h⟩
  have hrl := hr.len
  refine query15 W ⟨#[]⟩ none 0 0 (some ⟨ib, io, none⟩) 1 1 none 0 0 none 0 0 (some ⟨ob, oo, none⟩) 1 1 (-1) false RA rn rc none 0 0 rs [] [] hr hrn htx (ExsAt.nil _ _) (by omega) nil9 (fun z h => by simp at h)
    [colE k] [(colE k, d)] ⟨rfl, fun j e hj => ?_⟩ ⟨rfl, fun j e hj => ?_⟩ (by omega) (by omega) (by omega) (by omega) (ofNo []) _ (by rw [List.length_map]; omega)
    (fun W2 A kk c h2 h3 h4 h5 => parts29b W2 _ _ _ _ _ _ _ _ _ _ _ _ _ _ _ _ _ _ _ _ _ _ _ rs (by rw [keep_all] at h3; exact h3) (by omega))
    (fun A kk c x rows hx hrows => ?_)
  · match j, hj with
    | 0, hj => obtain rfl : colE k = e := by simpa using hj
               exact ⟨ib, io, _, _, _, rfl, hib, by rw [Nat.zero_mul, Nat.add_zero]; exact hi, hcx⟩
    | j + 1, hj => simp at hj
  · match j, hj with
    | 0, hj => obtain rfl : (colE k, d) = e := by simpa using hj
               exact ⟨ob, oo, _, _, _, rfl, hob, by rw [Nat.zero_mul, Nat.add_zero]; exact ho, hcx, by rw [Nat.zero_mul, Nat.add_zero]; exact hd⟩
    | j + 1, hj => simp at hj
  · obtain rfl : x = colE k := by simpa using hx
    obtain ⟨r, hrr, rfl⟩ := List.mem_map.1 hrows
    exact of_no W _ _ _ _ _ _ _ _ _ _ _ _ _ _ _ _ _ _ _ _ _ _ _ _ [] nil9 (fun z h => by simp at h) (colE k) (colNo k) [r] (by simp) (fun q hq v hv => by
      obtain rfl : q = r := by simpa using hq
      exact htx q hrr v hv)

end Go.Proofs.Ytbcmmecilheicaa
