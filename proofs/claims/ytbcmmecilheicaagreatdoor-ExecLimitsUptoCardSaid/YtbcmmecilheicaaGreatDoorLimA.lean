/- ExecLimits' plain laws: a limit tells the begin; counts by groups add up to the rows. What law 23's sure asks: a sum over two rows, in one part. exec.Query of every query that is well formed. ExecLimits: an error's number, values value by value, list by list. law 23's sure. -/
import Derived.Test.YtbcmmecilheicaaGreatDoorAgC
import Derived.Test.YtbcmmecilheicaaGreatDoorPagA
import Derived.Test.YtbcmmecilheicaaGreatDoorQryM
import Derived.Test.YtbcmmecilheicaaGreatDoorQ18
import Derived.Test.YtbcmmecilheicaaGreatDoorSnA
import Derived.Deep.RegionLaw

/- ExecLimits' plain laws: a limit tells the begin; counts by groups add up to the rows. -/
namespace Go.Proofs.YtbcmmecilheicaaGreatDoor
open Go Go.RowKit

theorem queryP_lim (kept : RowL × Option Int) (ps : List RowL) (ofV : Ex → RowL → Res) (items : List Ex) (ords : List (Ex × Bool)) (n : Nat) :
  queryP kept ps ofV items ords (n : Int) = ((queryP kept ps ofV items ords (-1)).1.take n, (queryP kept ps ofV items ords (-1)).2) := by
 cases h : kept.2 with
 | some er => rw [queryP_keep h, queryP_keep h]; simp
 | none =>
  cases he : errL (ps.map (tellsP ofV items ords)).flatten with
  | some er => rw [queryP_err h he, queryP_err h he]; simp
  | none => rw [queryP_ok h he, queryP_ok h he, if_pos (by omega), if_neg (by omega)]; simp

def rowsEx : Ex := .mk ⟨#[114, 111, 119, 115]⟩ 1 0 Val.null []
theorem rows_ar : ArOk rowsEx := .mk _ _ _ _ _ (fun _ => .inl rfl) (fun j e h => by simp at h)
theorem ofF_rows (lb : List ByteArray) (rs : RowL) : ofF lb rowsEx rs = (Val.ofInt rs.length, none) := by
 have h1 : isIn ⟨#[114, 111, 119, 115]⟩ aggs = true := by kernel_rfl
 have h2 : fillP lb rs rowsEx = (litEx 1 (Val.ofInt rs.length), none) := by
  unfold rowsEx
  rw [fillP_mk, if_neg (by rw [h1]; simp), if_pos h1]
  rfl
 unfold ofF
 rw [h2]
 show evalP _ (litEx 1 _) = _
 rw [lit_eval]
theorem ord_nil (f : Nat → List Val) : ∀ n, refGroups (ordCmp []) f n = if n = 0 then [] else [List.range n]
 | 0 => rfl
 | n + 1 => by
  rw [refGroups, ord_nil f n]
  by_cases h : n = 0
  ·subst h; rfl
  ·rw [if_neg h, if_neg (Nat.succ_ne_zero n)]
   simp [refStep, lowG, ordCmp, List.range_succ]
theorem outs_nil (ofV : Ex → RowL → Res) (items : List Ex) (ps : List RowL) : outsP ofV items [] ps = ps.map (itsP ofV items) := by
 unfold outsP ranksP
 have e : (refGroups (ordCmp (([] : List (Ex × Bool)).map (·.2))) (fun p => ordP ofV [] (ps.getD p [])) ps.length).flatten = List.range ps.length := by
  show (refGroups (ordCmp []) _ _).flatten = _
  rw [ord_nil]
  split
  ·rename_i h; rw [h]; rfl
  ·simp
 rw [e]
 refine List.ext_getElem (by simp) fun i h1 h2 => ?_
 simp
 congr 1
 rw [List.getElem?_eq_getElem (by simpa using h2)]; rfl
/-- what counts add up to -/
def cntL (l : List (List Val)) : Int := (l.map fun v => (v.headD Val.null).int).sum
def cnts (ps : List RowL) : List (List Val) := ps.map fun rs => [Val.ofInt rs.length]
theorem count_query (lb : List ByteArray) (kept : RowL × Option Int) (ps : List RowL) (h : kept.2 = none) : queryP kept ps (ofF lb) [rowsEx] [] (-1) = (cnts ps, none) := by
 have he : errL (ps.map (tellsP (ofF lb) [rowsEx] [])).flatten = none := errL_flat_none fun u hu => by
  obtain ⟨x, -, rfl⟩ := List.mem_map.1 hu
  simp only [tellsP, List.map_cons, List.map_nil, List.append_nil, ofF_rows]
  rfl
 rw [queryP_ok h he, if_neg (by omega), outs_nil]
 unfold cnts
 congr 1
 refine List.map_congr_left fun rs _ => ?_
 simp only [itsP, List.map_cons, List.map_nil, ofF_rows]
theorem cntL_cnts : ∀ ps : List RowL, cntL (cnts ps) = ((ps.map List.length).sum : Nat)
 | [] => rfl
 | p :: ps => by
  have ih := cntL_cnts ps
  simp only [cntL, cnts, List.map_cons, List.sum_cons, List.headD_cons, Val.ofInt] at ih ⊢
  rw [ih]; omega
theorem sum_take (l : List Nat) (i : Nat) : (l.take i).sum ≤ l.sum := by
 have h : (l.take i ++ l.drop i).sum = l.sum := by rw [List.take_append_drop]
 rw [List.sum_append] at h; omega
theorem cnt_take (ps : List RowL) (i : Nat) : 0 ≤ cntL ((cnts ps).take i) ∧ cntL ((cnts ps).take i) ≤ ((ps.map List.length).sum : Nat) := by
 have e : (cnts ps).take i = cnts (ps.take i) := by unfold cnts; rw [List.map_take]
 rw [e, cntL_cnts, List.map_take]
 have := sum_take (ps.map List.length) i
 omega
theorem cnt_step {l : List (List Val)} {i : Nat} {v : List Val} (h : l[i]? = some v) : cntL (l.take (i + 1)) = cntL (l.take i) + (v.headD Val.null).int := by
 unfold cntL
 rw [List.take_add_one, h, List.map_append, List.sum_append]; simp
theorem grp_sum (cols : List Int) (rs : RowL) : ((grpParts cols rs).map List.length).sum = rs.length := by
 have h := (ginv_ref (key := keyOf rs cols) totK rs.length).length totK
 rw [List.length_flatten] at h
 unfold grpParts
 rw [List.map_map]
 have e : (List.length ∘ fun g : List Nat => g.map fun j => rs.getD j (0, [])) = List.length := funext fun g => by simp
 rw [e]; exact h
theorem each_out (lb : List ByteArray) (kept : RowL × Option Int) (ps : List RowL) (items : List Ex) (ords : List (Ex × Bool)) (h : (queryP kept ps (ofF lb) items ords (-1)).2 = none) : kept.2 = none ∧ (queryP kept ps (ofF lb) items ords (-1)).1.length = ps.length := by
 cases hk : kept.2 with
 | some er => rw [queryP_keep hk] at h; cases h
 | none =>
  cases he : errL (ps.map (tellsP (ofF lb) items ords)).flatten with
  | some er => rw [queryP_err hk he] at h; cases h
  | none => rw [queryP_ok hk he, if_neg (by omega)]; exact ⟨rfl, outs_len _ _ _ _⟩

end Go.Proofs.YtbcmmecilheicaaGreatDoor

/- What law 23's sure asks: a sum over two rows, in one part. -/
namespace Go.Proofs.YtbcmmecilheicaaGreatDoor
open Go Go.RowKit

/-- all rows as one part -/
theorem parts_one {RA : Option Addr} {rn rc : Nat} {w : World} {e : Ending} {w' : World} {rs : RowL} (hr : RowsAt w RA rn rs) (h : PartOne RA rn rc w e w') : PartsPost [rs] w e w' := by
 obtain ⟨A, c, rfl, hown, hb⟩ := h
 refine ⟨A, 1, c, [⟨RA, rn, rc, none, 0, 0, none, 0, 0⟩], rfl, Lib.hid rfl, Lib.hid (fun h => by omega), Lib.hid rfl, hown, Lib.hid (fun j e rs' he hrs => ?_), hb⟩
 match j, he, hrs with
 | 0, he, hrs =>
  obtain rfl : _ = e := Option.some.inj he
  obtain rfl : rs = rs' := Option.some.inj hrs
  refine ⟨rfl, rfl, rfl, rfl, rfl, rfl, hr.old.keep (fun b hb' _ => hb.out.block b hb') (fun b hb' _ h => ?_) hb.out.size⟩
  have := (hown.out.lt b h.symm).1
  omega
 | j + 1, he, _ => simp at he

abbrev sumB : ByteArray := ⟨#[115, 117, 109]⟩
/-- what runner.of answers of a sum -/
noncomputable def ofSum (lb : List ByteArray) (x : Ex) (rs : RowL) : Res := match x.args with
 | [y] => ofP lb rs (litEx x.kind (sumP lb y rs).1) (sumP lb y rs).2
 | _ => (Val.null, none)
theorem of_sum (w : World) (tb : ByteArray) (T1 : Option Addr) (t1 u1 : Nat) (T2 : Option Addr) (t2 u2 : Nat) (T3 : Option Addr) (t3 u3 : Nat) (T4 : Option Addr) (t4 u4 : Nat) (T5 : Option Addr) (t5 u5 : Nat) (lim : Int) (ag : Bool) (T8 : Option Addr) (t8 u8 : Nat) (LA : Option Addr) (ln lc : Nat)
  (lb : List ByteArray) (hlb : StrsAt w LA ln lb) (hlt : ∀ z ∈ lb, z.size ≤ TB) (kind col : Int) (v : Val) (y : Ex) (rs : RowL) (hn : rs.length ≤ 1000000) (htx : RowsTx rs) :
  OfC (.agg #[.string tb, .slice T1 t1 u1, .slice T2 t2 u2, .slice T3 t3 u3, .slice T4 t4 u4, .slice T5 t5 u5, .int .i64 lim, .bool ag, .slice T8 t8 u8, .slice LA ln lc]) w (ofSum lb) (.mk sumB kind col v [y]) rs := by
 intro W hW RA rn rc i1 n1 c1 i2 n2 c2 A n c hr hx
 cases hx with
 | mk _ _ _ _ _ _ _ _ len small tx b off hA As ns cs cells sub =>
  obtain rfl : 1 = n := len
  obtain ⟨rfl, hb⟩ := hA (by omega)
  have hlb' := hlb.below hW
  have hrl := hr.len
  exact of45 W tb T1 t1 u1 T2 t2 u2 T3 t3 u3 T4 t4 u4 T5 t5 u5 lim ag T8 t8 u8 RA rn rc rs hr (by omega) htx i1 n1 c1 i2 n2 c2 (.mk sumB kind col v [y]) (some ⟨b, off, none⟩) 1 c lb LA ln lc hlb' hlt (litEx kind (sumP lb y rs).1) (sumP lb y rs).2
   (fun W2 h2 => fill_sum W2 RA rn rc rs (hr.below h2) (by omega) htx i1 n1 c1 i2 n2 c2 kind col v b off 1 c (Nat.lt_of_lt_of_le hb h2.size) (by omega) y (As 0) (ns 0) (cs 0) (by have := (cells 0 y rfl).below hb h2; rw [Nat.zero_mul, Nat.add_zero] at this; exact this) ((sub 0 y rfl).bel h2) lb LA ln lc (hlb'.below h2) hlt W.heap.size)

theorem leafX (W : World) (op : ByteArray) (kind col : Int) (v : Val) (tx : v.text.size ≤ TB) : ExIs W (.mk op kind col v []) none 0 0 :=
 .mk op kind col v [] none 0 0 rfl (by unfold TB; omega) tx 0 0 (fun h => by omega) (fun _ => none) (fun _ => 0) (fun _ => 0) (fun j e hj => by simp at hj) (fun j e hj => by simp at hj)
def colX : Ex := .mk ⟨#[99, 111, 108]⟩ 1 0 Val.null []
def sumX : Ex := .mk sumB 1 0 Val.null [colX]
theorem plain_keep : keepP [] [] plainRows = (plainRows, none) := by
 simp only [plainRows, keepP, trueP, if_true]
theorem plain_args : argsP [] colX plainRows = ([⟨1, 1, ⟨#[]⟩, false⟩, ⟨1, 2, ⟨#[]⟩, false⟩], none) := by
 simp only [plainRows, argsP, colX, evalP_mk, evo_col]
 rfl
theorem plain_sum : sumP [] colX plainRows = (⟨1, 3, ⟨#[]⟩, false⟩, none) := by
 unfold sumP
 rw [plain_args]
 show sumL _ _ = _
 rw [sumL]
 have e : reckonP 43 ⟨1, 1, ⟨#[]⟩, false⟩ ⟨1, 2, ⟨#[]⟩, false⟩ = (⟨1, 3, ⟨#[]⟩, false⟩, none) := by
  unfold reckonP
  rw [if_pos (by decide), if_neg (by decide)]
  show (match numP 43 1 2 with | (some er, _) => (Val.null, some er) | (none, n) => (Val.ofInt n, none)) = _
  rw [(numP_spec 43 1 2 (.inl rfl)).2.1 ⟨rfl, by omega, by omega, by omega, by omega⟩]
  rfl
 rw [e]
 rfl
theorem plain_of : ofSum [] sumX plainRows = (⟨1, 3, ⟨#[]⟩, false⟩, none) := by
 show ofP [] plainRows (litEx 1 (sumP [] colX plainRows).1) (sumP [] colX plainRows).2 = _
 rw [plain_sum]
 show evalP _ _ = _
 rw [lit_eval]
theorem plain_query : queryP (keepP [] [] plainRows) [plainRows] (ofSum []) [sumX] [] (-1) = ([[⟨1, 3, ⟨#[]⟩, false⟩]], none) := by
 have he : errL ([plainRows].map (tellsP (ofSum []) [sumX] [])).flatten = none := by
  simp only [List.map_cons, List.map_nil, tellsP, List.append_nil, List.flatten_cons, List.flatten_nil, plain_of]
  rfl
 rw [queryP_ok (by rw [plain_keep]) he, if_neg (by omega)]
 have e : outsP (ofSum []) [sumX] [] [plainRows] = [itsP (ofSum []) [sumX] plainRows] := rfl
 rw [e]
 simp only [itsP, List.map_cons, List.map_nil, plain_of]

end Go.Proofs.YtbcmmecilheicaaGreatDoor

/- exec.Query of every query that is well formed. -/
namespace Go.Proofs.YtbcmmecilheicaaGreatDoor
open Go Go.RowKit

theorem keepP_sub (lb : List ByteArray) (wh : List Ex) : ∀ rs : RowL, (keepP lb wh rs).1.length ≤ rs.length ∧ ∀ r ∈ (keepP lb wh rs).1, r ∈ rs
 | [] => by rw [keepP]; simp
 | r :: rs => by
  have ih := keepP_sub lb wh rs
  rw [keepP]
  rcases trueP ⟨r.1, r.2, lb⟩ wh with ⟨q, e⟩
  cases e with
  | some er => simp
  | none =>
   rcases hk : keepP lb wh rs with ⟨l, e2⟩
   rw [hk] at ih
   simp only [] at ih
   cases e2 with
   | some e => simp
   | none =>
    cases q with
    | false => exact ⟨by simp only [List.length_cons]; exact Nat.le_succ_of_le ih.1, fun x hx => List.mem_cons_of_mem _ (ih.2 x (by simpa using hx))⟩
    | true => exact ⟨by simpa using ih.1, fun x hx => by
      rcases List.mem_cons.1 (by simpa using hx) with h | h
      ·rw [h]; exact List.mem_cons_self
      ·exact List.mem_cons_of_mem _ (ih.2 x h)⟩
/-- the parts that a query tells of -/
noncomputable def psOf (ag : Bool) (gr : List Int) (krs : RowL) : List RowL := if ag = false then krs.map (fun r => [r]) else if gr = [] then [krs] else grpParts gr krs
theorem grp_few (cols : List Int) (rs : RowL) : (grpParts cols rs).length ≤ rs.length ∧ ∀ p ∈ grpParts cols rs, p.length ≤ rs.length := by
 have G := ginv_ref (key := keyOf rs cols) totK rs.length
 have hl := G.length totK
 unfold grpParts
 refine ⟨?_, fun p hp => ?_⟩
 ·rw [List.length_map]
  have h := G.grp totK
  rw [← h]
  exact grpF_le _ _ _ (by rw [hl]; exact Nat.le_refl _)
 ·obtain ⟨g, hg, rfl⟩ := List.mem_map.1 hp
  rw [List.length_map]
  obtain ⟨a, b, e⟩ := List.append_of_mem hg
  have hx : g.length ≤ (refGroups keyCmp (keyOf rs cols) rs.length).flatten.length := by rw [e]; simp; omega
  omega
theorem psOf_ok (ag : Bool) (gr : List Int) {krs : RowL} (hk : krs.length ≤ 500) (ht : RowsTx krs) : (psOf ag gr krs).length ≤ 65536 ∧ ∀ p ∈ psOf ag gr krs, p.length ≤ 1000000 ∧ RowsTx p := by
 unfold psOf
 split
 ·refine ⟨by rw [List.length_map]; omega, fun p hp => ?_⟩
  obtain ⟨r, hr, rfl⟩ := List.mem_map.1 hp
  exact ⟨by simp, fun x hx v hv => by
   obtain rfl : x = r := by simpa using hx
   exact ht x hr v hv⟩
 ·split
  ·refine ⟨by simp, fun p hp => ?_⟩
   obtain rfl : p = krs := by simpa using hp
   exact ⟨by omega, ht⟩
  ·obtain ⟨h1, h2⟩ := grp_few gr krs
   refine ⟨by omega, fun p hp => ⟨by have := h2 p hp; omega, fun x hx v hv => ?_⟩⟩
   obtain ⟨g, hg, rfl⟩ := List.mem_map.1 (show p ∈ (refGroups keyCmp (keyOf krs gr) krs.length).map (fun g => g.map fun j => krs.getD j (0, [])) from hp)
   obtain ⟨j, hj, rfl⟩ := List.mem_map.1 hx
   rw [List.getD_eq_getElem?_getD] at hv
   cases hc : krs[j]? with
   | none => rw [hc] at hv; simp at hv
   | some r => rw [hc] at hv; exact ht r (List.mem_of_getElem? hc) v hv
theorem psOf_each (gr : List Int) (krs : RowL) : (psOf false gr krs).length = krs.length := by unfold psOf; simp
theorem psOf_sum (gr : List Int) (krs : RowL) : ((psOf true gr krs).map List.length).sum = krs.length := by
 unfold psOf
 rw [if_neg (by simp)]
 split
 ·simp
 ·exact grp_sum gr krs

theorem queryL (w : World) (tb : ByteArray) (l : QL) (lim : Int) (ag : Bool) (q : Qu) {S : Nat → Prop} (hq : QuOut w S q l) (arI : ∀ e ∈ q.its, ArOk e) (arO : ∀ e ∈ q.ords, ArOk e.1) (RA : Option Addr) (rn rc : Nat) (rs : RowL) (hr : RowsAt w RA rn rs) (hrn : rn ≤ 500) (htx : RowsTx rs) (LA : Option Addr) (ln lc : Nat) (lb : List ByteArray) (hlb : StrsAt w LA ln lb) (hlt : ∀ z ∈ lb, z.size ≤ TB) (h0 : -9223372036854775808 ≤ lim) (h1 : lim ≤ 9223372036854775807) :
  Calls Tryz.prog 19 #[.agg (qCells tb l lim ag), .slice RA rn rc, .slice LA ln lc] w (QueryPost (queryP (keepP lb q.wh rs) (psOf ag q.gr (keepP lb q.wh rs).1) (ofF lb) q.its q.ords lim) w) := by
 obtain ⟨T1, t1, u1, IA, n1, u2, WA, wn, wc, GA, gn, gc, OA, n2, u5⟩ := l
 have hk := keepP_sub lb q.wh rs
 have hrl := hr.len
 have hkr : (keepP lb q.wh rs).1.length ≤ 500 := by omega
 have htk : RowsTx (keepP lb q.wh rs).1 := fun r hr' v hv => htx r (hk.2 r hr') v hv
 have hps := psOf_ok ag q.gr hkr htk
 have hn1 : n1 ≤ 1048576 := hq.n1
 have hn2 : n2 ≤ 1048576 := hq.n2
 have hwn : wn ≤ 1048576 := hq.wn
 have hgn : gn ≤ 1048576 := hq.gn
 refine query15 w tb T1 t1 u1 IA n1 u2 WA wn wc GA gn gc OA n2 u5 lim ag RA rn rc LA ln lc rs lb q.wh hr (by omega) htx hq.wh.is (by omega) hlb hlt q.its q.ords hq.its.is hq.ords.is (by omega) (by omega) h0 h1 (ofF lb) (psOf ag q.gr (keepP lb q.wh rs).1) hps.1 ?_ ?_
 ·intro W A k c hW hrk hkc hkr'
  cases ag with
  | false => exact parts29b W tb T1 t1 u1 IA n1 u2 WA wn wc GA gn gc OA n2 u5 lim A k c LA ln lc _ hrk (by omega)
  | true =>
   have hg := (ints_of hq.gr).below hW
   by_cases hgr : q.gr = []
   ·have e0 : gn = 0 := by have := hg.len; rw [hgr] at this; exact this.symm
    subst e0
    have e : psOf true q.gr (keepP lb q.wh rs).1 = [(keepP lb q.wh rs).1] := by unfold psOf; rw [if_neg (by simp), if_pos hgr]
    rw [e]
    exact (parts29a W tb T1 t1 u1 IA n1 u2 WA wn wc GA gc OA n2 u5 lim A k c LA ln lc).mono fun e w' h => parts_one hrk h
   ·have e : psOf true q.gr (keepP lb q.wh rs).1 = grpParts q.gr (keepP lb q.wh rs).1 := by unfold psOf; rw [if_neg (by simp), if_neg hgr]
    rw [e]
    exact parts56g W tb T1 t1 u1 IA n1 u2 WA wn wc GA gn gc OA n2 u5 lim A k c LA ln lc _ hrk (by omega) q.gr hg (by
     rcases Nat.eq_zero_or_pos gn with h | h
     ·have hgl : q.gr.length = gn := hg.len
      exact absurd (List.eq_nil_of_length_eq_zero (by omega)) hgr
     ·exact h) hgn
 ·intro A k c x rows hx hrows
  exact of_fill w tb T1 t1 u1 IA n1 u2 WA wn wc GA gn gc OA n2 u5 lim ag A k c LA ln lc lb hlb hlt x (by
   rcases hx with h | h
   ·exact arI x h
   ·obtain ⟨o, ho, rfl⟩ := List.mem_map.1 h
    exact arO o ho) rows (hps.2 rows hrows).1 (hps.2 rows hrows).2

end Go.Proofs.YtbcmmecilheicaaGreatDoor

/- ExecLimits: an error's number, values value by value, list by list. -/
namespace Go.Proofs.YtbcmmecilheicaaGreatDoor
open Go Go.RowKit

set_option maxRecDepth 100000 in
set_option maxHeartbeats 2000000 in
theorem num21 (w : World) (hg : ErrT w) (er : Int) : Calls Tryz.prog 21 #[.iface 111 (.int .i64 er)] w fun e w' => e = .returned (.int .i64 er) ∧ Hid (Below w.heap.size w w') := by
 have hlt := hg.lt
 have hg1 : ErrT (w.alloc (.cells #[.int .i64 0] 111)) := by
  show World.cell? _ _ = _
  rw [World.cell?_alloc_lt _ _ ⟨0, 0, none⟩ hlt]; exact hg
 have hc := as_hit er ⟨w.heap.size, 0, none⟩ (.int .i64 0) (w.alloc (.cells #[.int .i64 0] 111)) hg1 (by simp) (by simp)
 go_enter Tryz.func21, Tryz.ntmps21
 go_wp2_with (go_at_call 43; refine hc.mono ?_; rintro e w' ⟨rfl, rfl⟩)
 go_ret
 exact ⟨rfl, Lib.hid (by go_grown)⟩
theorem num21n (w : World) : Calls Tryz.prog 21 #[.nilIface] w fun e w' => e = .returned (.int .i64 0) ∧ Hid (Below w.heap.size w w') := by
 go_enter Tryz.func21, Tryz.ntmps21
 go_wp2
 go_ret
 exact ⟨rfl, Lib.hid (by go_grown)⟩
def numO : Option Int → Int
 | none => 0
 | some er => er
theorem numV (w : World) (hg : ErrT w) (r : Option Int) : Calls Tryz.prog 21 #[errV r] w fun e w' => e = .returned (.int .i64 (numO r)) ∧ Hid (Below w.heap.size w w') := by
 cases r with
 | none => exact num21n w
 | some er => exact num21 w hg er

theorem neq_same (W : World) (u : Val) : (binOp BinOp.neq 26 (.agg #[.int .i64 u.kind, .int .i64 u.int, .string u.text, .bool u.bool]) (.agg #[.int .i64 u.kind, .int .i64 u.int, .string u.text, .bool u.bool])).run Tryz.prog W = .ok (.bool false) W := by
 rw [neq26]; simp [Val.eqB]
set_option maxRecDepth 100000 in
set_option maxHeartbeats 4000000 in
theorem values31 (w : World) (A B : Option Addr) (n ca cb : Nat) (l : List Val) (ha : ValsAt w A n l) (hb : ValsAt w B n l) (hn : n ≤ 1466015503701) : Calls Tryz.prog 31 #[.slice A n ca, .slice B n cb] w fun e w' => e = .returned (.bool true) ∧ Hid (Below w.heap.size w w') := by
 have HA := Lib.hid ha
 have HB := Lib.hid hb
 clear ha hb
 go_enter Tryz.func31, Tryz.ntmps31
 go_wp2_with fail
 go_loopg [5] n (fun kx s5 wr => ∃ i : Nat, s5 = .int .i64 i ∧ kx + i = n ∧ Hid (Below w.heap.size w wr))
 case atStart => exact ⟨0, rfl, rfl, Lib.hid (Below.refl _ _)⟩
 case round =>
  obtain ⟨i, rfl, hk, BR⟩ := hrel
  have hi9 : (i : Int) < 1466015503702 := by omega
  have hi0 : (0 : Int) ≤ (i : Int) := by omega
  by_cases hi : i < n
  ·have hiz : (i : Int) < (n : Int) := by omega
   obtain ⟨u, hu⟩ : ∃ u, l[i]? = some u := ⟨_, List.getElem?_eq_getElem (by rw [HA.out.len]; exact hi)⟩
   obtain ⟨ab, ao, rfl, hab, u0, u1, u2, u3⟩ := (HA.out.below BR.out).at_ i u hu
   obtain ⟨bb, bo, rfl, hbb, v0, v1, v2, v3⟩ := (HB.out.below BR.out).at_ i u hu
   have he := fun W => neq_same W u
   clear hu
   go_wp2_with fail
   go_quiet (fail)
   clear u0 u1 u2 u3 v0 v1 v2 v3 he
   go_wp2_with fail
   go_roundg (gk - 1)
   case measure => omega
   case rel => exact ⟨i + 1, by first | rfl | (simp; done), by omega, Lib.hid (bt (below_drewN _ _) BR.out)⟩
  ·have hiz : ¬ (i : Int) < (n : Int) := by omega
   obtain rfl : i = n := by omega
   go_wp2_with fail
   go_ret
   exact ⟨rfl, BR⟩
set_option maxRecDepth 100000 in
set_option maxHeartbeats 4000000 in
theorem lists22 (w : World) (A B : Option Addr) (n ca cb : Nat) (ls : List (List Val)) (ha : ValssAt w A n ls) (hb : ValssAt w B n ls) (hn : n ≤ 1466015503701) (hs : ∀ v ∈ ls, v.length ≤ 1466015503701) : Calls Tryz.prog 22 #[.slice A n ca, .slice B n cb] w fun e w' => e = .returned (.bool true) ∧ Hid (Below w.heap.size w w') := by
 have HA := Lib.hid ha
 have HB := Lib.hid hb
 have HS := Lib.hid hs
 clear ha hb hs
 go_enter Tryz.func22, Tryz.ntmps22
 go_wp2_with fail
 go_loopg [5] n (fun kx s5 wr => ∃ i : Nat, s5 = .int .i64 i ∧ kx + i = n ∧ Hid (Below w.heap.size w wr))
 case atStart => exact ⟨0, rfl, rfl, Lib.hid (Below.refl _ _)⟩
 case round =>
  obtain ⟨i, rfl, hk, BR⟩ := hrel
  have hi9 : (i : Int) < 1466015503702 := by omega
  have hi0 : (0 : Int) ≤ (i : Int) := by omega
  by_cases hi : i < n
  ·have hiz : (i : Int) < (n : Int) := by omega
   obtain ⟨u, hu⟩ : ∃ u, ls[i]? = some u := ⟨_, List.getElem?_eq_getElem (by rw [HA.out.len]; exact hi)⟩
   obtain ⟨ab, ao, UA, m, uc, rfl, hab, u0, hua⟩ := (HA.out.below BR.out).at_ i u hu
   obtain ⟨bb, bo, VA, m', vc, rfl, hbb, v0, hva⟩ := (HB.out.below BR.out).at_ i u hu
   obtain rfl : u.length = m := hua.len
   obtain rfl : u.length = m' := hva.len
   have hul := HS.out u (List.mem_of_getElem? hu)
   have CV := Lib.hid (fun (W : World) (h : Below wr.heap.size wr W) => values31 W UA VA u.length uc vc u (hua.below h) (hva.below h) hul)
   obtain ⟨m, hm⟩ : ∃ m, m = u.length := ⟨_, rfl⟩
   rw [← hm] at CV u0 v0
   clear hu hua hva hul hm
   go_upto_region 6 with fail
   go_cut [26] from 17 to 27 (fun s26 wx => s26 = .bool false ∧ Hid (Below wr.heap.size wr wx))
   case first =>
    go_region_law (first | (go_simp; go_at_call 31; refine (CV.out _ (below_drew wr)).mono ?_; rintro e w5 ⟨rfl, hb5⟩))
    all_goals
     go_wp2_with fail
     go_meet
     case rel => exact ⟨rfl, Lib.hid (bt hb5.out (below_drew wr))⟩
   case rest =>
    obtain ⟨rfl, HB⟩ := hcut
    clear u0 v0 CV
    go_wp2_with fail
    go_roundg (gk - 1)
    case measure => omega
    case rel => exact ⟨i + 1, by first | rfl | (simp; done), by omega, Lib.hid (bt HB.out BR.out)⟩
  ·have hiz : ¬ (i : Int) < (n : Int) := by omega
   obtain rfl : i = n := by omega
   go_wp2_with fail
   go_ret
   exact ⟨rfl, BR⟩
/-- rows that are few, not wide -/
def WidePost (tn rn : Nat) (rs : RowL) (w : World) (e : Ending) (w' : World) : Prop := ∃ b : Bool, e = .returned (.bool b) ∧ Hid (b = false → 0 < tn ∧ rn ≤ 500 ∧ ∀ r ∈ rs, r.2.length ≤ 100) ∧ Hid (Below w.heap.size w w')
set_option maxRecDepth 100000 in
set_option maxHeartbeats 4000000 in
theorem wide14 (w : World) (TA : Option Addr) (tn tc : Nat) (RA : Option Addr) (rn rc : Nat) (LA : Option Addr) (ln lc : Nat) (rs : RowL) (hr : RowsAt w RA rn rs) : Calls Tryz.prog 14 #[.agg #[.slice TA tn tc, .slice RA rn rc, .slice LA ln lc]] w (WidePost tn rn rs w) := by
 have HR := Lib.hid hr
 clear hr
 obtain ⟨w1, hw1⟩ : ∃ z, z = w.alloc (.cells #[.slice TA tn tc, .slice RA rn rc, .slice LA ln lc] 62) := ⟨_, rfl⟩
 have B1 := Lib.hid (show Below w.heap.size w w1 by rw [hw1]; exact below_alloc _ _)
 have Z1 := Lib.hid (show Blk w1 w.heap.size 62 #[.slice TA tn tc, .slice RA rn rc, .slice LA ln lc] by rw [hw1]; exact Blk.new w 62 _)
 have z0 := Z1.out.cell 0
 have z1 := Z1.out.cell 1
 have hl := Z1.out.lt
 by_cases h0 : tn = 0
 ·subst h0
  go_enter Tryz.func14, Tryz.ntmps14
  go_upto_region 1 with fail
  rw [← hw1]
  clear hw1
  go_wp2_with fail
  go_ret
  exact ⟨true, rfl, Lib.hid (fun h => by cases h), B1⟩
 ·have h1 : ((tn : Int) == 0) = false := by simp; omega
  have h2 : (tn == 0) = false := by simp; omega
  have h3 : ¬ (tn : Int) = 0 := by omega
  by_cases h5 : 500 < rn
  ·have h6 : (500 : Int) < (rn : Int) := by omega
   go_enter Tryz.func14, Tryz.ntmps14
   go_upto_region 1 with fail
   rw [← hw1]
   clear hw1
   go_wp2_with fail
   go_ret
   exact ⟨true, rfl, Lib.hid (fun h => by cases h), B1⟩
  ·have h6 : ¬ (500 : Int) < (rn : Int) := by omega
   have h7 : decide ((500 : Int) < (rn : Int)) = false := decide_eq_false h6
   have hrn : (rn : Int) ≤ 500 := by omega
   have H0 := Lib.hid h0
   clear h0
   go_enter Tryz.func14, Tryz.ntmps14
   go_upto_region 1 with fail
   rw [← hw1]
   clear hw1
   go_wp2_with fail
   clear h1 h2 h3 h5 h6 h7
   go_loopg [3] rn (fun kx s3 wr => ∃ i : Nat, s3 = .int .i64 i ∧ kx + i = rn ∧ Hid (∀ j r, j < i → rs[j]? = some r → r.2.length ≤ 100) ∧ wr = w1)
   case atStart => exact ⟨0, rfl, rfl, Lib.hid (fun j r h => absurd h (Nat.not_lt_zero _)), rfl⟩
   case round =>
    obtain ⟨i, rfl, hk, HI, rfl⟩ := hrel
    rename World => w1
    have hi9 : (i : Int) ≤ 500 := by omega
    have hi0 : (0 : Int) ≤ (i : Int) := by omega
    by_cases hi : i < rn
    ·have hiz : (i : Int) < (rn : Int) := by omega
     obtain ⟨r, hr⟩ : ∃ r, rs[i]? = some r := ⟨_, List.getElem?_eq_getElem (by rw [HR.out.len]; exact hi)⟩
     obtain ⟨b, off, VA, vn, vc, rfl, hb, p0, p1, hv, hvn⟩ := (HR.out.below B1.out).at_ i r hr
     have hlen := hv.len
     by_cases hv : 100 < vn
     ·have hvz : (100 : Int) < (vn : Int) := by omega
      clear p0 hr hlen
      go_wp2_with fail
      go_ret
      exact ⟨true, rfl, Lib.hid (fun h => by cases h), B1⟩
     ·have hvz : ¬ (100 : Int) < (vn : Int) := by omega
      have NX := Lib.hid (show ∀ j r, j < i + 1 → rs[j]? = some r → r.2.length ≤ 100 from fun j r' hj hr' => by
       rcases Nat.lt_or_ge j i with h | h
       ·exact HI.out j r' h hr'
       ·obtain rfl : i = j := by omega
        obtain rfl := Option.some.inj (hr.symm.trans hr')
        omega)
      clear p0 hr hlen HI
      go_wp2_with fail
      go_roundg (gk - 1)
      case measure => omega
      case rel => exact ⟨i + 1, by first | rfl | (simp; done), by omega, NX, rfl⟩
    ·have hiz : ¬ (i : Int) < (rn : Int) := by omega
     obtain rfl : i = rn := by omega
     go_wp2_with fail
     go_ret
     exact ⟨false, rfl, Lib.hid (fun _ => ⟨by have := H0.out; omega, by omega, fun r hr => by
      obtain ⟨j, hj⟩ := List.getElem?_of_mem hr
      exact HI.out j r (by rw [← HR.out.len]; exact (List.getElem?_eq_some_iff.1 hj).1) hj⟩), B1⟩

end Go.Proofs.YtbcmmecilheicaaGreatDoor

/- law 23's sure. -/
namespace Go.Proofs.YtbcmmecilheicaaGreatDoor
open Go Go.RowKit

def surePost (w : World) (e : Ending) (w' : World) : Prop := ∃ (b off B2 off2 n c m c2 : Nat), e = .returned (.tuple #[.slice (some ⟨b, off, none⟩) n c, .nilIface]) ∧ n = 1 ∧ m = 1 ∧ b < w'.heap.size ∧ B2 < w'.heap.size ∧ Hid (w'.cell? ⟨b, off, none⟩ = some (.slice (some ⟨B2, off2, none⟩) m c2)) ∧ Hid (ValC w' B2 off2 ⟨1, 3, ⟨#[]⟩, false⟩) ∧ Hid (Below w.heap.size w w')
theorem valss_one {W : World} {A : Option Addr} {n : Nat} {v : Val} (h : ValssAt W A n [[v]]) : n = 1 ∧ ∃ b off B2 off2 c2, A = some ⟨b, off, none⟩ ∧ b < W.heap.size ∧ B2 < W.heap.size ∧ W.cell? ⟨b, off, none⟩ = some (.slice (some ⟨B2, off2, none⟩) 1 c2) ∧ ValC W B2 off2 v := by
 refine ⟨h.len.symm, ?_⟩
 obtain ⟨b, off, B, m, c, e, hb, hc, hv⟩ := h.at_ 0 [v] rfl
 obtain ⟨b2, off2, e2, hb2, hx⟩ := hv.at_ 0 v rfl
 obtain rfl : 1 = m := hv.len
 rw [e2] at hc
 rw [Nat.zero_mul, Nat.add_zero] at hx
 exact ⟨b, off, b2, off2, c, e, hb, hb2, hc, hx⟩
/-- the query of sure -/
theorem query_sure (W : World) (ib io : Nat) (cb co : Nat) (hi : ExC W ib io sumX (some ⟨cb, co, none⟩) 1 1) (hib : ib < W.heap.size) (hc : ExC W cb co colX none 0 0) (hcb : cb < W.heap.size) (RA : Option Addr) (rc : Nat) (hr : RowsAt W RA 2 plainRows) :
  Calls Tryz.prog 19 #[.agg #[.string ⟨#[]⟩, .slice none 0 0, .slice (some ⟨ib, io, none⟩) 1 1, .slice none 0 0, .slice none 0 0, .slice none 0 0, .int .i64 (-1), .bool true], .slice RA 2 rc, .slice none 0 0] W (surePost W) := by
 have hcx : ExIs W colX none 0 0 := leafX W _ _ _ _ (by unfold TB; exact Nat.zero_le _)
 have hsx : ExIs W sumX (some ⟨cb, co, none⟩) 1 1 := .mk _ 1 0 Val.null [colX] _ 1 1 rfl (by unfold TB; omega) (by unfold TB; exact Nat.zero_le _) cb co (fun _ => ⟨rfl, hcb⟩) (fun _ => none) (fun _ => 0) (fun _ => 0) (fun j e hj => by
  match j, hj with
  | 0, hj => obtain rfl : colX = e := by simpa using hj
             rw [Nat.zero_mul, Nat.add_zero]; exact hc
  | j + 1, hj => simp at hj) (fun j e hj => by
  match j, hj with
  | 0, hj => obtain rfl : colX = e := by simpa using hj
             exact hcx
  | j + 1, hj => simp at hj)
 have nil9 : StrsAt W none 0 [] := ⟨rfl, fun j z h => by simp at h⟩
 have key := query15 W ⟨#[]⟩ none 0 0 (some ⟨ib, io, none⟩) 1 1 none 0 0 none 0 0 none 0 0 (-1) true RA 2 rc none 0 0 plainRows [] [] hr (by omega) plain_tx (ExsAt.nil _ _) (by omega) nil9 (fun z h => by simp at h)
  [sumX] [] ⟨rfl, fun j e hj => by
   match j, hj with
   | 0, hj => obtain rfl : sumX = e := by simpa using hj
              exact ⟨ib, io, _, _, _, rfl, hib, by rw [Nat.zero_mul, Nat.add_zero]; exact hi, hsx⟩
   | j + 1, hj => simp at hj⟩ (OrdsAt.nil _ _) (by omega) (by omega) (by omega) (by omega) (ofSum []) [plainRows] (by simp)
  (fun W2 A k c h2 h3 _ _ => (parts29a W2 _ _ _ _ _ _ _ _ _ _ _ _ _ _ _ _ _ _ _ _ _ _).mono fun e w' h => parts_one (by rw [plain_keep] at h3; exact h3) h)
  (fun A k c x rows hx hrows => by
   obtain rfl : x = sumX := by simpa using hx
   obtain rfl : rows = plainRows := by simpa using hrows
   exact of_sum W _ _ _ _ _ _ _ _ _ _ _ _ _ _ _ _ _ _ _ _ _ _ _ _ [] nil9 (fun z h => by simp at h) 1 0 Val.null colX plainRows (by simp [plainRows]) plain_tx)
 refine key.mono ?_
 rintro e w' ⟨A, n, c, rfl, hv, hb, -⟩
 rw [plain_query] at hv
 obtain ⟨rfl, b, off, B2, off2, c2, rfl, h1, h2, h3, h4⟩ := valss_one hv.out
 exact ⟨b, off, B2, off2, 1, c, 1, c2, by rw [plain_query]; rfl, rfl, rfl, h1, h2, Lib.hid h3, Lib.hid h4, hb⟩
theorem eql23S (W : World) : (binOp BinOp.eql 26 (.agg #[.int .i64 1, .int .i64 3, .string ⟨#[]⟩, .bool false]) (.agg #[.int .i64 1, .int .i64 3, .string ⟨#[]⟩, .bool false])).run Tryz.prog W = .ok (.bool true) W := by kernel_rfl

set_option maxRecDepth 100000 in
set_option maxHeartbeats 8000000 in
theorem sure10 (w : World) : Calls Tryz.prog 16 #[] w fun e w' => e = .returned (.bool true) ∧ Hid (Below w.heap.size w w') := by
 obtain ⟨W1, hW1⟩ : ∃ y, y = ((w.alloc (.cells #[.string ⟨#[99, 111, 108]⟩, .int .i64 1, .int .i64 0, .int .i64 0, .int .i64 0, .string ⟨#[]⟩, .bool false, .slice none 0 0] 51)).alloc (.cells #[.string ⟨#[115, 117, 109]⟩, .int .i64 1, .int .i64 0, .int .i64 0, .int .i64 0, .string ⟨#[]⟩, .bool false, .slice (some ⟨w.heap.size, 0, none⟩) 1 1] 51)).alloc (.cells #[.string ⟨#[]⟩, .slice none 0 0, .slice (some ⟨w.heap.size + 1, 0, none⟩) 1 1, .slice none 0 0, .slice none 0 0, .slice none 0 0, .int .i64 (-1), .bool true] 74) := ⟨_, rfl⟩
 have ZC := Lib.hid (show Blk W1 w.heap.size 51 #[.string ⟨#[99, 111, 108]⟩, .int .i64 1, .int .i64 0, .int .i64 0, .int .i64 0, .string ⟨#[]⟩, .bool false, .slice none 0 0] by rw [hW1]; exact ((Blk.new w 51 _).alloc _).alloc _)
 have ZS := Lib.hid (show Blk W1 (w.heap.size + 1) 51 #[.string ⟨#[115, 117, 109]⟩, .int .i64 1, .int .i64 0, .int .i64 0, .int .i64 0, .string ⟨#[]⟩, .bool false, .slice (some ⟨w.heap.size, 0, none⟩) 1 1] by rw [hW1]; exact (blk_new' (w := w.alloc _) rfl (by simp)).alloc _)
 have ZQ := Lib.hid (show Blk W1 (w.heap.size + 1 + 1) 74 #[.string ⟨#[]⟩, .slice none 0 0, .slice (some ⟨w.heap.size + 1, 0, none⟩) 1 1, .slice none 0 0, .slice none 0 0, .slice none 0 0, .int .i64 (-1), .bool true] by rw [hW1]; exact blk_new' (w := (w.alloc _).alloc _) rfl (by simp))
 have BW := Lib.hid (show Below w.heap.size w W1 by rw [hW1]; exact bt (below_alloc _ _) (bt (below_alloc _ _) (below_alloc _ _)))
 have CQ := Lib.hid (fun W2 (h2 : Below W1.heap.size W1 W2) RA rc (hr : RowsAt W2 RA 2 plainRows) => query_sure W2 (w.heap.size + 1) 0 w.heap.size 0
  (have z := ZS.out.below h2; ⟨z.cell 0, z.cell 1, z.cell 2, z.cell 3, z.cell 4, z.cell 5, z.cell 6, z.cell 7⟩) (Nat.lt_of_lt_of_le ZS.out.lt h2.size)
  (have z := ZC.out.below h2; ⟨z.cell 0, z.cell 1, z.cell 2, z.cell 3, z.cell 4, z.cell 5, z.cell 6, z.cell 7⟩) (Nat.lt_of_lt_of_le ZC.out.lt h2.size) RA rc hr)
 unfold surePost at CQ
 have HE := Lib.hid eql23S
 go_enter Tryz.func16, Tryz.ntmps16
 go_upto_region 2 with fail
 rw [← hW1]
 clear hW1
 have zc := ZQ.out.cell
 have z0 := zc 0
 have z1 := zc 1
 have z2 := zc 2
 have z3 := zc 3
 have z4 := zc 4
 have z5 := zc 5
 have z6 := zc 6
 have z7 := zc 7
 have hs1 := ZQ.out.lt
 clear zc
 go_cut [2, 3] from 9 to 14 (fun s2 s3 wx => ∃ (b off B2 off2 n c m c2 : Nat), s2 = .slice (some ⟨b, off, none⟩) n c ∧ s3 = .nilIface ∧ n = 1 ∧ m = 1 ∧ b < wx.heap.size ∧ B2 < wx.heap.size ∧ Hid (wx.cell? ⟨b, off, none⟩ = some (.slice (some ⟨B2, off2, none⟩) m c2)) ∧ Hid (ValC wx B2 off2 ⟨1, 3, ⟨#[]⟩, false⟩) ∧ Hid (Below W1.heap.size W1 wx))
 case first =>
  go_region_law (first | (go_simp; go_at_call 46; refine (plain20 _).mono ?_
                          rintro e2 w3 ⟨RA, rc, rfl, hr3, hb3⟩; have hb4 := Lib.hid (bt hb3.out (show Below W1.heap.size W1 _ by go_grown)); have zd := (ZQ.out.below hb4.out).cell; have q0 := zd 0; have q1 := zd 1; have q2 := zd 2; have q3 := zd 3; have q4 := zd 4; have q5 := zd 5; have q6 := zd 6; have q7 := zd 7; have hs3 := (ZQ.out.below hb4.out).lt; clear zd hb3)
                       | (go_simp; go_at_call 19; refine (CQ.out _ (by first | exact hb4.out | exact bt (below_drew _) hb4.out) _ _ (by first | exact hr3.out | exact hr3.out.below (below_drew _))).mono ?_
                          rintro e2 w4 ⟨b, off, B2, off2, n, c, m, c2, rfl, rfl, rfl, h3, h4, h5, h6, h7⟩))
  all_goals
   go_wp2_with fail
   go_meet
   case rel => exact ⟨b, off, B2, off2, 1, c, 1, c2, rfl, rfl, rfl, rfl, h3, h4, h5, h6, Lib.hid (bt h7.out (by first | exact hb4.out | exact bt (below_drew _) hb4.out))⟩
 case rest =>
  obtain ⟨b, off, B2, off2, n, c, m, c2, rfl, rfl, rfl, rfl, hb, hb2, h1, h2, h3⟩ := hcut
  clear z0 z1 z2 z3 z4 z5 z6 z7 CQ
  have x0 := h1.out
  obtain ⟨v0, v1, v2, v3⟩ := h2.out
  have he := HE.out
  have BB := Lib.hid (bt h3.out BW.out)
  go_wp2_with fail
  go_ret
  exact ⟨rfl, BB⟩

end Go.Proofs.YtbcmmecilheicaaGreatDoor
