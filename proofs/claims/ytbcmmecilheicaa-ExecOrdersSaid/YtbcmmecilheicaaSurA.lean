/- What law 23's sure asks: a sum over two rows, in one part. law 23's sure. -/
import Derived.Test.YtbcmmecilheicaaQryM

/- What law 23's sure asks: a sum over two rows, in one part. -/
namespace Go.Proofs.Ytbcmmecilheicaa
open Go Go.RowKit

/-- all rows as one part -/
theorem parts_one {RA : Option Addr} {rn rc : Nat} {w : World} {e : Ending} {w' : World} {rs : RowL} (hr : RowsAt w RA rn rs) (h : PartOne RA rn rc w e w') : PartsPost [rs] w e w' := by
  obtain ⟨A, c, rfl, hown, hb⟩ := h
  refine ⟨A, 1, c, [⟨RA, rn, rc, none, 0, 0, none, 0, 0⟩], rfl, Lib.hid rfl, Lib.hid (fun h => by omega), Lib.hid rfl, hown, Lib.hid (fun j e rs' he hrs => ?_), hb⟩
  match j, he, hrs with
  | 0, he, hrs =>
    obtain rfl : _ = e := Option.some.inj he
    obtain rfl : rs = rs' := Option.some.inj hrs
    refine ⟨rfl, rfl, rfl, rfl, rfl, rfl, hr.old.keep (fun b hb' _ => hb.out.block b hb') (fun b hb' _ h => ?_) hb.out.size⟩
    have := (hown.out.lt b h.symm).1
    omega
  | j + 1, he, _ => simp at he

abbrev sumB : ByteArray := ⟨#[115, 117, 109]⟩
/-- what runner.of answers of a sum -/
noncomputable def ofSum (lb : List ByteArray) (x : Ex) (rs : RowL) : Res := match x.args with
  | [y] => ofP lb rs (litEx x.kind (sumP lb y rs).1) (sumP lb y rs).2
  | _ => (Val.null, none)
theorem of_sum (w : World) (tb : ByteArray) (T1 : Option Addr) (t1 u1 : Nat) (T2 : Option Addr) (t2 u2 : Nat) (T3 : Option Addr) (t3 u3 : Nat) (T4 : Option Addr) (t4 u4 : Nat) (T5 : Option Addr) (t5 u5 : Nat) (lim : Int) (ag : Bool) (T8 : Option Addr) (t8 u8 : Nat) (LA : Option Addr) (ln lc : Nat)
    (lb : List ByteArray) (hlb : StrsAt w LA ln lb) (hlt : ∀ z ∈ lb, z.size ≤ TB) (kind col : Int) (v : Val) (y : Ex) (rs : RowL) (hn : rs.length ≤ 1000000) (htx : RowsTx rs) :
    OfC (.agg #[.string tb, .slice T1 t1 u1, .slice T2 t2 u2, .slice T3 t3 u3, .slice T4 t4 u4, .slice T5 t5 u5, .int .i64 lim, .bool ag, .slice T8 t8 u8, .slice LA ln lc]) w (ofSum lb) (.mk sumB kind col v [y]) rs := by
  intro W hW RA rn rc i1 n1 c1 i2 n2 c2 A n c hr hx
  cases hx with
  | mk _ _ _ _ _ _ _ _ len small tx b off hA As ns cs cells sub =>
    obtain rfl : 1 = n := len
    obtain ⟨rfl, hb⟩ := hA (by omega)
    have hlb' := hlb.below hW
    have hrl := hr.len
    exact of45 W tb T1 t1 u1 T2 t2 u2 T3 t3 u3 T4 t4 u4 T5 t5 u5 lim ag T8 t8 u8 RA rn rc rs hr (by omega) htx i1 n1 c1 i2 n2 c2 (.mk sumB kind col v [y]) (some ⟨b, off, none⟩) 1 c lb LA ln lc hlb' hlt (litEx kind (sumP lb y rs).1) (sumP lb y rs).2
      (fun W2 h2 => fill_sum W2 RA rn rc rs (hr.below h2) (by omega) htx i1 n1 c1 i2 n2 c2 kind col v b off 1 c (Nat.lt_of_lt_of_le hb h2.size) (by omega) y (As 0) (ns 0) (cs 0) (by have := (cells 0 y rfl).below hb h2; rw [Nat.zero_mul, Nat.add_zero] at this; exact this) ((sub 0 y rfl).bel h2) lb LA ln lc (hlb'.below h2) hlt W.heap.size)

theorem leafX (W : World) (op : ByteArray) (kind col : Int) (v : Val) (tx : v.text.size ≤ TB) : ExIs W (.mk op kind col v []) none 0 0 :=
  .mk op kind col v [] none 0 0 rfl (by unfold TB; omega) tx 0 0 (fun h => by omega) (fun _ => none) (fun _ => 0) (fun _ => 0) (fun j e hj => by simp at hj) (fun j e hj => by simp at hj)
def colX : Ex := .mk ⟨#[99, 111, 108]⟩ 1 0 Val.null []
def sumX : Ex := .mk sumB 1 0 Val.null [colX]
theorem plain_keep : keepP [] [] plainRows = (plainRows, none) := by
  simp only [plainRows, keepP, trueP, if_true]
theorem plain_args : argsP [] colX plainRows = ([⟨1, 1, ⟨#[]⟩, false⟩, ⟨1, 2, ⟨#[]⟩, false⟩], none) := by
  simp only [plainRows, argsP, colX, evalP_mk, evo_col]
  rfl
theorem plain_sum : sumP [] colX plainRows = (⟨1, 3, ⟨#[]⟩, false⟩, none) := by
  unfold sumP
  rw [plain_args]
  show sumL _ _ = _
  rw [sumL]
  have e : reckonP 43 ⟨1, 1, ⟨#[]⟩, false⟩ ⟨1, 2, ⟨#[]⟩, false⟩ = (⟨1, 3, ⟨#[]⟩, false⟩, none) := by
    unfold reckonP
    rw [if_pos (by decide), if_neg (by decide)]
    show (match numP 43 1 2 with | (some er, _) => (Val.null, some er) | (none, n) => (Val.ofInt n, none)) = _
    rw [(numP_spec 43 1 2 (.inl rfl)).2.1 ⟨rfl, by omega, by omega, by omega, by omega⟩]
    rfl
  rw [e]
  rfl
theorem plain_of : ofSum [] sumX plainRows = (⟨1, 3, ⟨#[]⟩, false⟩, none) := by
  show ofP [] plainRows (litEx 1 (sumP [] colX plainRows).1) (sumP [] colX plainRows).2 = _
  rw [plain_sum]
  show evalP _ _ = _
  rw [lit_eval]
theorem plain_query : queryP (keepP [] [] plainRows) [plainRows] (ofSum []) [sumX] [] (-1) = ([[⟨1, 3, ⟨#[]⟩, false⟩]], none) := by
  have he : errL ([plainRows].map (tellsP (ofSum []) [sumX] [])).flatten = none := by
    simp only [List.map_cons, List.map_nil, tellsP, List.append_nil, List.flatten_cons, List.flatten_nil, plain_of]
    rfl
  rw [queryP_ok (by rw [plain_keep]) he, if_neg (by omega)]
  have e : outsP (ofSum []) [sumX] [] [plainRows] = [itsP (ofSum []) [sumX] plainRows] := rfl
  rw [e]
  simp only [itsP, List.map_cons, List.map_nil, plain_of]

end Go.Proofs.Ytbcmmecilheicaa

/- law 23's sure. -/
namespace Go.Proofs.Ytbcmmecilheicaa
open Go Go.RowKit

def surePost (w : World) (e : Ending) (w' : World) : Prop := ∃ (b off B2 off2 n c m c2 : Nat), e = .returned (.tuple #[.slice (some ⟨b, off, none⟩) n c, .nilIface]) ∧ n = 1 ∧ m = 1 ∧ b < w'.heap.size ∧ B2 < w'.heap.size ∧ Hid (w'.cell? ⟨b, off, none⟩ = some (.slice (some ⟨B2, off2, none⟩) m c2)) ∧ Hid (ValC w' B2 off2 ⟨1, 3, ⟨#[]⟩, false⟩) ∧ Hid (Below w.heap.size w w')
theorem valss_one {W : World} {A : Option Addr} {n : Nat} {v : Val} (h : ValssAt W A n [[v]]) : n = 1 ∧ ∃ b off B2 off2 c2, A = some ⟨b, off, none⟩ ∧ b < W.heap.size ∧ B2 < W.heap.size ∧ W.cell? ⟨b, off, none⟩ = some (.slice (some ⟨B2, off2, none⟩) 1 c2) ∧ ValC W B2 off2 v := by
  refine ⟨h.len.symm, ?_⟩
  obtain ⟨b, off, B, m, c, e, hb, hc, hv⟩ := h.at_ 0 [v] rfl
  obtain ⟨b2, off2, e2, hb2, hx⟩ := hv.at_ 0 v rfl
  obtain rfl : 1 = m := hv.len
  rw [e2] at hc
  rw [Nat.zero_mul, Nat.add_zero] at hx
  exact ⟨b, off, b2, off2, c, e, hb, hb2, hc, hx⟩
/-- the query of sure -/
theorem query_sure (W : World) (ib io : Nat) (cb co : Nat) (hi : ExC W ib io sumX (some ⟨cb, co, none⟩) 1 1) (hib : ib < W.heap.size) (hc : ExC W cb co colX none 0 0) (hcb : cb < W.heap.size) (RA : Option Addr) (rc : Nat) (hr : RowsAt W RA 2 plainRows) :
    Calls Try.prog 15 #[.agg #[.string ⟨#[]⟩, .slice none 0 0, .slice (some ⟨ib, io, none⟩) 1 1, .slice none 0 0, .slice none 0 0, .slice none 0 0, .int .i64 (-1), .bool true], .slice RA 2 rc, .slice none 0 0] W (surePost W) := by
  have hcx : ExIs W colX none 0 0 := leafX W _ _ _ _ (by unfold TB; exact Nat.zero_le _)
  have hsx : ExIs W sumX (some ⟨cb, co, none⟩) 1 1 := .mk _ 1 0 Val.null [colX] _ 1 1 rfl (by unfold TB; omega) (by unfold TB; exact Nat.zero_le _) cb co (fun _ => ⟨rfl, hcb⟩) (fun _ => none) (fun _ => 0) (fun _ => 0) (fun j e hj => by
    match j, hj with
    | 0, hj => obtain rfl : colX = e := by simpa using hj
               rw [Nat.zero_mul, Nat.add_zero]; exact hc
    | j + 1, hj => simp at hj) (fun j e hj => by
    match j, hj with
    | 0, hj => obtain rfl : colX = e := by simpa using hj
               exact hcx
    | j + 1, hj => simp at hj)
  have nil9 : StrsAt W none 0 [] := ⟨rfl, fun j z h => by simp at h⟩
  have key := query15 W ⟨#[]⟩ none 0 0 (some ⟨ib, io, none⟩) 1 1 none 0 0 none 0 0 none 0 0 (-1) true RA 2 rc none 0 0 plainRows [] [] hr (by omega) plain_tx (ExsAt.nil _ _) (by omega) nil9 (fun z h => by simp at h)
    [sumX] [] ⟨rfl, fun j e hj => by
      match j, hj with
      | 0, hj => obtain rfl : sumX = e := by simpa using hj
                 exact ⟨ib, io, _, _, _, rfl, hib, by rw [Nat.zero_mul, Nat.add_zero]; exact hi, hsx⟩
      | j + 1, hj => simp at hj⟩ (OrdsAt.nil _ _) (by omega) (by omega) (by omega) (by omega) (ofSum []) [plainRows] (by simp)
    (fun W2 A k c h2 h3 _ _ => (parts29a W2 _ _ _ _ _ _ _ _ _ _ _ _ _ _ _ _ _ _ _ _ _ _).mono fun e w' h => parts_one (by rw [plain_keep] at h3; exact h3) h)
    (fun A k c x rows hx hrows => by
      obtain rfl : x = sumX := by simpa using hx
      obtain rfl : rows = plainRows := by simpa using hrows
      exact of_sum W _ _ _ _ _ _ _ _ _ _ _ _ _ _ _ _ _ _ _ _ _ _ _ _ [] nil9 (fun z h => by simp at h) 1 0 Val.null colX plainRows (by simp [plainRows]) plain_tx)
  refine key.mono ?_
  rintro e w' ⟨A, n, c, rfl, hv, hb⟩
  rw [plain_query] at hv
  obtain ⟨rfl, b, off, B2, off2, c2, rfl, h1, h2, h3, h4⟩ := valss_one hv.out
  exact ⟨b, off, B2, off2, 1, c, 1, c2, by rw [plain_query]; rfl, rfl, rfl, h1, h2, Lib.hid h3, Lib.hid h4, hb⟩
theorem eql23S (W : World) : (binOp BinOp.eql 23 (.agg #[.int .i64 1, .int .i64 3, .string ⟨#[]⟩, .bool false]) (.agg #[.int .i64 1, .int .i64 3, .string ⟨#[]⟩, .bool false])).run Try.prog W = .ok (.bool true) W := by kernel_rfl

set_option maxRecDepth 100000 in
set_option maxHeartbeats 8000000 in
theorem sure10 (w : World) : Calls Try.prog 10 #[] w fun e w' => e = .returned (.bool true) ∧ Hid (Below w.heap.size w w') := by
  obtain ⟨W1, hW1⟩ : ∃ y, y = ((w.alloc (.cells #[.string ⟨#[99, 111, 108]⟩, .int .i64 1, .int .i64 0, .int .i64 0, .int .i64 0, .string ⟨#[]⟩, .bool false, .slice none 0 0] 37)).alloc (.cells #[.string ⟨#[115, 117, 109]⟩, .int .i64 1, .int .i64 0, .int .i64 0, .int .i64 0, .string ⟨#[]⟩, .bool false, .slice (some ⟨w.heap.size, 0, none⟩) 1 1] 37)).alloc (.cells #[.string ⟨#[]⟩, .slice none 0 0, .slice (some ⟨w.heap.size + 1, 0, none⟩) 1 1, .slice none 0 0, .slice none 0 0, .slice none 0 0, .int .i64 (-1), .bool true] 56) := ⟨_, rfl⟩
  have ZC := Lib.hid (show Blk W1 w.heap.size 37 #[.string ⟨#[99, 111, 108]⟩, .int .i64 1, .int .i64 0, .int .i64 0, .int .i64 0, .string ⟨#[]⟩, .bool false, .slice none 0 0] by rw [hW1]; exact ((Blk.new w 37 _).alloc _).alloc _)
  have ZS := Lib.hid (show Blk W1 (w.heap.size + 1) 37 #[.string ⟨#[115, 117, 109]⟩, .int .i64 1, .int .i64 0, .int .i64 0, .int .i64 0, .string ⟨#[]⟩, .bool false, .slice (some ⟨w.heap.size, 0, none⟩) 1 1] by rw [hW1]; exact (blk_new' (w := w.alloc _) rfl (by simp)).alloc _)
  have ZQ := Lib.hid (show Blk W1 (w.heap.size + 1 + 1) 56 #[.string ⟨#[]⟩, .slice none 0 0, .slice (some ⟨w.heap.size + 1, 0, none⟩) 1 1, .slice none 0 0, .slice none 0 0, .slice none 0 0, .int .i64 (-1), .bool true] by rw [hW1]; exact blk_new' (w := (w.alloc _).alloc _) rfl (by simp))
  have BW := Lib.hid (show Below w.heap.size w W1 by rw [hW1]; exact bt (below_alloc _ _) (bt (below_alloc _ _) (below_alloc _ _)))
  have CQ := Lib.hid (fun W2 (h2 : Below W1.heap.size W1 W2) RA rc (hr : RowsAt W2 RA 2 plainRows) => query_sure W2 (w.heap.size + 1) 0 w.heap.size 0
    (have z := ZS.out.below h2; ⟨z.cell 0, z.cell 1, z.cell 2, z.cell 3, z.cell 4, z.cell 5, z.cell 6, z.cell 7⟩) (Nat.lt_of_lt_of_le ZS.out.lt h2.size)
    (have z := ZC.out.below h2; ⟨z.cell 0, z.cell 1, z.cell 2, z.cell 3, z.cell 4, z.cell 5, z.cell 6, z.cell 7⟩) (Nat.lt_of_lt_of_le ZC.out.lt h2.size) RA rc hr)
  unfold surePost at CQ
  have HE := Lib.hid eql23S
  go_enter Try.func10, Try.ntmps10
  go_upto_region 2 with fail
  rw [← hW1]
  clear hW1
  have zc := ZQ.out.cell
  have z0 := zc 0
  have z1 := zc 1
  have z2 := zc 2
  have z3 := zc 3
  have z4 := zc 4
  have z5 := zc 5
  have z6 := zc 6
  have z7 := zc 7
  have hs1 := ZQ.out.lt
  clear zc
  go_cut [2, 3] from 9 to 14 (fun s2 s3 wx => ∃ (b off B2 off2 n c m c2 : Nat), s2 = .slice (some ⟨b, off, none⟩) n c ∧ s3 = .nilIface ∧ n = 1 ∧ m = 1 ∧ b < wx.heap.size ∧ B2 < wx.heap.size ∧ Hid (wx.cell? ⟨b, off, none⟩ = some (.slice (some ⟨B2, off2, none⟩) m c2)) ∧ Hid (ValC wx B2 off2 ⟨1, 3, ⟨#[]⟩, false⟩) ∧ Hid (Below W1.heap.size W1 wx))
  case first =>
    go_region_law (first | (go_simp; go_at_call 20; refine (plain20 _).mono ?_
                            rintro e2 w3 ⟨RA, rc, rfl, hr3, hb3⟩; have hb4 := Lib.hid (bt hb3.out (show Below W1.heap.size W1 _ by go_grown)); have zd := (ZQ.out.below hb4.out).cell; have q0 := zd 0; have q1 := zd 1; have q2 := zd 2; have q3 := zd 3; have q4 := zd 4; have q5 := zd 5; have q6 := zd 6; have q7 := zd 7; have hs3 := (ZQ.out.below hb4.out).lt; clear zd hb3)
                         | (go_simp; go_at_call 15; refine (CQ.out _ (by first | exact hb4.out | exact bt (below_drew _) hb4.out) _ _ (by first | exact hr3.out | exact hr3.out.below (below_drew _))).mono ?_
                            rintro e2 w4 ⟨b, off, B2, off2, n, c, m, c2, rfl, rfl, rfl, h3, h4, h5, h6, h7⟩))
    all_goals
      go_wp2_with fail
      go_meet
      case rel => exact ⟨b, off, B2, off2, 1, c, 1, c2, rfl, rfl, rfl, rfl, h3, h4, h5, h6, Lib.hid (bt h7.out (by first | exact hb4.out | exact bt (below_drew _) hb4.out))⟩
  case rest =>
    obtain ⟨b, off, B2, off2, n, c, m, c2, rfl, rfl, rfl, rfl, hb, hb2, h1, h2, h3⟩ := hcut
    clear z0 z1 z2 z3 z4 z5 z6 z7 CQ
    have x0 := h1.out
    obtain ⟨v0, v1, v2, v3⟩ := h2.out
    have he := HE.out
    have BB := Lib.hid (bt h3.out BW.out)
    go_wp2_with fail
    go_ret
    exact ⟨rfl, BB⟩

end Go.Proofs.Ytbcmmecilheicaa
