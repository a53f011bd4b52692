/- ExecLimits: for every statement, tables, rows, labels and limit the law returns true and leaves its arguments as they were, where the arguments are together of bulk at most 1048576, and where the library's variable errors.errorType starts as the program's text lays it (the card ties that). No other condition but what the row prints. -/
import Derived.Test.YtbcmmecilheicaaGreatDoorCards
import Derived.Test.YtbcmmecilheicaaGreatDoorTie
import Derived.Test.YtbcmmecilheicaaGreatDoorLim4
import Derived.Test.YtbcmmecilheicaaGreatDoorOpnA
import Derived.ChangeVars
import Derived.LaidLaws
import Derived.LaidHandle
import Derived.SevenTiedAt
import Derived.Deep.DeepHandedRow
namespace Go.Proofs.YtbcmmecilheicaaGreatDoor
open Go Go.Deep Go.Joins Go.ChangeShapes Go.WideShapes Go.ChangeAt Go.RowKit

theorem own_knobG : ownKnob Tryz.prog.godebug = none := by kernel_rfl
theorem laid_outG : laidOutB Tryz.prog = true := by kernel_rfl
theorem readable58 : Tryz.prog.readableRec 58 = true ∧ 58 < Tryz.prog.types.size := ⟨by kernel_rfl, of_decide_eq_true (by kernel_rfl)⟩
theorem readable62 : Tryz.prog.readableRec 62 = true ∧ 62 < Tryz.prog.types.size := ⟨by kernel_rfl, of_decide_eq_true (by kernel_rfl)⟩
theorem readable3 : Tryz.prog.readableRec 3 = true ∧ 3 < Tryz.prog.types.size := ⟨by kernel_rfl, of_decide_eq_true (by kernel_rfl)⟩
/-- all arguments read behind the call as they read before -/
theorem trodAll_below {H : Type} {enc : TypeId × Value → H} {P : Program} (hl : laidOutB P = true) {W W' : World} (hb : Below W.heap.size W W') {ts : List TypeId} (hr : ∀ t ∈ ts, P.readableRec t = true ∧ t < P.types.size) :
  ∀ {vs : List Value} {ds : List (DataW H)} {ps : List MemPlace}, DataW.TrodAll enc P W 0 (fun _ => true) true ts vs ds ps → (∀ x ∈ ps, x.block < W.heap.size) →
  DataW.TrodAll enc P W' 0 (fun b => decide (b < W.heap.size)) true ts vs ds ps := by
 induction ts with
 | nil =>
  intro vs ds ps h _
  obtain ⟨rfl, rfl, rfl⟩ := trodAll_nil h
  exact trodAll_mk0
 | cons t ts ih =>
  intro vs ds ps h hlt
  obtain ⟨v, vs', d, ds', p, q, rfl, rfl, rfl, h1, h2⟩ := trodAll_cons h
  exact ⟨p, q, Below.trod hl (hr t (by simp)).1 (hr t (by simp)).2 h1 hb (fun x hx => hlt x (by simp [hx])), ih (fun t ht => hr t (by simp [ht])) h2 (fun x hx => hlt x (by simp [hx])), rfl⟩

abbrev laidD {H : Type} : List (String × DataW H) := [("errors.errorType", Rows.laid_errors_errorType)]
theorem et0 : Tryz.prog.globalNamed "errors.errorType" = some 0 := by kernel_rfl
theorem rt213 : (Tryz.prog.cutTypes.find? (·.1 == "internal/reflectlite.rtype")).map (·.2) = some 213 := by kernel_rfl
theorem typesN : Tryz.prog.types.size = 302 := by kernel_rfl
theorem oneRow45 : ((List.range 302).filter fun t => Tryz.prog.rowNamed t [101, 114, 114, 111, 114]) = [45] := by kernel_rfl
/-- the variable's one cell -/
theorem handle_of_laid {W : World} (h : laidMetH Tryz.prog laidD W) : ErrT W := by
 have h' : laidMet Tryz.prog [] W ∧ handlesMet Tryz.prog laidD W := h
 obtain ⟨name, u, ty, e1, e2, e3, e4, e5⟩ := h'.2 _ (List.mem_singleton.2 rfl)
 have en : name = [101, 114, 114, 111, 114] := (Option.some.inj e1).symm
 subst en
 obtain rfl := Option.some.inj (rt213.symm.trans e2)
 have hm : ty ∈ (List.range 302).filter fun t => Tryz.prog.rowNamed t [101, 114, 114, 111, 114] := List.mem_filter.2 ⟨List.mem_range.2 (by rw [← typesN]; exact e3), e4⟩
 rw [oneRow45] at hm
 obtain rfl := List.mem_singleton.1 hm
 have hh : typeHandle Tryz.prog 45 = .pointer (some ⟨2, 45, none⟩) := by kernel_rfl
 rw [hh] at e5
 show W.cell? _ = _
 simpa using World.var?_cell et0 e5 0
/-- a world that meets the condition -/
noncomputable def laidWorld (os : Os) : World :=
 let w0 := World.holding Tryz.prog os ⟨#[], #[], []⟩
 { w0 with heap := w0.heap.modify 0 fun
   | .cells _ t frozen => .cells #[.iface 213 (.agg #[.pointer (some ⟨2, 45, none⟩)])] t frozen
   | o => o }
theorem laidWorld_met (os : Os) (args : Array Value) : laidMetH Tryz.prog laidD ((laidWorld os).forCall (fun _ _ => 0) ⟨#[], args, []⟩).memory :=
 laidMetH_of_parts (laidMet_nil _ _) (by kernel_rfl)

abbrev zArgs : Array Value := #[.agg #[.int .i64 0, .string ⟨#[]⟩, .slice none 0 0, .slice none 0 0, .slice none 0 0, .slice none 0 0, .int .i64 0], .agg #[.slice none 0 0, .slice none 0 0, .slice none 0 0], .int .i64 0]
abbrev zData (H : Type) : List (DataW H) := [.agg [.lit (.int .i64 0), .lit (.string []), .nil, .nil, .nil, .nil, .lit (.int .i64 0)], .agg [.nil, .nil, .nil], .lit (.int .i64 0)]
theorem reads (os : Os) {H : Type} (enc : TypeId × Value → H) : ∃ places, DataW.whole enc Tryz.prog ((laidWorld os).forCall (fun _ _ => 0) ⟨#[], zArgs, []⟩).memory Tryz.f4.params.toList Rows.execLimitsSpec.vars false zArgs.toList 8 = some (zData H, [], places) :=
 ⟨[], by kernel_rfl⟩

set_option maxRecDepth 100000 in
theorem execLimits_lifted (os : Os) (started : os.Started) (H : Type) (enc : TypeId × Value → H) (F : Stop.Interp) :
  ReturnsInHanded {} Tryz.checked os 4 .any ((Rows.OpenSpec.upto Rows.execLimitsSpec).preRow enc Tryz.prog Tryz.f4 Rows.execLimitsUptoRow.domain false Rows.execLimitsUptoRow.laid) (((Rows.OpenSpec.upto Rows.execLimitsSpec).at F).post enc Tryz.prog Tryz.f4 false true false false) := by
 obtain ⟨places, hx⟩ := reads os enc
 refine returnsInHanded_of_row (C := Tryz.checked) (s := Rows.OpenSpec.upto Rows.execLimitsSpec) own_knobG started (by kernel_rfl) Tryz.func4
  (witness_row_at (enc := enc) (C := Tryz.checked) false (laidWorld os) zArgs rfl (by kernel_rfl) (by kernel_rfl) (by kernel_rfl)
   (OpenSpec.preRow_of_cond 8 hx (by kernel_rfl) (fun k hk => by cases hk; kernel_rfl) (by kernel_rfl) (laidWorld_met os _))) ?_
 intro W base args ds gs before hval0 hW _ hcond _ hL _ _
 have hk : Rows.uptoSmall H (ds ++ gs) = true := hcond _ rfl
 have hval : ∀ (j : Nat) t v, Tryz.f4.params[j]? = some t → args[j]? = some v → Value.okWide Tryz.prog W .any base t v := hval0
 have hW' := hW
 obtain ⟨p, q, hA0, hV, rfl, hfz, hnd⟩ := hW
 have hA : DataW.TrodAll enc Tryz.prog W 0 (fun _ => true) true Tryz.f4.params.toList args.toList ds p := hA0
 rw [Tryz.params4] at hA hval
 have hlt := hA.lt
 have hA1 := hA
 obtain ⟨v0, v1, v2, d0, d1, d2, p0, p1, p2, rfl, rfl, rfl, h0, h1, h2⟩ := trodAll_three hA
 obtain ⟨rfl, rfl⟩ := trodVars_none hV
 obtain ⟨⟨l0⟩, rfl, -⟩ := okWide_struct Tryz.underlying58 (hval 0 58 v0 rfl rfl)
 obtain ⟨⟨l1⟩, rfl, -⟩ := okWide_struct Tryz.underlying62 (hval 1 62 v1 rfl rfl)
 obtain ⟨limit, rfl, -⟩ := okWide_int Tryz.underlying3 (hval 2 3 v2 rfl rfl)
 obtain ⟨u0, h0'⟩ := h0
 obtain ⟨u1, h1'⟩ := h1
 simp only [List.append_nil] at hW' hk
 have hbk : Rows.uptoBulk d0 ≤ 1048576 ∧ Rows.uptoBulk d1 ≤ 1048576 := by
  have h := of_decide_eq_true hk
  simp only [Rows.uptoBulkAll] at h
  omega
 obtain ⟨x, l, q0, hx1, hd, htb, has, hgs⟩ := open_stmt h0' hbk.1
 obtain ⟨TA, tn, tc, ts, RA, rn, rc, rs, LA, ln, lc, lb, q1, hT, htn, hr, htx, hlb, hlt2⟩ := open_overL h1' hbk.2
 have q0' : l0 = (stCells x l).toList := by simpa [Value.cells] using q0
 have q1' : l1 = [.slice TA tn tc, .slice RA rn rc, .slice LA ln lc] := by simpa [Value.cells] using q1
 subst q0' q1'
 clear hA0 hval0
 refine (execLimits4 W (handle_of_laid hL) x l hx1 (fun e he => Nat.le_trans (hd e he) (by omega)) htb has hgs TA tn tc ts hT htn RA rn rc rs hr htx LA ln lc lb hlb hlt2 limit).mono fun e W' ⟨he, hb⟩ => ?_
 subst he
 have hb := hb.out
 have hc := trodAll_below laid_outG hb (ts := [58, 62, 3]) (fun t ht => by
  simp only [List.mem_cons, List.not_mem_nil, or_false] at ht
  rcases ht with rfl | rfl | rfl
  ·exact readable58
  ·exact readable62
  ·exact readable3) hA1 hlt
 exact ⟨_, rfl, _, _, _, [], _, [], hW', trodAll_mk1 (shut_bool Tryz.underlying4 _), hc, rfl, hb.frame _, fun h => by cases h⟩

theorem execLimits_row : Rows.ExecLimitsUptoSaid :=
 OpenClaim.holds_of_cond 4 Tryz.f4 rfl rfl rfl rfl rfl rfl rfl ⟨rfl, rfl, rfl, rfl, rfl⟩ rfl rfl rfl rfl rfl (by kernel_rfl) Tryz.func4 (by kernel_rfl)
  (of_decide_eq_true (by kernel_rfl)) (by unfold Func.isWrapper; first | (rw [if_pos (by decide +kernel)]; kernel_rfl) | (rw [if_neg (by decide +kernel)]; exact ⟨rfl, rfl⟩))
  (fun os started H enc _ F => by rw [OpenClaim.pre_eq_preRow]; exact execLimits_lifted os started H enc F)

theorem plain4 (f : FuncId) (fn : Func) (hf : Tryz.pinned.checked.prog.funcNamed "barbican/barbicanlaw23.ExecLimits" = some f) (hfn : Tryz.pinned.checked.prog.funcs[f]? = some fn) :
  true = Tryz.pinned.checked.prog.looks [] ∧ ∀ (j : Nat) t, fn.params[j]? = some t → Tryz.pinned.checked.prog.wantsStandIn t = false := by
 obtain rfl : f = 4 := Option.some.inj ((show Tryz.prog.funcNamed "barbican/barbicanlaw23.ExecLimits" = some 4 by kernel_rfl).symm.trans hf) |>.symm
 obtain rfl : fn = Tryz.f4 := (Option.some.inj (Tryz.func4.symm.trans hfn)).symm
 refine ⟨by kernel_rfl, fun j t ht => ?_⟩
 rw [Tryz.params4] at ht
 have h3 : t = 58 ∨ t = 62 ∨ t = 3 := by
  have := Array.mem_of_getElem? ht
  simpa using this
 rcases h3 with rfl | rfl | rfl
 ·exact (show Tryz.prog.wantsStandIn 58 = false by kernel_rfl)
 ·exact (show Tryz.prog.wantsStandIn 62 = false by kernel_rfl)
 ·exact (show Tryz.prog.wantsStandIn 3 = false by kernel_rfl)

theorem execLimits_holds : Rows.ExecLimitsUptoCardSaid :=
 Claim7.holds_tied_plain_at .later [] _ _ _ _ execLimits_row (fun _ h => by cases h) (by kernel_rfl) (fun _ h => by cases h) execLimitsUpto_row_tie rfl ⟨rfl, rfl⟩ (by kernel_rfl) rfl plain4 (by kernel_rfl)

end Go.Proofs.YtbcmmecilheicaaGreatDoor
