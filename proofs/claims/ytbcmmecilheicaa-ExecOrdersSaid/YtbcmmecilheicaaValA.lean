/- value.Null, Int, Text, Bool, is, null. value.Not, And, Or. -/
import Derived.Test.YtbcmmecilheicaaMem

/- value.Null, Int, Text, Bool, is, null. -/
namespace Go.Proofs.Ytbcmmecilheicaa
open Go Go.RowKit

set_option maxHeartbeats 1000000 in
theorem null34 (w : World) : Calls Try.prog 34 #[] w fun e w' => e = .returned (.agg #[.int .i64 0, .int .i64 0, .string ⟨#[]⟩, .bool false]) ∧ Hid (Below w.heap.size w w') := by
  go_enter Try.func34, Try.ntmps34
  go_wp2
  go_returns
  exact ⟨rfl, Lib.hid ((Below.refl _ w).alloc (Nat.le_refl _) _)⟩
set_option maxHeartbeats 1000000 in
theorem int50 (w : World) (n : Int) : Calls Try.prog 50 #[.int .i64 n] w fun e w' => e = .returned (.agg #[.int .i64 1, .int .i64 n, .string ⟨#[]⟩, .bool false]) ∧ Hid (Below w.heap.size w w') := by
  go_enter Try.func50, Try.ntmps50
  go_wp2
  go_returns
  exact ⟨rfl, Lib.hid ((Below.refl _ w).alloc (Nat.le_refl _) _)⟩
set_option maxHeartbeats 1000000 in
theorem text35 (w : World) (s : ByteArray) : Calls Try.prog 35 #[.string s] w fun e w' => e = .returned (.agg #[.int .i64 2, .int .i64 0, .string s, .bool false]) ∧ Hid (Below w.heap.size w w') := by
  go_enter Try.func35, Try.ntmps35
  go_wp2
  go_returns
  exact ⟨rfl, Lib.hid ((Below.refl _ w).alloc (Nat.le_refl _) _)⟩
set_option maxHeartbeats 1000000 in
theorem bool52 (w : World) (b : Bool) : Calls Try.prog 52 #[.bool b] w fun e w' => e = .returned (.agg #[.int .i64 3, .int .i64 0, .string ⟨#[]⟩, .bool b]) ∧ Hid (Below w.heap.size w w') := by
  go_enter Try.func52, Try.ntmps52
  go_wp2
  go_returns
  exact ⟨rfl, Lib.hid ((Below.refl _ w).alloc (Nat.le_refl _) _)⟩

set_option maxRecDepth 20000 in
set_option maxHeartbeats 4000000 in
theorem null72 (w : World) (A : Option Addr) (n c : Nat) (l : List Val) (h : ValsAt w A n l) (hn : n ≤ 1000000) :
    Calls Try.prog 72 #[.slice A n c] w fun e w' => e = .returned (.bool (l.any nullB)) ∧ Hid (Below w.heap.size w w') := by
  have H := Lib.hid h
  clear h
  obtain ⟨r, hr⟩ : ∃ r, r = l.any nullB := ⟨_, rfl⟩
  rw [← hr]
  have HR := Lib.hid hr
  clear hr
  go_enter Try.func72, Try.ntmps72
  go_wp2
  go_loopg [7] n (fun kx s7 wr => ∃ j : Nat, s7 = .int .i64 j ∧ kx + j = n ∧ Hid (Below w.heap.size w wr ∧ (l.take j).any nullB = false))
  case atStart => exact ⟨0, rfl, rfl, Lib.hid ⟨Below.refl _ _, by simp⟩⟩
  case round =>
    obtain ⟨j, rfl, hk, I⟩ := hrel
    by_cases hj : j < n
    · obtain ⟨v, hv⟩ : ∃ v, l[j]? = some v := ⟨_, List.getElem?_eq_getElem (by rw [H.out.len]; exact hj)⟩
      obtain ⟨b, off, rfl, hb, hc⟩ := H.out.at_ j v hv
      obtain ⟨c0, c1, c2, c3⟩ := hc.below hb I.out.1
      have hjz : (j : Int) < (n : Int) := by omega
      have hj0 : (0 : Int) ≤ (j : Int) := by omega
      have hj1 : (j : Int) < 1000001 := by omega
      have HV := Lib.hid hv
      clear hv hc hb
      by_cases h0 : v.kind = 0
      · have hr : true = r := by
          rw [HR.out]
          exact (List.any_eq_true.2 ⟨v, List.mem_of_getElem? HV.out, by simp [nullB, h0]⟩).symm
        rw [h0] at c0
        have BB := Lib.hid I.out.1
        subst hr
        clear I h0
        go_wp2
        go_ret
        exact ⟨rfl, Lib.hid (by have h := BB.out; have hs := h.size; go_grown)⟩
      · have hkz : (v.kind == 0) = false := by simpa using h0
        have BB := Lib.hid I.out.1
        have TT := Lib.hid I.out.2
        have NN := Lib.hid h0
        clear I h0
        go_wp2
        go_roundg (gk - 1)
        case measure => omega
        case rel => exact ⟨j + 1, by first | rfl | (simp; done), by omega, Lib.hid ⟨by have h := BB.out; have hs := h.size; go_grown, by
          rw [List.take_add_one, HV.out]
          have h1 := TT.out
          have h2 := NN.out
          simp only [List.any_append, h1, Bool.false_or]
          simp [nullB, h2]⟩⟩
    · obtain rfl : n = j := by omega
      have hr : false = r := by
        have h1 := I.out.2
        rw [List.take_of_length_le (by rw [H.out.len]; exact Nat.le_refl _)] at h1
        rw [HR.out, h1]
      have BB := Lib.hid I.out.1
      subst hr
      clear I
      go_wp2
      go_ret
      exact ⟨rfl, BB⟩

set_option maxRecDepth 20000 in
set_option maxHeartbeats 4000000 in
theorem is71 (w : World) (kind : Int) (A : Option Addr) (n c : Nat) (l : List Val) (h : ValsAt w A n l) (hn : n ≤ 1000000) :
    Calls Try.prog 71 #[.int .i64 kind, .slice A n c] w fun e w' => e = .returned (.bool (l.all (isK kind))) ∧ Hid (Below w.heap.size w w') := by
  have H := Lib.hid h
  clear h
  obtain ⟨r, hr⟩ : ∃ r, r = l.all (isK kind) := ⟨_, rfl⟩
  rw [← hr]
  have HR := Lib.hid hr
  clear hr
  go_enter Try.func71, Try.ntmps71
  go_wp2
  go_loopg [9] n (fun kx s9 wr => ∃ j : Nat, s9 = .int .i64 j ∧ kx + j = n ∧ Hid (Below w.heap.size w wr ∧ (l.take j).all (isK kind) = true))
  case atStart => exact ⟨0, rfl, rfl, Lib.hid ⟨Below.refl _ _, by simp⟩⟩
  case round =>
    obtain ⟨j, rfl, hk, I⟩ := hrel
    by_cases hj : j < n
    · obtain ⟨v, hv⟩ : ∃ v, l[j]? = some v := ⟨_, List.getElem?_eq_getElem (by rw [H.out.len]; exact hj)⟩
      obtain ⟨b, off, rfl, hb, hc⟩ := H.out.at_ j v hv
      obtain ⟨c0, c1, c2, c3⟩ := hc.below hb I.out.1
      have hjz : (j : Int) < (n : Int) := by omega
      have hj0 : (0 : Int) ≤ (j : Int) := by omega
      have hj1 : (j : Int) < 1000001 := by omega
      have HV := Lib.hid hv
      have BB := Lib.hid I.out.1
      have TT := Lib.hid I.out.2
      clear hv hc hb I
      have next : isK kind v = true → (l.take (j + 1)).all (isK kind) = true := fun hv => by
        rw [List.take_add_one, HV.out]
        have h1 := TT.out
        simp only [List.all_append, h1, Bool.true_and]
        simp [hv]
      have NX := Lib.hid next
      clear next
      by_cases h1 : v.kind = kind
      · have hk1 : (v.kind == kind) = true := by simpa using h1
        have hk2 : (v.kind != kind) = false := by simpa using h1
        have IV := Lib.hid (show isK kind v = true by simp [isK, h1])
        clear h1
        go_wp2
        go_roundg (gk - 1)
        case measure => omega
        case rel => exact ⟨j + 1, by first | rfl | (simp; done), by omega, Lib.hid ⟨by have h := BB.out; have hs := h.size; go_grown, NX.out IV.out⟩⟩
      · have hk1 : (v.kind == kind) = false := by simpa using h1
        have hk2 : (v.kind != kind) = true := by simpa using h1
        by_cases h0 : v.kind = 0
        · have hz1 : (v.kind == 0) = true := by simpa using h0
          have hz2 : (v.kind != 0) = false := by simpa using h0
          have IV := Lib.hid (show isK kind v = true by simp [isK, h0])
          clear h1 h0
          go_wp2
          go_roundg (gk - 1)
          case measure => omega
          case rel => exact ⟨j + 1, by first | rfl | (simp; done), by omega, Lib.hid ⟨by have h := BB.out; have hs := h.size; go_grown, NX.out IV.out⟩⟩
        · have hz1 : (v.kind == 0) = false := by simpa using h0
          have hz2 : (v.kind != 0) = true := by simpa using h0
          have hr : false = r := by
            rw [HR.out]
            exact (List.all_eq_false.2 ⟨v, List.mem_of_getElem? HV.out, by simp [isK, h0, h1]⟩).symm
          subst hr
          clear h1 h0
          go_wp2
          go_ret
          exact ⟨rfl, Lib.hid (by have h := BB.out; have hs := h.size; go_grown)⟩
    · obtain rfl : n = j := by omega
      have hr : true = r := by
        have h1 := I.out.2
        rw [List.take_of_length_le (by rw [H.out.len]; exact Nat.le_refl _)] at h1
        rw [HR.out, h1]
      have BB := Lib.hid I.out.1
      subst hr
      clear I
      go_wp2
      go_ret
      exact ⟨rfl, BB⟩

end Go.Proofs.Ytbcmmecilheicaa

/- value.Not, And, Or. -/
namespace Go.Proofs.Ytbcmmecilheicaa
open Go Go.RowKit

theorem blk_new' {W w : World} {t : TypeId} {cs : Array Value} {g : Nat} (hW : W = w.alloc (.cells cs t)) (hg : g = w.heap.size) : Blk W g t cs := by
  subst hW hg; exact Blk.new w t cs
theorem bcell {W w1 : World} (hb : Below W.heap.size W w1) : (∀ b o, b < W.heap.size → w1.cell? ⟨b, o, none⟩ = W.cell? ⟨b, o, none⟩) ∧ (∀ b o, b < W.heap.size → w1.frozen? ⟨b, o, none⟩ = W.frozen? ⟨b, o, none⟩) :=
  ⟨fun b o h => hb.cell (p := ⟨b, o, none⟩) h, fun b o h => hb.frozen (p := ⟨b, o, none⟩) h⟩
theorem _root_.Go.RowKit.Below.from1 {w w' : World} {a : Obj} (h : Below (w.alloc a).heap.size (w.alloc a) w') : Below w.heap.size w w' := bt h (below_alloc w a)
theorem _root_.Go.RowKit.Below.from2 {w w' : World} {a b : Obj} (h : Below ((w.alloc a).alloc b).heap.size ((w.alloc a).alloc b) w') : Below w.heap.size w w' := h.from1.from1
theorem _root_.Go.RowKit.Below.from3 {w w' : World} {a b c : Obj} (h : Below (((w.alloc a).alloc b).alloc c).heap.size (((w.alloc a).alloc b).alloc c) w') : Below w.heap.size w w' := h.from2.from1
theorem _root_.Go.RowKit.Below.from4 {w w' : World} {a b c d : Obj} (h : Below ((((w.alloc a).alloc b).alloc c).alloc d).heap.size ((((w.alloc a).alloc b).alloc c).alloc d) w') : Below w.heap.size w w' := h.from3.from1
/-- an error's value -/
def errV : Option Int → Value
  | none => .nilIface
  | some n => .iface 75 (.int .i64 n)
def resV (r : Res) : Value := .tuple #[.agg r.1.cells, errV r.2]
theorem val_set {W : World} {b : Nat} {t : TypeId} {c0 c1 c2 c3 : Value} (z : Blk W b t #[c0, c1, c2, c3]) (k i : Int) (s : ByteArray) (o : Bool) :
    ValC ((((W.setCell ⟨b, 0, none⟩ (.int .i64 k)).setCell ⟨b, 1, none⟩ (.int .i64 i)).setCell ⟨b, 2, none⟩ (.string s)).setCell ⟨b, 3, none⟩ (.bool o)) b 0 ⟨k, i, s, o⟩ := by
  have h := (((z.set_ 0 (.int .i64 k)).set_ 1 (.int .i64 i)).set_ 2 (.string s)).set_ 3 (.bool o)
  exact ⟨h.cell 0, h.cell 1, h.cell 2, h.cell 3⟩
theorem results_cv {fn : Func} {s k : Nat} (h : fn.results = #[.cell s 23, .tmp k]) {tmps : Array Value} {W : World} {b : Nat} {v : Val} {er : Value} (hs : tmps[s]? = some (.pointer (some ⟨b, 0, none⟩))) (hk : tmps[k]? = some er) (z : ValC W b 0 v) :
    (results fn tmps).run Try.prog W = .ok (.tuple #[.agg v.cells, er]) W := by
  obtain ⟨c0, c1, c2, c3⟩ := z
  simp only [Nat.zero_add] at c1 c2 c3
  simp [results, h, hs, hk, go_sem, c0, c1, c2, c3, Val.cells]
theorem results_c {fn : Func} {s : Nat} (h : fn.results = #[.cell s 23]) {tmps : Array Value} {W : World} {b : Nat} {v : Val} (hs : tmps[s]? = some (.pointer (some ⟨b, 0, none⟩))) (z : ValC W b 0 v) :
    (results fn tmps).run Try.prog W = .ok (.agg v.cells) W := by
  obtain ⟨c0, c1, c2, c3⟩ := z
  simp only [Nat.zero_add] at c1 c2 c3
  simp [results, h, hs, go_sem, c0, c1, c2, c3, Val.cells]

set_option maxRecDepth 20000 in
set_option maxHeartbeats 4000000 in
theorem not51 (w : World) (v : Val) : Calls Try.prog 51 #[.agg #[.int .i64 v.kind, .int .i64 v.int, .string v.text, .bool v.bool]] w fun e w' => e = .returned (resV (notP v)) ∧ Hid (Below w.heap.size w w') := by
  cases hi : isK 3 v with
  | false =>
    have hr : notP v = (Val.null, some 7) := by simp [notP, hi]
    rw [hr]
    have HI := Lib.hid hi
    clear hi hr
    go_enter Try.func51, Try.ntmps51
    go_wp2_with (go_at_call 71; refine (is71 _ _ _ _ _ [v] (ValsAt.one (t := 23) (blk_new' rfl (by simp))) (by omega)).mono ?_; rintro e w1 ⟨rfl, h1⟩; rw [List.all_cons, HI.out, Bool.false_and])
    refine (null34 _).mono ?_
    rintro e w2 ⟨rfl, h2⟩
    have H2 := bt h2.out h1.out
    obtain ⟨hc, hf⟩ := bcell H2
    have hb : Below w.heap.size w w2 := H2.from3
    have hs := hb.size
    have zb : Blk w2 (w.heap.size + 1) 23 #[.int .i64 0, .int .i64 0, .string ⟨#[]⟩, .bool false] := ((blk_new' (w := w.alloc _) rfl (by simp)).alloc _).below H2
    have ZB := Lib.hid zb
    have HB := Lib.hid hb
    clear h1 h2 H2 zb hb
    go_wp2
    refine bodyPost_ret (results_cv (s := 2) (k := 3) rfl rfl rfl (val_set ZB.out _ _ _ _)) rfl ⟨rfl, Lib.hid (by have hb := HB.out; go_grown)⟩
  | true =>
    have HI := Lib.hid hi
    cases hn : nullB v with
    | true =>
      have hr : notP v = (Val.null, none) := by simp [notP, hi, hn]
      rw [hr]
      have HN := Lib.hid hn
      clear hi hr hn
      go_enter Try.func51, Try.ntmps51
      go_wp2_with (go_at_call 71; refine (is71 _ _ _ _ _ [v] (ValsAt.one (t := 23) (blk_new' rfl (by simp))) (by omega)).mono ?_; rintro e w1 ⟨rfl, h1⟩; rw [List.all_cons, HI.out, List.all_nil, Bool.true_and]; obtain ⟨hc, hf⟩ := bcell h1.out)
      refine (null72 _ _ _ _ [v] (ValsAt.one (t := 23) (blk_new' rfl rfl)) (by omega)).mono ?_
      rintro e w2 ⟨rfl, h2⟩
      rw [List.any_cons, HN.out, Bool.true_or]
      have H2 := bt h2.out.from1 h1.out
      clear hc hf
      go_wp2_with fail
      refine (null34 _).mono ?_
      rintro e w3 ⟨rfl, h3⟩
      have H3 := bt h3.out H2
      obtain ⟨hc, hf⟩ := bcell H3
      have hb : Below w.heap.size w w3 := H3.from3
      have zb : Blk w3 (w.heap.size + 1) 23 #[.int .i64 0, .int .i64 0, .string ⟨#[]⟩, .bool false] := ((blk_new' (w := w.alloc _) rfl (by simp)).alloc _).below H3
      have ZB := Lib.hid zb
      have HB := Lib.hid hb
      clear h1 h2 h3 H2 H3 zb hb
      go_wp2
      refine bodyPost_ret (results_cv (s := 2) (k := 3) rfl rfl rfl (val_set ZB.out _ _ _ _)) rfl ⟨rfl, Lib.hid (by have hb := HB.out; go_grown)⟩
    | false =>
      have hr : notP v = (Val.ofBool (!v.bool), none) := by simp [notP, hi, hn]
      rw [hr]
      have HN := Lib.hid hn
      clear hi hr hn
      go_enter Try.func51, Try.ntmps51
      go_wp2_with (go_at_call 71; refine (is71 _ _ _ _ _ [v] (ValsAt.one (t := 23) (blk_new' rfl (by simp))) (by omega)).mono ?_; rintro e w1 ⟨rfl, h1⟩; rw [List.all_cons, HI.out, List.all_nil, Bool.true_and]; obtain ⟨hc, hf⟩ := bcell h1.out)
      refine (null72 _ _ _ _ [v] (ValsAt.one (t := 23) (blk_new' rfl rfl)) (by omega)).mono ?_
      rintro e w2 ⟨rfl, h2⟩
      rw [List.any_cons, HN.out, List.any_nil, Bool.false_or]
      have H2 := bt h2.out.from1 h1.out
      clear hc hf
      obtain ⟨hc, hf⟩ := bcell H2
      go_wp2_with fail
      refine (bool52 _ _).mono ?_
      rintro e w3 ⟨rfl, h3⟩
      have H3 := bt h3.out H2
      clear hc hf
      obtain ⟨hc, hf⟩ := bcell H3
      have hb : Below w.heap.size w w3 := H3.from3
      have zb : Blk w3 (w.heap.size + 1) 23 #[.int .i64 0, .int .i64 0, .string ⟨#[]⟩, .bool false] := ((blk_new' (w := w.alloc _) rfl (by simp)).alloc _).below H3
      have ZB := Lib.hid zb
      have HB := Lib.hid hb
      clear h1 h2 h3 H2 H3 zb hb
      go_wp2
      refine bodyPost_ret (results_cv (s := 2) (k := 3) rfl rfl rfl (val_set ZB.out _ _ _ _)) rfl ⟨rfl, Lib.hid (by have hb := HB.out; go_grown)⟩

end Go.Proofs.Ytbcmmecilheicaa
