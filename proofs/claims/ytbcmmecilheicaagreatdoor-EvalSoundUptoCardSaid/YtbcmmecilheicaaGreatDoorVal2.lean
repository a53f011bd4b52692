/- value.Not, And, Or. -/
import Derived.Test.YtbcmmecilheicaaGreatDoorVal1
namespace Go.Proofs.YtbcmmecilheicaaGreatDoor
open Go Go.RowKit

theorem blk_new' {W w : World} {t : TypeId} {cs : Array Value} {g : Nat} (hW : W = w.alloc (.cells cs t)) (hg : g = w.heap.size) : Blk W g t cs := by
  subst hW hg; exact Blk.new w t cs
theorem bcell {W w1 : World} (hb : Below W.heap.size W w1) : (∀ b o, b < W.heap.size → w1.cell? ⟨b, o, none⟩ = W.cell? ⟨b, o, none⟩) ∧ (∀ b o, b < W.heap.size → w1.frozen? ⟨b, o, none⟩ = W.frozen? ⟨b, o, none⟩) :=
  ⟨fun b o h => hb.cell (p := ⟨b, o, none⟩) h, fun b o h => hb.frozen (p := ⟨b, o, none⟩) h⟩
theorem _root_.Go.RowKit.Below.from1 {w w' : World} {a : Obj} (h : Below (w.alloc a).heap.size (w.alloc a) w') : Below w.heap.size w w' := bt h (below_alloc w a)
theorem _root_.Go.RowKit.Below.from2 {w w' : World} {a b : Obj} (h : Below ((w.alloc a).alloc b).heap.size ((w.alloc a).alloc b) w') : Below w.heap.size w w' := h.from1.from1
theorem _root_.Go.RowKit.Below.from3 {w w' : World} {a b c : Obj} (h : Below (((w.alloc a).alloc b).alloc c).heap.size (((w.alloc a).alloc b).alloc c) w') : Below w.heap.size w w' := h.from2.from1
theorem _root_.Go.RowKit.Below.from4 {w w' : World} {a b c d : Obj} (h : Below ((((w.alloc a).alloc b).alloc c).alloc d).heap.size ((((w.alloc a).alloc b).alloc c).alloc d) w') : Below w.heap.size w w' := h.from3.from1
/-- an error's value -/
def errV : Option Int → Value
  | none => .nilIface
  | some n => .iface 111 (.int .i64 n)
def resV (r : Res) : Value := .tuple #[.agg r.1.cells, errV r.2]
theorem val_set {W : World} {b : Nat} {t : TypeId} {c0 c1 c2 c3 : Value} (z : Blk W b t #[c0, c1, c2, c3]) (k i : Int) (s : ByteArray) (o : Bool) :
    ValC ((((W.setCell ⟨b, 0, none⟩ (.int .i64 k)).setCell ⟨b, 1, none⟩ (.int .i64 i)).setCell ⟨b, 2, none⟩ (.string s)).setCell ⟨b, 3, none⟩ (.bool o)) b 0 ⟨k, i, s, o⟩ := by
  have h := (((z.set_ 0 (.int .i64 k)).set_ 1 (.int .i64 i)).set_ 2 (.string s)).set_ 3 (.bool o)
  exact ⟨h.cell 0, h.cell 1, h.cell 2, h.cell 3⟩
theorem results_cv {fn : Func} {s k : Nat} (h : fn.results = #[.cell s 26, .tmp k]) {tmps : Array Value} {W : World} {b : Nat} {v : Val} {er : Value} (hs : tmps[s]? = some (.pointer (some ⟨b, 0, none⟩))) (hk : tmps[k]? = some er) (z : ValC W b 0 v) :
    (results fn tmps).run Tryz.prog W = .ok (.tuple #[.agg v.cells, er]) W := by
  obtain ⟨c0, c1, c2, c3⟩ := z
  simp only [Nat.zero_add] at c1 c2 c3
  simp [results, h, hs, hk, go_sem, c0, c1, c2, c3, Val.cells]
theorem results_c {fn : Func} {s : Nat} (h : fn.results = #[.cell s 26]) {tmps : Array Value} {W : World} {b : Nat} {v : Val} (hs : tmps[s]? = some (.pointer (some ⟨b, 0, none⟩))) (z : ValC W b 0 v) :
    (results fn tmps).run Tryz.prog W = .ok (.agg v.cells) W := by
  obtain ⟨c0, c1, c2, c3⟩ := z
  simp only [Nat.zero_add] at c1 c2 c3
  simp [results, h, hs, go_sem, c0, c1, c2, c3, Val.cells]

set_option maxRecDepth 20000 in
set_option maxHeartbeats 4000000 in
theorem not51 (w : World) (v : Val) : Calls Tryz.prog 110 #[.agg #[.int .i64 v.kind, .int .i64 v.int, .string v.text, .bool v.bool]] w fun e w' => e = .returned (resV (notP v)) ∧ Hid (Below w.heap.size w w') := by
  cases hi : isK 3 v with
  | false =>
    have hr : notP v = (Val.null, some 7) := by simp [notP, hi]
    rw [hr]
    have HI := Lib.hid hi
    clear hi hr
    go_enter Tryz.func110, Tryz.ntmps110
    go_wp2_with (go_at_call 150; refine (is71 _ _ _ _ _ [v] (ValsAt.one (t := 26) (blk_new' rfl (by simp))) (by omega)).mono ?_; rintro e w1 ⟨rfl, h1⟩; rw [List.all_cons, HI.out, Bool.false_and])
    refine (null34 _).mono ?_
    rintro e w2 ⟨rfl, h2⟩
    have H2 := bt h2.out h1.out
    obtain ⟨hc, hf⟩ := bcell H2
    have hb : Below w.heap.size w w2 := H2.from3
    have hs := hb.size
    have zb : Blk w2 (w.heap.size + 1) 26 #[.int .i64 0, .int .i64 0, .string ⟨#[]⟩, .bool false] := ((blk_new' (w := w.alloc _) rfl (by simp)).alloc _).below H2
    have ZB := Lib.hid zb
    have HB := Lib.hid hb
    clear h1 h2 H2 zb hb
    go_wp2
    refine bodyPost_ret (results_cv (s := 2) (k := 3) rfl rfl rfl (val_set ZB.out _ _ _ _)) rfl ⟨rfl, Lib.hid (by have hb := HB.out; go_grown)⟩
  | true =>
    have HI := Lib.hid hi
    cases hn : nullB v with
    | true =>
      have hr : notP v = (Val.null, none) := by simp [notP, hi, hn]
      rw [hr]
      have HN := Lib.hid hn
      clear hi hr hn
      go_enter Tryz.func110, Tryz.ntmps110
      go_wp2_with (go_at_call 150; refine (is71 _ _ _ _ _ [v] (ValsAt.one (t := 26) (blk_new' rfl (by simp))) (by omega)).mono ?_; rintro e w1 ⟨rfl, h1⟩; rw [List.all_cons, HI.out, List.all_nil, Bool.true_and]; obtain ⟨hc, hf⟩ := bcell h1.out)
      refine (null72 _ _ _ _ [v] (ValsAt.one (t := 26) (blk_new' rfl rfl)) (by omega)).mono ?_
      rintro e w2 ⟨rfl, h2⟩
      rw [List.any_cons, HN.out, Bool.true_or]
      have H2 := bt h2.out.from1 h1.out
      clear hc hf
      go_wp2_with fail
      refine (null34 _).mono ?_
      rintro e w3 ⟨rfl, h3⟩
      have H3 := bt h3.out H2
      obtain ⟨hc, hf⟩ := bcell H3
      have hb : Below w.heap.size w w3 := H3.from3
      have zb : Blk w3 (w.heap.size + 1) 26 #[.int .i64 0, .int .i64 0, .string ⟨#[]⟩, .bool false] := ((blk_new' (w := w.alloc _) rfl (by simp)).alloc _).below H3
      have ZB := Lib.hid zb
      have HB := Lib.hid hb
      clear h1 h2 h3 H2 H3 zb hb
      go_wp2
      refine bodyPost_ret (results_cv (s := 2) (k := 3) rfl rfl rfl (val_set ZB.out _ _ _ _)) rfl ⟨rfl, Lib.hid (by have hb := HB.out; go_grown)⟩
    | false =>
      have hr : notP v = (Val.ofBool (!v.bool), none) := by simp [notP, hi, hn]
      rw [hr]
      have HN := Lib.hid hn
      clear hi hr hn
      go_enter Tryz.func110, Tryz.ntmps110
      go_wp2_with (go_at_call 150; refine (is71 _ _ _ _ _ [v] (ValsAt.one (t := 26) (blk_new' rfl (by simp))) (by omega)).mono ?_; rintro e w1 ⟨rfl, h1⟩; rw [List.all_cons, HI.out, List.all_nil, Bool.true_and]; obtain ⟨hc, hf⟩ := bcell h1.out)
      refine (null72 _ _ _ _ [v] (ValsAt.one (t := 26) (blk_new' rfl rfl)) (by omega)).mono ?_
      rintro e w2 ⟨rfl, h2⟩
      rw [List.any_cons, HN.out, List.any_nil, Bool.false_or]
      have H2 := bt h2.out.from1 h1.out
      clear hc hf
      obtain ⟨hc, hf⟩ := bcell H2
      go_wp2_with fail
      refine (bool52 _ _).mono ?_
      rintro e w3 ⟨rfl, h3⟩
      have H3 := bt h3.out H2
      clear hc hf
      obtain ⟨hc, hf⟩ := bcell H3
      have hb : Below w.heap.size w w3 := H3.from3
      have zb : Blk w3 (w.heap.size + 1) 26 #[.int .i64 0, .int .i64 0, .string ⟨#[]⟩, .bool false] := ((blk_new' (w := w.alloc _) rfl (by simp)).alloc _).below H3
      have ZB := Lib.hid zb
      have HB := Lib.hid hb
      clear h1 h2 h3 H2 H3 zb hb
      go_wp2
      refine bodyPost_ret (results_cv (s := 2) (k := 3) rfl rfl rfl (val_set ZB.out _ _ _ _)) rfl ⟨rfl, Lib.hid (by have hb := HB.out; go_grown)⟩

end Go.Proofs.YtbcmmecilheicaaGreatDoor
