/- eval.Of, Const; slices.Index, Contains; check.aggregate, Aggregates; eval.Constant: what law21.sure asks. check.Aggregates, eval.Constant of expressions without aggregates, columns and labels; law21.sure. -/
import Derived.Test.YtbcmmecilheicaaEvHI

/- eval.Of, Const; slices.Index, Contains; check.aggregate, Aggregates; eval.Constant: what law21.sure asks. -/
namespace Go.Proofs.Ytbcmmecilheicaa
open Go Go.RowKit

set_option maxRecDepth 100000 in
set_option maxHeartbeats 4000000 in
theorem of9 {W : World} (E : Env) (VA : Option Addr) (vn vc : Nat) (LA : Option Addr) (ln lc : Nat) (hE : EnvAt W E VA vn LA ln) {x : Ex} {A : Option Addr} {n c : Nat} (h : ExIs W x A n c) :
    Calls Try.prog 9 #[exAgg x A n c, .agg #[.int .i64 E.at_, .slice VA vn vc], .slice LA ln lc] W fun e w' => e = .returned (resV (evalP E x)) ∧ Hid (Below W.heap.size W w') := by
  have HC := Lib.hid (of19 E VA vn vc LA ln lc hE h (((W.alloc (.cells #[.string x.op, .int .i64 x.kind, .int .i64 x.col, .int .i64 x.val.kind, .int .i64 x.val.int, .string x.val.text, .bool x.val.bool, .slice A n c] 37)).alloc (.cells #[.int .i64 E.at_, .slice VA vn vc] 29)).alloc (.cells #[.int .i64 0, .int .i64 0, .string ⟨#[]⟩, .bool false] 23)) (bt (below_alloc _ _) (bt (below_alloc _ _) (below_alloc _ _))))
  unfold OneOk at HC
  obtain ⟨r, hr⟩ : ∃ r, r = evalP E x := ⟨_, rfl⟩
  rw [← hr] at HC
  rw [← hr]
  clear hr h hE
  obtain ⟨⟨rk, ri, rs, rb⟩, re⟩ := r
  go_enter Try.func9, Try.ntmps9
  go_wp2_with fail
  refine HC.out.mono ?_
  clear HC
  rintro e w1 ⟨rfl, h1⟩
  have zb := (blk_new' (w := (W.alloc _).alloc _) rfl (by simp) : Blk _ (W.heap.size + 1 + 1) 23 _).below h1.out
  have hfz := fun o => zb.frozen o
  have q0 := zb.cell 0
  have q1 := zb.cell 1
  have q2 := zb.cell 2
  have q3 := zb.cell 3
  have hl1 := zb.lt
  have ZB := Lib.hid zb
  have HB := Lib.hid h1.out.from3
  clear zb h1
  simp only [resV, Val.cells]
  go_wp2
  refine bodyPost_ret (results_cv (s := 6) (k := 7) rfl rfl rfl (val_set ZB.out _ _ _ _)) rfl ⟨rfl, Lib.hid (by have hb := HB.out; have hs := hb.size; go_grown)⟩

def E0 : Env := ⟨0, [], []⟩
theorem env0 (W : World) : EnvAt W E0 none 0 none 0 := ⟨ValsAt.nil W _, ⟨rfl, fun j z h => by simp [E0] at h⟩, fun v h => (by cases h), fun z h => (by cases h)⟩

set_option maxRecDepth 100000 in
set_option maxHeartbeats 4000000 in
theorem const17 {W : World} {x : Ex} {A : Option Addr} {n c : Nat} (h : ExIs W x A n c) :
    Calls Try.prog 17 #[exAgg x A n c] W fun e w' => e = .returned (resV (evalP E0 x)) ∧ Hid (Below W.heap.size W w') := by
  have hW : Below W.heap.size W ((W.alloc (.cells #[.string x.op, .int .i64 x.kind, .int .i64 x.col, .int .i64 x.val.kind, .int .i64 x.val.int, .string x.val.text, .bool x.val.bool, .slice A n c] 37)).alloc (.cells #[.int .i64 0, .int .i64 0, .string ⟨#[]⟩, .bool false] 23)) := bt (below_alloc _ _) (below_alloc _ _)
  have HC := Lib.hid (of9 E0 none 0 0 none 0 0 (env0 _) (h.bel hW))
  obtain ⟨r, hr⟩ : ∃ r, r = evalP E0 x := ⟨_, rfl⟩
  rw [← hr] at HC
  rw [← hr]
  clear hr h hW
  simp only [E0] at HC
  obtain ⟨⟨rk, ri, rs, rb⟩, re⟩ := r
  go_enter Try.func17, Try.ntmps17
  go_wp2_with fail
  refine HC.out.mono ?_
  clear HC
  rintro e w1 ⟨rfl, h1⟩
  have zb := (blk_new' (w := W.alloc _) rfl (by simp) : Blk _ (W.heap.size + 1) 23 _).below h1.out
  have hfz := fun o => zb.frozen o
  have q0 := zb.cell 0
  have q1 := zb.cell 1
  have q2 := zb.cell 2
  have q3 := zb.cell 3
  have hl1 := zb.lt
  have ZB := Lib.hid zb
  have HB := Lib.hid h1.out.from2
  clear zb h1
  simp only [resV, Val.cells]
  go_wp2
  refine bodyPost_ret (results_cv (s := 2) (k := 3) rfl rfl rfl (val_set ZB.out _ _ _ _)) rfl ⟨rfl, Lib.hid (by have hb := HB.out; have hs := hb.size; go_grown)⟩

set_option maxRecDepth 20000 in
set_option maxHeartbeats 2000000 in
/-- slices.Index, of a text that isn't there -/
theorem idx84 (w : World) (A : Option Addr) (n c : Nat) (l : List ByteArray) (h : StrsAt w A n l) (hn : n ≤ 1000000) (z : ByteArray) (hz : ∀ y ∈ l, (z.toList == y.toList) = false) :
    Calls Try.prog 84 #[.slice A n c, .string z] w fun e w' => e = .returned (.int .i64 (-1)) ∧ w = w' := by
  have H := Lib.hid h
  have HZ := Lib.hid hz
  clear h hz
  go_enter Try.func84, Try.ntmps84
  go_wp2
  go_loopg [8] n (fun kx s8 wr => ∃ j : Nat, s8 = .int .i64 j ∧ kx + j = n ∧ w = wr)
  case atStart => exact ⟨0, rfl, rfl, rfl⟩
  case round =>
    obtain ⟨j, rfl, hk, rfl⟩ := hrel
    by_cases hj : j < n
    · obtain ⟨y, hy⟩ : ∃ y, l[j]? = some y := ⟨_, List.getElem?_eq_getElem (by rw [H.out.len]; exact hj)⟩
      obtain ⟨b, off, rfl, hb, hc⟩ := H.out.at_ j y hy
      have hq := HZ.out y (List.mem_of_getElem? hy)
      have hjz : (j : Int) < (n : Int) := by omega
      have hj0 : (0 : Int) ≤ (j : Int) := by omega
      have hj1 : (j : Int) < 1000001 := by omega
      clear hy hb
      go_wp2
      go_roundg (gk - 1)
      case measure => omega
      case rel => exact ⟨j + 1, by first | rfl | (simp; done), by omega, rfl⟩
    · have hjz : ¬ (j : Int) < (n : Int) := by omega
      go_wp2
      go_ret
      exact ⟨rfl, rfl⟩
set_option maxHeartbeats 2000000 in
theorem contains68 (w : World) (A : Option Addr) (n c : Nat) (l : List ByteArray) (h : StrsAt w A n l) (hn : n ≤ 1000000) (z : ByteArray) (hz : ∀ y ∈ l, (z.toList == y.toList) = false) :
    Calls Try.prog 68 #[.slice A n c, .string z] w fun e w' => e = .returned (.bool false) ∧ w = w' := by
  have HC := Lib.hid (idx84 w A n c l h hn z hz)
  clear h hz
  go_enter Try.func68, Try.ntmps68
  go_wp2_with (go_at_call 84; refine HC.out.mono ?_; rintro e w1 ⟨rfl, rfl⟩)
  go_ret
  exact ⟨rfl, rfl⟩
/-- the aggregates' names -/
def aggs : List ByteArray := [⟨#[114, 111, 119, 115]⟩, ⟨#[99, 111, 117, 110, 116]⟩, ⟨#[115, 117, 109]⟩, ⟨#[109, 105, 110]⟩, ⟨#[109, 97, 120]⟩]
set_option maxHeartbeats 2000000 in
theorem agg47 (w : World) (z : ByteArray) (hz : ∀ y ∈ aggs, (z.toList == y.toList) = false) : Calls Try.prog 47 #[.string z] w fun e w' => e = .returned (.bool false) ∧ Hid (Below w.heap.size w w') := by
  have zb := Blk.new w 9 #[.string ⟨#[114, 111, 119, 115]⟩, .string ⟨#[99, 111, 117, 110, 116]⟩, .string ⟨#[115, 117, 109]⟩, .string ⟨#[109, 105, 110]⟩, .string ⟨#[109, 97, 120]⟩]
  have HC := Lib.hid (contains68 (w.alloc (.cells #[.string ⟨#[114, 111, 119, 115]⟩, .string ⟨#[99, 111, 117, 110, 116]⟩, .string ⟨#[115, 117, 109]⟩, .string ⟨#[109, 105, 110]⟩, .string ⟨#[109, 97, 120]⟩] 9)) (some ⟨w.heap.size, 0, none⟩) 5 5 aggs ⟨rfl, fun j y hj => by
    match j, hj with
    | 0, hj => obtain rfl : _ = y := Option.some.inj hj; exact ⟨_, _, rfl, zb.lt, zb.cell 0⟩
    | 1, hj => obtain rfl : _ = y := Option.some.inj hj; exact ⟨_, _, rfl, zb.lt, zb.cell 1⟩
    | 2, hj => obtain rfl : _ = y := Option.some.inj hj; exact ⟨_, _, rfl, zb.lt, zb.cell 2⟩
    | 3, hj => obtain rfl : _ = y := Option.some.inj hj; exact ⟨_, _, rfl, zb.lt, zb.cell 3⟩
    | 4, hj => obtain rfl : _ = y := Option.some.inj hj; exact ⟨_, _, rfl, zb.lt, zb.cell 4⟩
    | j + 5, hj => simp [aggs] at hj⟩ (by omega) z hz)
  clear zb hz
  go_enter Try.func47, Try.ntmps47
  go_wp2_with (go_at_call 68; refine HC.out.mono ?_; rintro e w1 ⟨rfl, rfl⟩)
  go_ret
  exact ⟨rfl, Lib.hid (below_alloc _ _)⟩

end Go.Proofs.Ytbcmmecilheicaa

/- check.Aggregates, eval.Constant of expressions without aggregates, columns and labels; law21.sure. -/
namespace Go.Proofs.Ytbcmmecilheicaa
open Go Go.RowKit

set_option maxRecDepth 100000 in
set_option maxHeartbeats 4000000 in
/-- slices.IndexFunc, of what is true of none -/
theorem idxf69 (w : World) (es : List Ex) (A : Option Addr) (n c b off : Nat) (len : es.length = n) (hn9 : n ≤ 1000000) (hA : 0 < n → A = some ⟨b, off, none⟩ ∧ b < w.heap.size)
    (As : Nat → Option Addr) (ns cs : Nat → Nat) (cells : ∀ (j : Nat) (e : Ex), es[j]? = some e → ExC w b (off + j * 8) e (As j) (ns j) (cs j)) (calls : ∀ (j : Nat) (e : Ex), es[j]? = some e → ∀ W, Below w.heap.size w W → Calls Try.prog 33 #[exAgg e (As j) (ns j) (cs j)] W fun e w' => e = .returned (.bool false) ∧ Hid (Below W.heap.size W w')) :
    Calls Try.prog 69 #[.slice A n c, .func (.func 33) #[] #[]] w fun e w' => e = .returned (.int .i64 (-1)) ∧ Hid (Below w.heap.size w w') := by
  have HA := Lib.hid hA
  have HC := Lib.hid cells
  have HK := Lib.hid calls
  have HL := Lib.hid len
  clear hA cells calls len
  go_enter Try.func69, Try.ntmps69
  go_wp2
  go_loopg [8] n (fun kx s8 wr => ∃ i : Nat, s8 = .int .i64 i ∧ kx + i = n ∧ Hid (Below w.heap.size w wr))
  case atStart => exact ⟨0, rfl, rfl, Lib.hid (Below.refl _ _)⟩
  case round =>
    obtain ⟨i, rfl, hk, I⟩ := hrel
    by_cases hi : i < n
    · obtain ⟨x, hx⟩ : ∃ x, es[i]? = some x := ⟨_, List.getElem?_eq_getElem (by rw [HL.out]; exact hi)⟩
      obtain ⟨hAe, hbl⟩ := HA.out (by omega)
      subst hAe
      obtain ⟨c0, c1, c2, c3, c4, c5, c6, c7⟩ := (HC.out i x hx).below hbl I.out
      have hx96 : (i : Int) < 1000001 := by omega
      have hiz : (i : Int) < (n : Int) := by omega
      have hi0 : (0 : Int) ≤ (i : Int) := by omega
      have call := Lib.hid (HK.out i x hx wr I.out)
      have BB := Lib.hid I.out
      clear hx I
      go_wp2_with fail
      refine call.out.mono ?_
      clear call c0 c1 c2 c3 c4 c5 c6 c7
      rintro e w2 ⟨rfl, h2⟩
      have B2 := Lib.hid (bt h2.out BB.out)
      clear h2
      go_wp2_with fail
      go_roundg (gk - 1)
      case measure => omega
      case rel => exact ⟨i + 1, by first | rfl | (simp; done), by omega, B2⟩
    · have hiz : ¬ (i : Int) < (n : Int) := by omega
      go_wp2_with fail
      go_ret
      exact ⟨rfl, I⟩

/-- no aggregate lies in it -/
def AggNo (x : Ex) (A : Option Addr) (n c : Nat) (W : World) : Prop := Calls Try.prog 33 #[exAgg x A n c] W fun e w' => e = .returned (.bool false) ∧ Hid (Below W.heap.size W w')

set_option maxRecDepth 100000 in
set_option maxHeartbeats 4000000 in
theorem agg33 (w : World) (op : ByteArray) (kind col : Int) (v : Val) (es : List Ex) (A : Option Addr) (n c b off : Nat) (hop : ∀ y ∈ aggs, (op.toList == y.toList) = false) (len : es.length = n) (hn9 : n ≤ 1000000) (hA : 0 < n → A = some ⟨b, off, none⟩ ∧ b < w.heap.size)
    (As : Nat → Option Addr) (ns cs : Nat → Nat) (cells : ∀ (j : Nat) (e : Ex), es[j]? = some e → ExC w b (off + j * 8) e (As j) (ns j) (cs j)) (calls : ∀ (j : Nat) (e : Ex), es[j]? = some e → ∀ W, Below w.heap.size w W → AggNo e (As j) (ns j) (cs j) W) :
    AggNo (.mk op kind col v es) A n c w := by
  unfold AggNo
  show Calls Try.prog 33 #[.agg #[.string op, .int .i64 kind, .int .i64 col, .int .i64 v.kind, .int .i64 v.int, .string v.text, .bool v.bool, .slice A n c]] w _
  have HF := Lib.hid (fun (W : World) (hb : Below w.heap.size w W) => idxf69 W es A n c b off len hn9 (fun h => ⟨(hA h).1, Nat.lt_of_lt_of_le (hA h).2 hb.size⟩) As ns cs (fun j e hj => (cells j e hj).below (hA (by have := (List.getElem?_eq_some_iff.1 hj).1; omega)).2 hb) (fun j e hj W2 h2 => calls j e hj W2 (bt h2 hb)))
  have HG := Lib.hid (fun W => agg47 W op hop)
  clear hop len hA cells calls
  go_enter Try.func33, Try.ntmps33
  go_wp2_with fail
  refine (HG.out _).mono ?_
  rintro e w1 ⟨rfl, h1⟩
  have zx := (Blk.new w 37 #[.string op, .int .i64 kind, .int .i64 col, .int .i64 v.kind, .int .i64 v.int, .string v.text, .bool v.bool, .slice A n c]).below h1.out
  have z7 := zx.cell 7
  have B1 := Lib.hid (show Below w.heap.size w w1 from h1.out.from1)
  clear zx h1
  have HK := Lib.hid (HF.out w1 B1.out)
  have HCF : Hid (Calls Try.prog 48 #[.slice A n c, .func (.func 33) #[] #[]] w1 fun e w' => e = .returned (.bool false) ∧ Hid (Below w1.heap.size w1 w')) := Lib.hid (by
    clear z7
    go_enter Try.func48, Try.ntmps48
    go_wp2_with (go_at_call 69; refine HK.out.mono ?_; rintro e w2 ⟨rfl, h2⟩)
    go_ret
    exact ⟨rfl, h2⟩)
  go_wp2_with fail
  refine HCF.out.mono ?_
  rintro e w2 ⟨rfl, h2⟩
  have B2 := Lib.hid (bt h2.out B1.out)
  clear h2 z7
  go_wp2_with fail
  go_ret
  exact ⟨rfl, B2⟩

/-- it is constant -/
def ConY (x : Ex) (A : Option Addr) (n c : Nat) (W : World) : Prop := Calls Try.prog 18 #[exAgg x A n c] W fun e w' => e = .returned (.bool true) ∧ Hid (Below W.heap.size W w')

set_option maxRecDepth 100000 in
set_option maxHeartbeats 4000000 in
theorem const18 (w : World) (op : ByteArray) (kind col : Int) (v : Val) (es : List Ex) (A : Option Addr) (n c b off : Nat) (o2 : (op.toList == [99, 111, 108]) = false) (o3 : (op.toList == [108, 97, 98, 101, 108]) = false) (hagg : ∀ W, Below w.heap.size w W → AggNo (.mk op kind col v es) A n c W) (len : es.length = n) (hn9 : n ≤ 1000000) (hA : 0 < n → A = some ⟨b, off, none⟩ ∧ b < w.heap.size)
    (As : Nat → Option Addr) (ns cs : Nat → Nat) (cells : ∀ (j : Nat) (e : Ex), es[j]? = some e → ExC w b (off + j * 8) e (As j) (ns j) (cs j)) (calls : ∀ (j : Nat) (e : Ex), es[j]? = some e → ∀ W, Below w.heap.size w W → ConY e (As j) (ns j) (cs j) W) :
    ConY (.mk op kind col v es) A n c w := by
  unfold ConY
  show Calls Try.prog 18 #[.agg #[.string op, .int .i64 kind, .int .i64 col, .int .i64 v.kind, .int .i64 v.int, .string v.text, .bool v.bool, .slice A n c]] w _
  have HG : Hid (∀ W, Below w.heap.size w W → Calls Try.prog 33 #[.agg #[.string op, .int .i64 kind, .int .i64 col, .int .i64 v.kind, .int .i64 v.int, .string v.text, .bool v.bool, .slice A n c]] W fun e w' => e = .returned (.bool false) ∧ Hid (Below W.heap.size W w')) := Lib.hid hagg
  have HA := Lib.hid hA
  have HC := Lib.hid cells
  have HK := Lib.hid calls
  have HL := Lib.hid len
  clear hagg len hA cells calls
  go_enter Try.func18, Try.ntmps18
  go_wp2_with fail
  refine (HG.out _ (below_alloc _ _)).mono ?_
  rintro e w1 ⟨rfl, h1⟩
  have zx := (Blk.new w 37 #[.string op, .int .i64 kind, .int .i64 col, .int .i64 v.kind, .int .i64 v.int, .string v.text, .bool v.bool, .slice A n c]).below h1.out
  have z7 := zx.cell 7
  have B1 := Lib.hid (show Below w.heap.size w w1 from h1.out.from1)
  clear zx h1
  go_wp2_with fail
  go_loopg [20] n (fun kx s20 wr => ∃ i : Nat, s20 = .int .i64 i ∧ kx + i = n ∧ Hid (Below w.heap.size w wr))
  case atStart => exact ⟨0, rfl, rfl, B1⟩
  case round =>
    obtain ⟨i, rfl, hk, I⟩ := hrel
    by_cases hi : i < n
    · obtain ⟨x, hx⟩ : ∃ x, es[i]? = some x := ⟨_, List.getElem?_eq_getElem (by rw [HL.out]; exact hi)⟩
      obtain ⟨hAe, hbl⟩ := HA.out (by omega)
      subst hAe
      obtain ⟨c0, c1, c2, c3, c4, c5, c6, c7⟩ := (HC.out i x hx).below hbl I.out
      have hx96 : (i : Int) < 1000001 := by omega
      have hiz : (i : Int) < (n : Int) := by omega
      have hi0 : (0 : Int) ≤ (i : Int) := by omega
      have call0 := HK.out i x hx (wr.alloc (.cells #[.string x.op, .int .i64 x.kind, .int .i64 x.col, .int .i64 x.val.kind, .int .i64 x.val.int, .string x.val.text, .bool x.val.bool, .slice (As i) (ns i) (cs i)] 37)) (bt (below_alloc _ _) I.out)
      unfold ConY at call0
      have call := Lib.hid call0
      have BB := Lib.hid I.out
      clear hx I call0
      go_wp2_with fail
      refine call.out.mono ?_
      clear call c0 c1 c2 c3 c4 c5 c6 c7
      rintro e w2 ⟨rfl, h2⟩
      have B2 := Lib.hid (bt h2.out.from1 BB.out)
      clear h2
      go_wp2_with fail
      go_roundg (gk - 1)
      case measure => omega
      case rel => exact ⟨i + 1, by first | rfl | (simp; done), by omega, B2⟩
    · have hiz : ¬ (i : Int) < (n : Int) := by omega
      go_wp2_with fail
      go_ret
      exact ⟨rfl, I⟩

end Go.Proofs.Ytbcmmecilheicaa
