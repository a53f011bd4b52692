/- eval.Of, Const; slices.Index, Contains; check.aggregate, Aggregates; eval.Constant: what law21.sure asks. -/
import Derived.Test.YtbcmmecilheicaaGreatDoorEvI
namespace Go.Proofs.YtbcmmecilheicaaGreatDoor
open Go Go.RowKit

set_option maxRecDepth 100000 in
set_option maxHeartbeats 4000000 in
theorem of9 {W : World} (E : Env) (VA : Option Addr) (vn vc : Nat) (LA : Option Addr) (ln lc : Nat) (hE : EnvAt W E VA vn LA ln) {x : Ex} {A : Option Addr} {n c : Nat} (h : ExIs W x A n c) :
    Calls Tryz.prog 11 #[exAgg x A n c, .agg #[.int .i64 E.at_, .slice VA vn vc], .slice LA ln lc] W fun e w' => e = .returned (resV (evalP E x)) ∧ Hid (Below W.heap.size W w') := by
  have HC := Lib.hid (of19 E VA vn vc LA ln lc hE h (((W.alloc (.cells #[.string x.op, .int .i64 x.kind, .int .i64 x.col, .int .i64 x.val.kind, .int .i64 x.val.int, .string x.val.text, .bool x.val.bool, .slice A n c] 51)).alloc (.cells #[.int .i64 E.at_, .slice VA vn vc] 32)).alloc (.cells #[.int .i64 0, .int .i64 0, .string ⟨#[]⟩, .bool false] 26)) (bt (below_alloc _ _) (bt (below_alloc _ _) (below_alloc _ _))))
  unfold OneOk at HC
  obtain ⟨r, hr⟩ : ∃ r, r = evalP E x := ⟨_, rfl⟩
  rw [← hr] at HC
  rw [← hr]
  clear hr h hE
  obtain ⟨⟨rk, ri, rs, rb⟩, re⟩ := r
  go_enter Tryz.func11, Tryz.ntmps11
  go_wp2_with fail
  refine HC.out.mono ?_
  clear HC
  rintro e w1 ⟨rfl, h1⟩
  have zb := (blk_new' (w := (W.alloc _).alloc _) rfl (by simp) : Blk _ (W.heap.size + 1 + 1) 26 _).below h1.out
  have hfz := fun o => zb.frozen o
  have q0 := zb.cell 0
  have q1 := zb.cell 1
  have q2 := zb.cell 2
  have q3 := zb.cell 3
  have hl1 := zb.lt
  have ZB := Lib.hid zb
  have HB := Lib.hid h1.out.from3
  clear zb h1
  simp only [resV, Val.cells]
  go_wp2
  refine bodyPost_ret (results_cv (s := 6) (k := 7) rfl rfl rfl (val_set ZB.out _ _ _ _)) rfl ⟨rfl, Lib.hid (by have hb := HB.out; have hs := hb.size; go_grown)⟩

def E0 : Env := ⟨0, [], []⟩
theorem env0 (W : World) : EnvAt W E0 none 0 none 0 := ⟨ValsAt.nil W _, ⟨rfl, fun j z h => by simp [E0] at h⟩, fun v h => (by cases h), fun z h => (by cases h)⟩

set_option maxRecDepth 100000 in
set_option maxHeartbeats 4000000 in
theorem const17 {W : World} {x : Ex} {A : Option Addr} {n c : Nat} (h : ExIs W x A n c) :
    Calls Tryz.prog 37 #[exAgg x A n c] W fun e w' => e = .returned (resV (evalP E0 x)) ∧ Hid (Below W.heap.size W w') := by
  have hW : Below W.heap.size W ((W.alloc (.cells #[.string x.op, .int .i64 x.kind, .int .i64 x.col, .int .i64 x.val.kind, .int .i64 x.val.int, .string x.val.text, .bool x.val.bool, .slice A n c] 51)).alloc (.cells #[.int .i64 0, .int .i64 0, .string ⟨#[]⟩, .bool false] 26)) := bt (below_alloc _ _) (below_alloc _ _)
  have HC := Lib.hid (of9 E0 none 0 0 none 0 0 (env0 _) (h.bel hW))
  obtain ⟨r, hr⟩ : ∃ r, r = evalP E0 x := ⟨_, rfl⟩
  rw [← hr] at HC
  rw [← hr]
  clear hr h hW
  simp only [E0] at HC
  obtain ⟨⟨rk, ri, rs, rb⟩, re⟩ := r
  go_enter Tryz.func37, Tryz.ntmps37
  go_wp2_with fail
  refine HC.out.mono ?_
  clear HC
  rintro e w1 ⟨rfl, h1⟩
  have zb := (blk_new' (w := W.alloc _) rfl (by simp) : Blk _ (W.heap.size + 1) 26 _).below h1.out
  have hfz := fun o => zb.frozen o
  have q0 := zb.cell 0
  have q1 := zb.cell 1
  have q2 := zb.cell 2
  have q3 := zb.cell 3
  have hl1 := zb.lt
  have ZB := Lib.hid zb
  have HB := Lib.hid h1.out.from2
  clear zb h1
  simp only [resV, Val.cells]
  go_wp2
  refine bodyPost_ret (results_cv (s := 2) (k := 3) rfl rfl rfl (val_set ZB.out _ _ _ _)) rfl ⟨rfl, Lib.hid (by have hb := HB.out; have hs := hb.size; go_grown)⟩

set_option maxRecDepth 20000 in
set_option maxHeartbeats 2000000 in
/-- slices.Index, of a text that isn't there -/
theorem idx84 (w : World) (A : Option Addr) (n c : Nat) (l : List ByteArray) (h : StrsAt w A n l) (hn : n ≤ 1000000) (z : ByteArray) (hz : ∀ y ∈ l, (z.toList == y.toList) = false) :
    Calls Tryz.prog 170 #[.slice A n c, .string z] w fun e w' => e = .returned (.int .i64 (-1)) ∧ w = w' := by
  have H := Lib.hid h
  have HZ := Lib.hid hz
  clear h hz
  go_enter Tryz.func170, Tryz.ntmps170
  go_wp2
  go_loopg [8] n (fun kx s8 wr => ∃ j : Nat, s8 = .int .i64 j ∧ kx + j = n ∧ w = wr)
  case atStart => exact ⟨0, rfl, rfl, rfl⟩
  case round =>
    obtain ⟨j, rfl, hk, rfl⟩ := hrel
    by_cases hj : j < n
    · obtain ⟨y, hy⟩ : ∃ y, l[j]? = some y := ⟨_, List.getElem?_eq_getElem (by rw [H.out.len]; exact hj)⟩
      obtain ⟨b, off, rfl, hb, hc⟩ := H.out.at_ j y hy
      have hq := HZ.out y (List.mem_of_getElem? hy)
      have hjz : (j : Int) < (n : Int) := by omega
      have hj0 : (0 : Int) ≤ (j : Int) := by omega
      have hj1 : (j : Int) < 1000001 := by omega
      clear hy hb
      go_wp2
      go_roundg (gk - 1)
      case measure => omega
      case rel => exact ⟨j + 1, by first | rfl | (simp; done), by omega, rfl⟩
    · have hjz : ¬ (j : Int) < (n : Int) := by omega
      go_wp2
      go_ret
      exact ⟨rfl, rfl⟩
set_option maxHeartbeats 2000000 in
theorem contains68 (w : World) (A : Option Addr) (n c : Nat) (l : List ByteArray) (h : StrsAt w A n l) (hn : n ≤ 1000000) (z : ByteArray) (hz : ∀ y ∈ l, (z.toList == y.toList) = false) :
    Calls Tryz.prog 147 #[.slice A n c, .string z] w fun e w' => e = .returned (.bool false) ∧ w = w' := by
  have HC := Lib.hid (idx84 w A n c l h hn z hz)
  clear h hz
  go_enter Tryz.func147, Tryz.ntmps147
  go_wp2_with (go_at_call 170; refine HC.out.mono ?_; rintro e w1 ⟨rfl, rfl⟩)
  go_ret
  exact ⟨rfl, rfl⟩
/-- the aggregates' names -/
def aggs : List ByteArray := [⟨#[114, 111, 119, 115]⟩, ⟨#[99, 111, 117, 110, 116]⟩, ⟨#[115, 117, 109]⟩, ⟨#[109, 105, 110]⟩, ⟨#[109, 97, 120]⟩]
set_option maxHeartbeats 2000000 in
theorem agg47 (w : World) (z : ByteArray) (hz : ∀ y ∈ aggs, (z.toList == y.toList) = false) : Calls Tryz.prog 106 #[.string z] w fun e w' => e = .returned (.bool false) ∧ Hid (Below w.heap.size w w') := by
  have zb := Blk.new w 9 #[.string ⟨#[114, 111, 119, 115]⟩, .string ⟨#[99, 111, 117, 110, 116]⟩, .string ⟨#[115, 117, 109]⟩, .string ⟨#[109, 105, 110]⟩, .string ⟨#[109, 97, 120]⟩]
  have HC := Lib.hid (contains68 (w.alloc (.cells #[.string ⟨#[114, 111, 119, 115]⟩, .string ⟨#[99, 111, 117, 110, 116]⟩, .string ⟨#[115, 117, 109]⟩, .string ⟨#[109, 105, 110]⟩, .string ⟨#[109, 97, 120]⟩] 9)) (some ⟨w.heap.size, 0, none⟩) 5 5 aggs ⟨rfl, fun j y hj => by
    match j, hj with
    | 0, hj => obtain rfl : _ = y := Option.some.inj hj; exact ⟨_, _, rfl, zb.lt, zb.cell 0⟩
    | 1, hj => obtain rfl : _ = y := Option.some.inj hj; exact ⟨_, _, rfl, zb.lt, zb.cell 1⟩
    | 2, hj => obtain rfl : _ = y := Option.some.inj hj; exact ⟨_, _, rfl, zb.lt, zb.cell 2⟩
    | 3, hj => obtain rfl : _ = y := Option.some.inj hj; exact ⟨_, _, rfl, zb.lt, zb.cell 3⟩
    | 4, hj => obtain rfl : _ = y := Option.some.inj hj; exact ⟨_, _, rfl, zb.lt, zb.cell 4⟩
    | j + 5, hj => simp [aggs] at hj⟩ (by omega) z hz)
  clear zb hz
  go_enter Tryz.func106, Tryz.ntmps106
  go_wp2_with (go_at_call 147; refine HC.out.mono ?_; rintro e w1 ⟨rfl, rfl⟩)
  go_ret
  exact ⟨rfl, Lib.hid (below_alloc _ _)⟩

end Go.Proofs.YtbcmmecilheicaaGreatDoor
