/- The walk of barbicanlaw21.EvalMorgan. -/
import Derived.Test.YtbcmmecilheicaaMorg0
import Derived.Test.YtbcmmecilheicaaFew
import Derived.Test.YtbcmmecilheicaaGive2
namespace Go.Proofs.Ytbcmmecilheicaa
open Go Go.RowKit

abbrev exA (x : Ex) (A : Option Addr) (n c : Nat) : Array Value := #[.string x.op, .int .i64 x.kind, .int .i64 x.col, .int .i64 x.val.kind, .int .i64 x.val.int, .string x.val.text, .bool x.val.bool, .slice A n c]

abbrev exZ : Array Value := #[.string ⟨#[]⟩, .int .i64 0, .int .i64 0, .int .i64 0, .int .i64 0, .string ⟨#[]⟩, .bool false, .slice none 0 0]
theorem one_al {W w' : World} {t : TypeId} {cs : Array Value} (h : Below (W.alloc (.cells cs t)).heap.size (W.alloc (.cells cs t)) w') : Blk w' W.heap.size t cs := (Blk.new W t cs).below h
theorem two_al {W w' : World} {t u : TypeId} {cs ds : Array Value} (h : Below ((W.alloc (.cells cs t)).alloc (.cells ds u)).heap.size ((W.alloc (.cells cs t)).alloc (.cells ds u)) w') : Blk w' W.heap.size t cs ∧ Blk w' (W.heap.size + 1) u ds :=
  ⟨((Blk.new W t cs).alloc _).below h, (blk_new' (w := W.alloc _) rfl (by simp)).below h⟩
theorem one_ald {W w' : World} {t : TypeId} {cs : Array Value} (h : Below (W.alloc (.cells cs t)).drew.heap.size (W.alloc (.cells cs t)).drew w') : Blk w' W.heap.size t cs := (show Blk (W.alloc (.cells cs t)).drew W.heap.size t cs from Blk.new W t cs).below h
theorem two_ald {W w' : World} {t u : TypeId} {cs ds : Array Value} (h : Below ((W.alloc (.cells cs t)).alloc (.cells ds u)).drew.heap.size ((W.alloc (.cells cs t)).alloc (.cells ds u)).drew w') : Blk w' W.heap.size t cs ∧ Blk w' (W.heap.size + 1) u ds :=
  ⟨(show Blk ((W.alloc (.cells cs t)).alloc (.cells ds u)).drew W.heap.size t cs from (Blk.new W t cs).alloc _).below h, (show Blk ((W.alloc (.cells cs t)).alloc (.cells ds u)).drew (W.heap.size + 1) u ds from (blk_new' (W := (W.alloc (.cells cs t)).alloc (.cells ds u)) (w := W.alloc (.cells cs t)) rfl (by simp) : Blk ((W.alloc (.cells cs t)).alloc (.cells ds u)) (W.heap.size + 1) u ds)).below h⟩
theorem exc_blk {W : World} {b : Nat} {t : TypeId} {x : Ex} {A : Option Addr} {n c : Nat} (h : Blk W b t (exA x A n c)) : ExC W b 0 x A n c :=
  ⟨h.cell 0, h.cell 1, h.cell 2, h.cell 3, h.cell 4, h.cell 5, h.cell 6, h.cell 7⟩
theorem exc_set {W : World} {b : Nat} {t : TypeId} {cs : Array Value} (z : Blk W b t cs) (x : Ex) (A : Option Addr) (n c : Nat) (hcs : cs = exZ := by rfl) :
    ExC ((((((((W.setCell ⟨b, 0, none⟩ (.string x.op)).setCell ⟨b, 1, none⟩ (.int .i64 x.kind)).setCell ⟨b, 2, none⟩ (.int .i64 x.col)).setCell ⟨b, 3, none⟩ (.int .i64 x.val.kind)).setCell ⟨b, 4, none⟩ (.int .i64 x.val.int)).setCell ⟨b, 5, none⟩ (.string x.val.text)).setCell ⟨b, 6, none⟩ (.bool x.val.bool)).setCell ⟨b, 7, none⟩ (.slice A n c)) b 0 x A n c := by
  subst hcs
  have h := ex_set z (.string x.op) (.int .i64 x.kind) (.int .i64 x.col) (.int .i64 x.val.kind) (.int .i64 x.val.int) (.string x.val.text) (.bool x.val.bool) (.slice A n c)
  exact ⟨h.cell 0, h.cell 1, h.cell 2, h.cell 3, h.cell 4, h.cell 5, h.cell 6, h.cell 7⟩
theorem blk_far {W : World} {b b' : Nat} {t : TypeId} {cs : Array Value} (z : Blk W b' t cs) (h : b' ≠ b) (d0 d1 d2 d3 d4 d5 d6 d7 : Value) :
    Blk ((((((((W.setCell ⟨b, 0, none⟩ d0).setCell ⟨b, 1, none⟩ d1).setCell ⟨b, 2, none⟩ d2).setCell ⟨b, 3, none⟩ d3).setCell ⟨b, 4, none⟩ d4).setCell ⟨b, 5, none⟩ d5).setCell ⟨b, 6, none⟩ d6).setCell ⟨b, 7, none⟩ d7) b' t cs := (ex_far h _ _ _ _ _ _ _ _).trans z

theorem exc_fst {W : World} {b b' : Nat} (z : Blk W b 37 exZ) (h : b ≠ b') {x : Ex} {A : Option Addr} {n c : Nat} {d0 d1 d2 d3 d4 d5 d6 d7 : Value} : ExC ((((((((((((((((W.setCell ⟨b, 0, none⟩ (.string x.op)).setCell ⟨b, 1, none⟩ (.int .i64 x.kind)).setCell ⟨b, 2, none⟩ (.int .i64 x.col)).setCell ⟨b, 3, none⟩ (.int .i64 x.val.kind)).setCell ⟨b, 4, none⟩ (.int .i64 x.val.int)).setCell ⟨b, 5, none⟩ (.string x.val.text)).setCell ⟨b, 6, none⟩ (.bool x.val.bool)).setCell ⟨b, 7, none⟩ (.slice A n c)).setCell ⟨b', 0, none⟩ d0).setCell ⟨b', 1, none⟩ d1).setCell ⟨b', 2, none⟩ d2).setCell ⟨b', 3, none⟩ d3).setCell ⟨b', 4, none⟩ d4).setCell ⟨b', 5, none⟩ d5).setCell ⟨b', 6, none⟩ d6).setCell ⟨b', 7, none⟩ d7) b 0 x A n c := (exc_set z x A n c).kept (ex_far h _ _ _ _ _ _ _ _)
theorem exc_snd {W : World} {b b' : Nat} (z : Blk W b 37 exZ) (h : b ≠ b') {x : Ex} {A : Option Addr} {n c : Nat} {d0 d1 d2 d3 d4 d5 d6 d7 : Value} : ExC ((((((((((((((((W.setCell ⟨b', 0, none⟩ d0).setCell ⟨b', 1, none⟩ d1).setCell ⟨b', 2, none⟩ d2).setCell ⟨b', 3, none⟩ d3).setCell ⟨b', 4, none⟩ d4).setCell ⟨b', 5, none⟩ d5).setCell ⟨b', 6, none⟩ d6).setCell ⟨b', 7, none⟩ d7).setCell ⟨b, 0, none⟩ (.string x.op)).setCell ⟨b, 1, none⟩ (.int .i64 x.kind)).setCell ⟨b, 2, none⟩ (.int .i64 x.col)).setCell ⟨b, 3, none⟩ (.int .i64 x.val.kind)).setCell ⟨b, 4, none⟩ (.int .i64 x.val.int)).setCell ⟨b, 5, none⟩ (.string x.val.text)).setCell ⟨b, 6, none⟩ (.bool x.val.bool)).setCell ⟨b, 7, none⟩ (.slice A n c)) b 0 x A n c := exc_set (blk_far z h _ _ _ _ _ _ _ _) x A n c
theorem exc_one {W : World} {b : Nat} (z : Blk W b 37 exZ) {x : Ex} {A : Option Addr} {n c : Nat} : ExC ((((((((W.setCell ⟨b, 0, none⟩ (.string x.op)).setCell ⟨b, 1, none⟩ (.int .i64 x.kind)).setCell ⟨b, 2, none⟩ (.int .i64 x.col)).setCell ⟨b, 3, none⟩ (.int .i64 x.val.kind)).setCell ⟨b, 4, none⟩ (.int .i64 x.val.int)).setCell ⟨b, 5, none⟩ (.string x.val.text)).setCell ⟨b, 6, none⟩ (.bool x.val.bool)).setCell ⟨b, 7, none⟩ (.slice A n c)) b 0 x A n c := exc_set z x A n c
theorem exc_als {W : World} {b : Nat} (z : Blk W b 37 exZ) {x : Ex} {A : Option Addr} {n c : Nat} {o : Obj} : ExC (((((((((W.setCell ⟨b, 0, none⟩ (.string x.op)).setCell ⟨b, 1, none⟩ (.int .i64 x.kind)).setCell ⟨b, 2, none⟩ (.int .i64 x.col)).setCell ⟨b, 3, none⟩ (.int .i64 x.val.kind)).setCell ⟨b, 4, none⟩ (.int .i64 x.val.int)).setCell ⟨b, 5, none⟩ (.string x.val.text)).setCell ⟨b, 6, none⟩ (.bool x.val.bool)).setCell ⟨b, 7, none⟩ (.slice A n c)).alloc o) b 0 x A n c := (exc_set z x A n c).kept (Below.heap_alloc _ _ _ (by simp only [World.size_setCell]; exact z.lt))
theorem exc_lit1 {W : World} {x : Ex} {A : Option Addr} {n c : Nat} {o : Obj} : ExC ((W.alloc (.cells (exA x A n c) 37)).alloc o) W.heap.size 0 x A n c := exc_blk ((Blk.new W 37 _).alloc _)
theorem exc_lit2 {W : World} {x : Ex} {A : Option Addr} {n c : Nat} {o : Obj} : ExC ((W.alloc o).alloc (.cells (exA x A n c) 37)) (W.heap.size + 1) 0 x A n c := exc_blk (blk_new' (w := W.alloc o) rfl (by simp))
theorem exc_lit3 {W : World} {x : Ex} {A : Option Addr} {n c : Nat} {b : Nat} {d0 d1 d2 d3 d4 d5 d6 d7 : Value} : ExC (((((((((W.setCell ⟨b, 0, none⟩ d0).setCell ⟨b, 1, none⟩ d1).setCell ⟨b, 2, none⟩ d2).setCell ⟨b, 3, none⟩ d3).setCell ⟨b, 4, none⟩ d4).setCell ⟨b, 5, none⟩ d5).setCell ⟨b, 6, none⟩ d6).setCell ⟨b, 7, none⟩ d7).alloc (.cells (exA x A n c) 37)) W.heap.size 0 x A n c := exc_blk (blk_new' rfl (by simp only [World.size_setCell]))

set_option maxRecDepth 100000 in
set_option maxHeartbeats 40000000 in
theorem evalMorgan3 (w : World) (E : Env) (VA : Option Addr) (vn vc : Nat) (LA : Option Addr) (ln lc : Nat) (hE : EnvAt w E VA vn LA ln) (xa xb : Ex) (Aa : Option Addr) (na ca : Nat) (Ab : Option Addr) (nb cb : Nat) (ha : ExIs w xa Aa na ca) (hb : ExIs w xb Ab nb cb) :
    Calls Try.prog 3 #[exAgg xa Aa na ca, exAgg xb Ab nb cb, .agg #[.int .i64 E.at_, .slice VA vn vc, .slice LA ln lc]] w fun e w' => e = .returned (.bool true) ∧ Hid (Below w.heap.size w w') := by
  have hsu := Lib.hid sure7
  have HE := Lib.hid hE
  have HA := Lib.hid ha
  have HB := Lib.hid hb
  clear hE ha hb
  go_enter Try.func3, Try.ntmps3
  go_upto_region 1 with fail
  obtain ⟨w1, hw1⟩ : ∃ y, y = ((w.alloc (.cells (exA xa Aa na ca) 26)).alloc (.cells (exA xb Ab nb cb) 26)).alloc (.cells #[.int .i64 E.at_, .slice VA vn vc, .slice LA ln lc] 32) := ⟨_, rfl⟩
  have ZA := Lib.hid (show Blk w1 w.heap.size 26 (exA xa Aa na ca) by rw [hw1]; exact ((blk_new' (w := w) rfl rfl).alloc _).alloc _)
  have ZB := Lib.hid (show Blk w1 (w.heap.size + 1) 26 (exA xb Ab nb cb) by rw [hw1]; exact (blk_new' (w := w.alloc _) rfl (by simp)).alloc _)
  have ZO := Lib.hid (show Blk w1 (w.heap.size + 1 + 1) 32 #[.int .i64 E.at_, .slice VA vn vc, .slice LA ln lc] by rw [hw1]; exact blk_new' (w := (w.alloc _).alloc _) rfl (by simp))
  have BW := Lib.hid (show Below w.heap.size w w1 by rw [hw1]; exact bt (below_alloc _ _) (bt (below_alloc _ _) (below_alloc _ _)))
  rw [← hw1]
  clear hw1
  have kA := Lib.hid (fun (W : World) (h : Below w1.heap.size w1 W) => (show W.cell? ⟨w.heap.size, 0, none⟩ = some (.string xa.op) ∧ W.cell? ⟨w.heap.size, 1, none⟩ = some (.int .i64 xa.kind) ∧ W.cell? ⟨w.heap.size, 2, none⟩ = some (.int .i64 xa.col) ∧ W.cell? ⟨w.heap.size, 3, none⟩ = some (.int .i64 xa.val.kind) ∧ W.cell? ⟨w.heap.size, 4, none⟩ = some (.int .i64 xa.val.int) ∧ W.cell? ⟨w.heap.size, 5, none⟩ = some (.string xa.val.text) ∧ W.cell? ⟨w.heap.size, 6, none⟩ = some (.bool xa.val.bool) ∧ W.cell? ⟨w.heap.size, 7, none⟩ = some (.slice Aa na ca) from
    have z := ZA.out.below h; ⟨z.cell 0, z.cell 1, z.cell 2, z.cell 3, z.cell 4, z.cell 5, z.cell 6, z.cell 7⟩))
  have kB := Lib.hid (fun (W : World) (h : Below w1.heap.size w1 W) => (show W.cell? ⟨w.heap.size + 1, 0, none⟩ = some (.string xb.op) ∧ W.cell? ⟨w.heap.size + 1, 1, none⟩ = some (.int .i64 xb.kind) ∧ W.cell? ⟨w.heap.size + 1, 2, none⟩ = some (.int .i64 xb.col) ∧ W.cell? ⟨w.heap.size + 1, 3, none⟩ = some (.int .i64 xb.val.kind) ∧ W.cell? ⟨w.heap.size + 1, 4, none⟩ = some (.int .i64 xb.val.int) ∧ W.cell? ⟨w.heap.size + 1, 5, none⟩ = some (.string xb.val.text) ∧ W.cell? ⟨w.heap.size + 1, 6, none⟩ = some (.bool xb.val.bool) ∧ W.cell? ⟨w.heap.size + 1, 7, none⟩ = some (.slice Ab nb cb) from
    have z := ZB.out.below h; ⟨z.cell 0, z.cell 1, z.cell 2, z.cell 3, z.cell 4, z.cell 5, z.cell 6, z.cell 7⟩))
  obtain ⟨a0, a1, a2, a3, a4, a5, a6, a7⟩ := kA.out w1 (Below.refl _ _)
  have fA := Lib.hid (few6 HA.out w1 0 1000 BW.out)
  go_wp2_with fail
  refine fA.out.mono ?_
  clear fA a0 a1 a2 a3 a4 a5 a6 a7
  rintro e w2 ⟨k1, rfl, h2⟩
  by_cases hk1 : 1000 ≤ k1
  · have B2 := Lib.hid (bt h2.out BW.out)
    clear h2
    go_wp2_with fail
    refine (hsu.out _).mono ?_
    rintro e w3 ⟨rfl, h3⟩
    have B3 := Lib.hid (bt h3.out B2.out)
    clear h3
    go_wp2_with fail
    go_ret
    exact ⟨rfl, B3⟩
  · obtain ⟨b0, b1, b2, b3, b4, b5, b6, b7⟩ := kB.out w2 h2.out
    have fB := Lib.hid (few6 HB.out w2 0 1000 (bt h2.out BW.out))
    have B2 := Lib.hid h2.out
    clear h2
    go_wp2_with fail
    refine fB.out.mono ?_
    clear fB b0 b1 b2 b3 b4 b5 b6 b7
    rintro e w3 ⟨k2, rfl, h3⟩
    have B3 := Lib.hid (bt h3.out B2.out)
    clear h3
    by_cases hk2 : 1000 ≤ k2
    · go_wp2_with fail
      refine (hsu.out _).mono ?_
      rintro e w4 ⟨rfl, h4⟩
      have B4 := Lib.hid (bt h4.out (bt B3.out BW.out))
      clear h4
      go_wp2_with fail
      go_ret
      exact ⟨rfl, B4⟩
    · go_upto_region 3 with fail
      have B1 := Lib.hid (bt B3.out BW.out)
      go_cut [7, 8] from 20 (fun s7 s8 wx => ∃ (px py : Nat) (A1 : Option Addr) (c1 : Nat) (A2 : Option Addr) (c2 : Nat), s7 = .pointer (some ⟨px, 0, none⟩) ∧ s8 = .pointer (some ⟨py, 0, none⟩) ∧ Hid (Below w3.heap.size w3 wx ∧ px < wx.heap.size ∧ py < wx.heap.size ∧ ExC wx px 0 xa A1 na c1 ∧ ExC wx py 0 xb A2 nb c2 ∧ ExIs wx xa A1 na c1 ∧ ExIs wx xb A2 nb c2))
      case first =>
        have hb3 := below_drew w3
        have hs3 := hb3.size
        have gA : Hid (∀ W, Below w3.heap.size w3 W → Calls Try.prog 8 #[.agg (exA xa Aa na ca)] W (GivePost xa na W)) := Lib.hid (fun W h => give8 HA.out W (bt h B1.out))
        have gB : Hid (∀ W, Below w3.heap.size w3 W → Calls Try.prog 8 #[.agg (exA xb Ab nb cb)] W (GivePost xb nb W)) := Lib.hid (fun W h => give8 HB.out W (bt h B1.out))
        have kAB := Lib.hid (fun (W : World) (h : Below w3.heap.size w3 W) => And.intro (kA.out W (bt h B3.out)) (kB.out W (bt h B3.out)))
        clear kA kB
        go_region_held3 (fun W : World => (W.cell? ⟨w.heap.size, 0, none⟩ = some (.string xa.op) ∧ W.cell? ⟨w.heap.size, 1, none⟩ = some (.int .i64 xa.kind) ∧ W.cell? ⟨w.heap.size, 2, none⟩ = some (.int .i64 xa.col) ∧ W.cell? ⟨w.heap.size, 3, none⟩ = some (.int .i64 xa.val.kind) ∧ W.cell? ⟨w.heap.size, 4, none⟩ = some (.int .i64 xa.val.int) ∧ W.cell? ⟨w.heap.size, 5, none⟩ = some (.string xa.val.text) ∧ W.cell? ⟨w.heap.size, 6, none⟩ = some (.bool xa.val.bool) ∧ W.cell? ⟨w.heap.size, 7, none⟩ = some (.slice Aa na ca)) ∧ W.cell? ⟨w.heap.size + 1, 0, none⟩ = some (.string xb.op) ∧ W.cell? ⟨w.heap.size + 1, 1, none⟩ = some (.int .i64 xb.kind) ∧ W.cell? ⟨w.heap.size + 1, 2, none⟩ = some (.int .i64 xb.col) ∧ W.cell? ⟨w.heap.size + 1, 3, none⟩ = some (.int .i64 xb.val.kind) ∧ W.cell? ⟨w.heap.size + 1, 4, none⟩ = some (.int .i64 xb.val.int) ∧ W.cell? ⟨w.heap.size + 1, 5, none⟩ = some (.string xb.val.text) ∧ W.cell? ⟨w.heap.size + 1, 6, none⟩ = some (.bool xb.val.bool) ∧ W.cell? ⟨w.heap.size + 1, 7, none⟩ = some (.slice Ab nb cb))
          ((first | (refine kAB.out _ ?_; go_grown; done) | trivial))
          (first
            | (go_at_call 8; (with_reducible refine (gA.out _ ?_).mono ?_); · go_grown
               rintro e w4 ⟨A1, c1, rfl, i1, h4⟩; obtain ⟨hc4, hf4⟩ := bcell h4.out; have hz4 := h4.out.size; (try (simp only [World.size_alloc, World.size_drew] at hz4)); have hb4 := bt h4.out (show Below w3.heap.size w3 _ by go_grown); have hs4 := hb4.size; (first | ((with_reducible have pa := two_ald h4.out); obtain ⟨pa1, pa2⟩ := pa) | (with_reducible have pa1 := one_ald h4.out) | skip); (try (have e41 : w3.heap.size < w4.heap.size := (by omega))); (try (have e42 : w3.heap.size + 1 < w4.heap.size := (by omega))))
            | (go_at_call 8; (with_reducible refine (gB.out _ ?_).mono ?_); · go_grown
               rintro e w5 ⟨A2, c2, rfl, i2, h5⟩; obtain ⟨hc5, hf5⟩ := bcell h5.out; have hz5 := h5.out.size; (try (simp only [World.size_alloc, World.size_drew] at hz5)); have hb5 := bt h5.out (show Below w3.heap.size w3 _ by go_grown); have hs5 := hb5.size; (first | ((with_reducible have pb := two_al h5.out); obtain ⟨pb1, pb2⟩ := pb) | ((with_reducible have pb1 := one_al h5.out); (try (have pc1 := (pa1.alloc _).below h5.out))) | (try (have pc1 := pa1.below h5.out; (try (have pc2 := pa2.below h5.out))))); (try (have e51 : w3.heap.size < w5.heap.size := (by omega))); (try (have e52 : w3.heap.size + 1 < w5.heap.size := (by omega))); (try (have e53 : w4.heap.size < w5.heap.size := (by omega))); (try (have e54 : w4.heap.size + 1 < w5.heap.size := (by omega)))))
        all_goals
          go_wp2_with fail
          go_meet
          case rel =>
            refine ⟨_, _, A1, c1, A2, c2, rfl, rfl, Lib.hid ⟨?_, ?_, ?_, ?_, ?_, ?_, ?_⟩⟩
            · go_grown
            · simp only [World.size_setCell, World.size_alloc]; omega
            · simp only [World.size_setCell, World.size_alloc]; omega
            · first
                | (with_reducible exact exc_lit1) | (with_reducible exact exc_lit2) | (with_reducible exact exc_lit3)
                | (with_reducible refine exc_one ?_; assumption)
                | (with_reducible refine exc_als ?_; assumption)
                | (with_reducible refine exc_fst ?_ ?_ <;> first | assumption | omega)
                | (with_reducible refine exc_snd ?_ ?_ <;> first | assumption | omega)
            · first
                | (with_reducible exact exc_lit1) | (with_reducible exact exc_lit2) | (with_reducible exact exc_lit3)
                | (with_reducible refine exc_one ?_; assumption)
                | (with_reducible refine exc_als ?_; assumption)
                | (with_reducible refine exc_fst ?_ ?_ <;> first | assumption | omega)
                | (with_reducible refine exc_snd ?_ ?_ <;> first | assumption | omega)
            · refine (i1.out.keep (S' := fun _ => True) (fun b hb hl => ?_) (fun _ _ _ => trivial) (by (try simp only [World.size_setCell, World.size_alloc]); omega)).is
              (try simp only [World.size_alloc, World.size_drew] at hb)
              (repeat (first | (rw [ex_far (by omega)]) | (rw [Below.heap_alloc _ _ _ (by (try simp only [World.size_alloc, World.size_setCell, World.size_drew]); omega)]) | (rw [h5.out.block _ (by (try simp only [World.size_alloc, World.size_setCell, World.size_drew]); omega)])))
            · refine (i2.out.keep (S' := fun _ => True) (fun b hb hl => ?_) (fun _ _ _ => trivial) (by (try simp only [World.size_setCell, World.size_alloc]); omega)).is
              (try simp only [World.size_alloc, World.size_drew] at hb)
              (repeat (first | (rw [ex_far (by omega)]) | (rw [Below.heap_alloc _ _ _ (by (try simp only [World.size_alloc, World.size_setCell, World.size_drew]); omega)]) | (rw [h5.out.block _ (by (try simp only [World.size_alloc, World.size_setCell, World.size_drew]); omega)])))
      case rest =>
        obtain ⟨px, py, A1, c1, A2, c2, rfl, rfl, H⟩ := hcut
        obtain ⟨x0, x1, x2, x3, x4, x5, x6, x7⟩ := H.out.2.2.2.1
        obtain ⟨y0, y1, y2, y3, y4, y5, y6, y7⟩ := H.out.2.2.2.2.1
        simp only [Nat.zero_add] at x1 x2 x3 x4 x5 x6 x7 y1 y2 y3 y4 y5 y6 y7
        have hpl := H.out.2.1
        have hql := H.out.2.2.1
        have hp1 : px < wc.heap.size + 1 := by omega
        have hp2 : px < wc.heap.size + 1 + 1 := by omega
        have hq1 : py < wc.heap.size + 1 := by omega
        have hq2 : py < wc.heap.size + 1 + 1 := by omega
        have hp3 : px < wc.heap.size + 1 + 1 + 1 := by omega
        have hq3 : py < wc.heap.size + 1 + 1 + 1 := by omega
        have hq4 : py < wc.heap.size + 1 + 1 + 1 + 1 := by omega
        have Bc := Lib.hid (bt H.out.1 (bt B3.out BW.out))
        have Bo := Lib.hid (bt H.out.1 B3.out)
        have IA := Lib.hid H.out.2.2.2.2.2.1
        have IB := Lib.hid H.out.2.2.2.2.2.2
        clear H
        go_upto_region 6 with fail
        obtain ⟨W5, hW5⟩ : ∃ y, y = ((((((wc.alloc (.cells #[.string xa.op, .int .i64 xa.kind, .int .i64 xa.col, .int .i64 xa.val.kind, .int .i64 xa.val.int, .string xa.val.text, .bool xa.val.bool, .slice A1 na c1, .string xb.op, .int .i64 xb.kind, .int .i64 xb.col, .int .i64 xb.val.kind, .int .i64 xb.val.int, .string xb.val.text, .bool xb.val.bool, .slice A2 nb c2] 37)).alloc (.cells #[.string ⟨#[97, 110, 100]⟩, .int .i64 3, .int .i64 0, .int .i64 0, .int .i64 0, .string ⟨#[]⟩, .bool false, .slice (some ⟨wc.heap.size, 0, none⟩) 2 2] 37)).alloc (.cells #[.string ⟨#[110, 111, 116]⟩, .int .i64 3, .int .i64 0, .int .i64 0, .int .i64 0, .string ⟨#[]⟩, .bool false, .slice (some ⟨wc.heap.size + 1, 0, none⟩) 1 1] 37)).alloc (.cells (exA xa A1 na c1) 37)).alloc (.cells (exA xb A2 nb c2) 37)).alloc (.cells #[.string ⟨#[110, 111, 116]⟩, .int .i64 3, .int .i64 0, .int .i64 0, .int .i64 0, .string ⟨#[]⟩, .bool false, .slice (some ⟨wc.heap.size + 1 + 1 + 1, 0, none⟩) 1 1, .string ⟨#[110, 111, 116]⟩, .int .i64 3, .int .i64 0, .int .i64 0, .int .i64 0, .string ⟨#[]⟩, .bool false, .slice (some ⟨wc.heap.size + 1 + 1 + 1 + 1, 0, none⟩) 1 1] 37)).alloc (.cells #[.string ⟨#[111, 114]⟩, .int .i64 3, .int .i64 0, .int .i64 0, .int .i64 0, .string ⟨#[]⟩, .bool false, .slice (some ⟨wc.heap.size + 1 + 1 + 1 + 1 + 1, 0, none⟩) 2 2] 37) := ⟨_, rfl⟩
        rw [← hW5]
        have bC5 : Below wc.heap.size wc W5 := by rw [hW5]; exact bt (below_alloc _ _) (bt (below_alloc _ _) (bt (below_alloc _ _) (bt (below_alloc _ _) (bt (below_alloc _ _) (bt (below_alloc _ _) (below_alloc _ _))))))
        have Z0 := Lib.hid (show Blk W5 wc.heap.size 37 #[.string xa.op, .int .i64 xa.kind, .int .i64 xa.col, .int .i64 xa.val.kind, .int .i64 xa.val.int, .string xa.val.text, .bool xa.val.bool, .slice A1 na c1, .string xb.op, .int .i64 xb.kind, .int .i64 xb.col, .int .i64 xb.val.kind, .int .i64 xb.val.int, .string xb.val.text, .bool xb.val.bool, .slice A2 nb c2] by rw [hW5]; exact ((((((blk_new' (w := wc) rfl rfl).alloc _).alloc _).alloc _).alloc _).alloc _).alloc _)
        have Z1 := Lib.hid (show Blk W5 (wc.heap.size + 1) 37 #[.string ⟨#[97, 110, 100]⟩, .int .i64 3, .int .i64 0, .int .i64 0, .int .i64 0, .string ⟨#[]⟩, .bool false, .slice (some ⟨wc.heap.size, 0, none⟩) 2 2] by rw [hW5]; exact (((((blk_new' (w := wc.alloc _) rfl (by simp)).alloc _).alloc _).alloc _).alloc _).alloc _)
        have Z2 := Lib.hid (show Blk W5 (wc.heap.size + 1 + 1) 37 #[.string ⟨#[110, 111, 116]⟩, .int .i64 3, .int .i64 0, .int .i64 0, .int .i64 0, .string ⟨#[]⟩, .bool false, .slice (some ⟨wc.heap.size + 1, 0, none⟩) 1 1] by rw [hW5]; exact ((((blk_new' (w := (wc.alloc _).alloc _) rfl (by simp)).alloc _).alloc _).alloc _).alloc _)
        have Z3 := Lib.hid (show Blk W5 (wc.heap.size + 1 + 1 + 1) 37 (exA xa A1 na c1) by rw [hW5]; exact (((blk_new' (w := ((wc.alloc _).alloc _).alloc _) rfl (by simp)).alloc _).alloc _).alloc _)
        have Z4 := Lib.hid (show Blk W5 (wc.heap.size + 1 + 1 + 1 + 1) 37 (exA xb A2 nb c2) by rw [hW5]; exact ((blk_new' (w := (((wc.alloc _).alloc _).alloc _).alloc _) rfl (by simp)).alloc _).alloc _)
        have Z5 := Lib.hid (show Blk W5 (wc.heap.size + 1 + 1 + 1 + 1 + 1) 37 #[.string ⟨#[110, 111, 116]⟩, .int .i64 3, .int .i64 0, .int .i64 0, .int .i64 0, .string ⟨#[]⟩, .bool false, .slice (some ⟨wc.heap.size + 1 + 1 + 1, 0, none⟩) 1 1, .string ⟨#[110, 111, 116]⟩, .int .i64 3, .int .i64 0, .int .i64 0, .int .i64 0, .string ⟨#[]⟩, .bool false, .slice (some ⟨wc.heap.size + 1 + 1 + 1 + 1, 0, none⟩) 1 1] by rw [hW5]; exact (blk_new' (w := ((((wc.alloc _).alloc _).alloc _).alloc _).alloc _) rfl (by simp)).alloc _)
        have Z6 := Lib.hid (show Blk W5 (wc.heap.size + 1 + 1 + 1 + 1 + 1 + 1) 37 #[.string ⟨#[111, 114]⟩, .int .i64 3, .int .i64 0, .int .i64 0, .int .i64 0, .string ⟨#[]⟩, .bool false, .slice (some ⟨wc.heap.size + 1 + 1 + 1 + 1 + 1, 0, none⟩) 2 2] by rw [hW5]; exact blk_new' (w := (((((wc.alloc _).alloc _).alloc _).alloc _).alloc _).alloc _) rfl (by simp))
        have ZO5 := Lib.hid ((ZO.out.below Bo.out).below bC5)
        have B5 := Lib.hid (bt bC5 Bc.out)
        have iA := IA.out.bel bC5
        have iB := IB.out.bel bC5
        have iAnd : ExIs W5 (xAnd xa xb) (some ⟨wc.heap.size, 0, none⟩) 2 2 := ex2 Z0.out iA iB _
        have iNot : ExIs W5 (xNot (xAnd xa xb)) (some ⟨wc.heap.size + 1, 0, none⟩) 1 1 := ex1 (e := xAnd xa xb) Z1.out iAnd _
        have iNA : ExIs W5 (xNot xa) (some ⟨wc.heap.size + 1 + 1 + 1, 0, none⟩) 1 1 := ex1 Z3.out iA _
        have iNB : ExIs W5 (xNot xb) (some ⟨wc.heap.size + 1 + 1 + 1 + 1, 0, none⟩) 1 1 := ex1 Z4.out iB _
        have iOr : ExIs W5 (xOr (xNot xa) (xNot xb)) (some ⟨wc.heap.size + 1 + 1 + 1 + 1 + 1, 0, none⟩) 2 2 := ex2 (e := xNot xa) (f := xNot xb) Z5.out iNA iNB _
        have MM := Lib.hid (morgan_eval E xa xb)
        obtain ⟨⟨⟨nk, ni, ns, nbb⟩, ne⟩, hrN⟩ : ∃ r, r = evalP E (xNot (xAnd xa xb)) := ⟨_, rfl⟩
        obtain ⟨⟨⟨ok, oi, os, ob⟩, oe⟩, hrO⟩ : ∃ r, r = evalP E (xOr (xNot xa) (xNot xb)) := ⟨_, rfl⟩
        obtain ⟨⟨⟨tk, ti, ts, tb⟩, te⟩, hrT⟩ : ∃ r, r = evalP E (xNot (xNot (xAnd xa xb))) := ⟨_, rfl⟩
        obtain ⟨⟨⟨dk, di, ds, db⟩, de⟩, hrA⟩ : ∃ r, r = evalP E (xAnd xa xb) := ⟨_, rfl⟩
        rw [← hrN, ← hrO, ← hrT, ← hrA] at MM
        have cN : Hid (∀ W, Below W5.heap.size W5 W → Calls Try.prog 9 #[.agg #[.string ⟨#[110, 111, 116]⟩, .int .i64 3, .int .i64 0, .int .i64 0, .int .i64 0, .string ⟨#[]⟩, .bool false, .slice (some ⟨wc.heap.size + 1, 0, none⟩) 1 1], .agg #[.int .i64 E.at_, .slice VA vn vc], .slice LA ln lc] W fun e w' => e = .returned (resV (⟨nk, ni, ns, nbb⟩, ne)) ∧ Hid (Below W.heap.size W w')) := Lib.hid (fun W h => by rw [hrN]; exact of9 E VA vn vc LA ln lc (HE.out.below (bt h B5.out)) (iNot.bel h))
        have cO : Hid (∀ W, Below W5.heap.size W5 W → Calls Try.prog 9 #[.agg #[.string ⟨#[111, 114]⟩, .int .i64 3, .int .i64 0, .int .i64 0, .int .i64 0, .string ⟨#[]⟩, .bool false, .slice (some ⟨wc.heap.size + 1 + 1 + 1 + 1 + 1, 0, none⟩) 2 2], .agg #[.int .i64 E.at_, .slice VA vn vc], .slice LA ln lc] W fun e w' => e = .returned (resV (⟨ok, oi, os, ob⟩, oe)) ∧ Hid (Below W.heap.size W w')) := Lib.hid (fun W h => by rw [hrO]; exact of9 E VA vn vc LA ln lc (HE.out.below (bt h B5.out)) (iOr.bel h))
        have cA : Hid (∀ W, Below W5.heap.size W5 W → Calls Try.prog 9 #[.agg #[.string ⟨#[97, 110, 100]⟩, .int .i64 3, .int .i64 0, .int .i64 0, .int .i64 0, .string ⟨#[]⟩, .bool false, .slice (some ⟨wc.heap.size, 0, none⟩) 2 2], .agg #[.int .i64 E.at_, .slice VA vn vc], .slice LA ln lc] W fun e w' => e = .returned (resV (⟨dk, di, ds, db⟩, de)) ∧ Hid (Below W.heap.size W w')) := Lib.hid (fun W h => by rw [hrA]; exact of9 E VA vn vc LA ln lc (HE.out.below (bt h B5.out)) (iAnd.bel h))
        have cT : Hid (∀ W g, Below W5.heap.size W5 W → Blk W g 37 #[.string ⟨#[110, 111, 116]⟩, .int .i64 3, .int .i64 0, .int .i64 0, .int .i64 0, .string ⟨#[]⟩, .bool false, .slice (some ⟨wc.heap.size + 1, 0, none⟩) 1 1] → Calls Try.prog 9 #[.agg #[.string ⟨#[110, 111, 116]⟩, .int .i64 3, .int .i64 0, .int .i64 0, .int .i64 0, .string ⟨#[]⟩, .bool false, .slice (some ⟨g, 0, none⟩) 1 1], .agg #[.int .i64 E.at_, .slice VA vn vc], .slice LA ln lc] W fun e w' => e = .returned (resV (⟨tk, ti, ts, tb⟩, te)) ∧ Hid (Below W.heap.size W w')) := Lib.hid (fun W g h z => by
          have iT : ExIs W (xNot (xNot (xAnd xa xb))) (some ⟨g, 0, none⟩) 1 1 := ex1 (e := xNot (xAnd xa xb)) z (iNot.bel h) _
          rw [hrT]; exact of9 E VA vn vc LA ln lc (HE.out.below (bt h B5.out)) iT)
        have s5 : wc.heap.size + 7 = W5.heap.size := by rw [hW5]; simp
        have S5 := Lib.hid s5
        clear hW5 bC5 iA iB iAnd iNot iNA iNB iOr hrN hrO hrT hrA s5 x0 x1 x2 x3 x4 x5 x6 x7 y0 y1 y2 y3 y4 y5 y6 y7 hpl hql hp1 hp2 hp3 hq1 hq2 hq3 hq4
        have n0 := Z2.out.cell 0
        have n1 := Z2.out.cell 1
        have n2 := Z2.out.cell 2
        have n3 := Z2.out.cell 3
        have n4 := Z2.out.cell 4
        have n5 := Z2.out.cell 5
        have n6 := Z2.out.cell 6
        have n7 := Z2.out.cell 7
        have o0 := ZO5.out.cell 0
        have o1 := ZO5.out.cell 1
        have o2 := ZO5.out.cell 2
        go_wp2_with fail
        refine (cN.out _ (Below.refl _ _)).mono ?_
        clear n0 n1 n2 n3 n4 n5 n6 n7 o0 o1 o2
        rintro e w6 ⟨rfl, h6⟩
        have K6 := Lib.hid h6.out
        have ZO6 := Lib.hid (ZO5.out.below h6.out)
        have r0 := (Z6.out.below h6.out).cell 0
        have r1 := (Z6.out.below h6.out).cell 1
        have r2 := (Z6.out.below h6.out).cell 2
        have r3 := (Z6.out.below h6.out).cell 3
        have r4 := (Z6.out.below h6.out).cell 4
        have r5 := (Z6.out.below h6.out).cell 5
        have r6 := (Z6.out.below h6.out).cell 6
        have r7 := (Z6.out.below h6.out).cell 7
        have o0 := ZO6.out.cell 0
        have o1 := ZO6.out.cell 1
        have o2 := ZO6.out.cell 2
        have l6 := (Z6.out.below h6.out).lt
        have lo6 := ZO6.out.lt
        have q6 := Lib.hid (cO.out (w6.alloc (.cells #[.int .i64 nk, .int .i64 ni, .string ns, .bool nbb] 23)) (bt (below_alloc _ _) K6.out))
        simp only [resV, Val.cells]
        clear h6
        go_wp2_with fail
        refine q6.out.mono ?_
        clear q6 r0 r1 r2 r3 r4 r5 r6 r7 o0 o1 o2 l6 lo6
        rintro e w7 ⟨rfl, h7⟩
        have V6 := Lib.hid ((Blk.new w6 23 #[.int .i64 nk, .int .i64 ni, .string ns, .bool nbb]).below h7.out)
        have K7 := Lib.hid (bt h7.out (bt (below_alloc _ _) K6.out))
        clear h7
        have ZO7 := Lib.hid (ZO5.out.below K7.out)
        have Z27 := Lib.hid (Z2.out.below K7.out)
        have n0 := Z27.out.cell 0
        have n1 := Z27.out.cell 1
        have n2 := Z27.out.cell 2
        have n3 := Z27.out.cell 3
        have n4 := Z27.out.cell 4
        have n5 := Z27.out.cell 5
        have n6 := Z27.out.cell 6
        have n7 := Z27.out.cell 7
        have l7 := Z27.out.lt
        have o0 := ZO7.out.cell 0
        have o1 := ZO7.out.cell 1
        have o2 := ZO7.out.cell 2
        have lo7 := ZO7.out.lt
        have lo8 : w.heap.size + 1 + 1 < w7.heap.size + 1 := by omega
        have lo9 : w.heap.size + 1 + 1 < w7.heap.size + 1 + 1 := by omega
        have q7 := Lib.hid (cT.out (((w7.alloc (.cells #[.int .i64 ok, .int .i64 oi, .string os, .bool ob] 23)).alloc (.cells #[.string ⟨#[110, 111, 116]⟩, .int .i64 3, .int .i64 0, .int .i64 0, .int .i64 0, .string ⟨#[]⟩, .bool false, .slice (some ⟨wc.heap.size + 1, 0, none⟩) 1 1] 37)).alloc (.cells #[.string ⟨#[110, 111, 116]⟩, .int .i64 3, .int .i64 0, .int .i64 0, .int .i64 0, .string ⟨#[]⟩, .bool false, .slice (some ⟨w7.heap.size + 1, 0, none⟩) 1 1] 37)) (w7.heap.size + 1) (bt (below_alloc _ _) (bt (below_alloc _ _) (bt (below_alloc _ _) K7.out))) ((blk_new' (w := w7.alloc _) rfl (by simp)).alloc _))
        simp only [resV, Val.cells]
        go_wp2_with fail
        refine q7.out.mono ?_
        clear q7 n0 n1 n2 n3 n4 n5 n6 n7 l7 o0 o1 o2 lo7 lo8 lo9
        rintro e w9 ⟨rfl, h9⟩
        have V7 := Lib.hid (((((Blk.new w7 23 #[.int .i64 ok, .int .i64 oi, .string os, .bool ob]).alloc _).alloc _)).below h9.out)
        have K79 := Lib.hid (bt h9.out (bt (below_alloc _ _) (bt (below_alloc _ _) (below_alloc w7 _))))
        have K9 := Lib.hid (bt K79.out K7.out)
        clear h9
        simp only [resV, Val.cells]
        go_upto_region 10 with fail
        obtain ⟨wt, hwt⟩ : ∃ y, y = w9.alloc (.cells #[.int .i64 tk, .int .i64 ti, .string ts, .bool tb] 23) := ⟨_, rfl⟩
        have V9 := Lib.hid (show Blk wt w9.heap.size 23 #[.int .i64 tk, .int .i64 ti, .string ts, .bool tb] by rw [hwt]; exact Blk.new w9 23 _)
        have Kt := Lib.hid (show Below w9.heap.size w9 wt by rw [hwt]; exact below_alloc _ _)
        rw [← hwt]
        clear hwt
        have Kw := Lib.hid (show Below w.heap.size w wt from bt Kt.out (bt K9.out B5.out))
        have cA' : Hid (∀ W, Below wt.heap.size wt W → Calls Try.prog 9 #[.agg #[.string ⟨#[97, 110, 100]⟩, .int .i64 3, .int .i64 0, .int .i64 0, .int .i64 0, .string ⟨#[]⟩, .bool false, .slice (some ⟨wc.heap.size, 0, none⟩) 2 2], .agg #[.int .i64 E.at_, .slice VA vn vc], .slice LA ln lc] W fun e w' => e = .returned (resV (⟨dk, di, ds, db⟩, de)) ∧ Hid (Below W.heap.size W w')) := Lib.hid (fun W h => cA.out W (bt h (bt Kt.out K9.out)))
        have KD := Lib.hid (fun (W : World) (h : Below wt.heap.size wt W) => (show W.cell? ⟨wc.heap.size + 1 + 1, 7, none⟩ = some (.slice (some ⟨wc.heap.size + 1, 0, none⟩) 1 1) ∧ (W.cell? ⟨wc.heap.size + 1, 0, none⟩ = some (.string ⟨#[97, 110, 100]⟩) ∧ W.cell? ⟨wc.heap.size + 1, 1, none⟩ = some (.int .i64 3) ∧ W.cell? ⟨wc.heap.size + 1, 2, none⟩ = some (.int .i64 0) ∧ W.cell? ⟨wc.heap.size + 1, 3, none⟩ = some (.int .i64 0) ∧ W.cell? ⟨wc.heap.size + 1, 4, none⟩ = some (.int .i64 0) ∧ W.cell? ⟨wc.heap.size + 1, 5, none⟩ = some (.string ⟨#[]⟩) ∧ W.cell? ⟨wc.heap.size + 1, 6, none⟩ = some (.bool false) ∧ W.cell? ⟨wc.heap.size + 1, 7, none⟩ = some (.slice (some ⟨wc.heap.size, 0, none⟩) 2 2)) ∧ W.cell? ⟨w.heap.size + 1 + 1, 0, none⟩ = some (.int .i64 E.at_) ∧ W.cell? ⟨w.heap.size + 1 + 1, 1, none⟩ = some (.slice VA vn vc) ∧ W.cell? ⟨w.heap.size + 1 + 1, 2, none⟩ = some (.slice LA ln lc) from
          have k := bt h (bt Kt.out K9.out)
          have z2 := Z2.out.below k
          have z1 := Z1.out.below k
          have zo := ZO5.out.below k
          ⟨z2.cell 7, ⟨z1.cell 0, z1.cell 1, z1.cell 2, z1.cell 3, z1.cell 4, z1.cell 5, z1.cell 6, z1.cell 7⟩, zo.cell 0, zo.cell 1, zo.cell 2⟩))
        go_cut [18, 19] from 77 to 88 (fun s18 s19 wx => ∃ p8 : Nat, s18 = .pointer (some ⟨p8, 0, none⟩) ∧ s19 = errV de ∧ Hid (Below wt.heap.size wt wx ∧ ValC wx p8 0 ⟨dk, di, ds, db⟩))
        case first =>
          have hb := below_drew wt
          have hs3 := hb.size
          go_region_held3 (fun W : World => W.cell? ⟨wc.heap.size + 1 + 1, 7, none⟩ = some (.slice (some ⟨wc.heap.size + 1, 0, none⟩) 1 1) ∧ (W.cell? ⟨wc.heap.size + 1, 0, none⟩ = some (.string ⟨#[97, 110, 100]⟩) ∧ W.cell? ⟨wc.heap.size + 1, 1, none⟩ = some (.int .i64 3) ∧ W.cell? ⟨wc.heap.size + 1, 2, none⟩ = some (.int .i64 0) ∧ W.cell? ⟨wc.heap.size + 1, 3, none⟩ = some (.int .i64 0) ∧ W.cell? ⟨wc.heap.size + 1, 4, none⟩ = some (.int .i64 0) ∧ W.cell? ⟨wc.heap.size + 1, 5, none⟩ = some (.string ⟨#[]⟩) ∧ W.cell? ⟨wc.heap.size + 1, 6, none⟩ = some (.bool false) ∧ W.cell? ⟨wc.heap.size + 1, 7, none⟩ = some (.slice (some ⟨wc.heap.size, 0, none⟩) 2 2)) ∧ W.cell? ⟨w.heap.size + 1 + 1, 0, none⟩ = some (.int .i64 E.at_) ∧ W.cell? ⟨w.heap.size + 1 + 1, 1, none⟩ = some (.slice VA vn vc) ∧ W.cell? ⟨w.heap.size + 1 + 1, 2, none⟩ = some (.slice LA ln lc))
            ((first | (refine KD.out _ ?_; go_grown; done) | trivial))
            ((go_at_call 9; (with_reducible refine (cA'.out _ ?_).mono ?_); · go_grown
              rintro e w10 ⟨rfl, h10⟩; simp only [resV, Val.cells]; have hb10 := bt h10.out (show Below wt.heap.size wt _ by go_grown); have hs10 := hb10.size; (first | ((with_reducible have pz := one_ald h10.out); have hfz := (fun o => pz.frozen o); have q0 := pz.cell 0; have q1 := pz.cell 1; have q2 := pz.cell 2; have q3 := pz.cell 3) | skip)))
          all_goals
            go_wp2_with fail
            go_meet
            case rel =>
              refine ⟨_, rfl, rfl, Lib.hid ⟨?_, ?_⟩⟩
              · go_grown
              · first
                  | exact val_set pz _ _ _ _
                  | exact ⟨(Blk.new _ _ _).cell 0, (Blk.new _ _ _).cell 1, (Blk.new _ _ _).cell 2, (Blk.new _ _ _).cell 3⟩
        case rest =>
          obtain ⟨p8, rfl, rfl, HD⟩ := hcut
          rcases MM.out with ⟨m, n, e1, e2⟩ | ⟨v, q, h1, h2, h3, h4⟩
          · obtain rfl : ne = some m := e1
            obtain rfl : oe = some n := e2
            have KF := Lib.hid (bt HD.out.1 Kw.out)
            clear MM cA cA' cT KD
            cases te <;> cases de
            all_goals
              simp only [errV]
              go_wp2_with fail
              refine (hsu.out _).mono ?_
              rintro e wz ⟨rfl, hz⟩
              have KZ := Lib.hid (bt hz.out KF.out)
              clear hz
              go_wp2_with fail
              go_ret
              exact ⟨rfl, KZ⟩
          · have KF := Lib.hid (bt HD.out.1 Kw.out)
            have va := V6.out.below (bt HD.out.1 (bt Kt.out K79.out))
            have vb := V7.out.below (bt HD.out.1 Kt.out)
            have vd := V9.out.below HD.out.1
            obtain ⟨p0, p1, p2, p3⟩ := HD.out.2
            simp only [Nat.zero_add] at p1 p2 p3
            have a0 := va.cell 0
            have a1 := va.cell 1
            have a2 := va.cell 2
            have a3 := va.cell 3
            have b0 := vb.cell 0
            have b1 := vb.cell 1
            have b2 := vb.cell 2
            have b3 := vb.cell 3
            have t0 := vd.cell 0
            have t1 := vd.cell 1
            have t2 := vd.cell 2
            have t3 := vd.cell 3
            cases h1
            cases h2
            cases h3
            cases h4
            clear MM va vb vd V6 V7 V9 HD cA cA' cN cO cT KD
            simp only [errV]
            go_wp2_with fail
            refine (hsu.out _).mono ?_
            clear a0 a1 a2 a3 b0 b1 b2 b3 t0 t1 t2 t3 p0 p1 p2 p3
            rintro e wz ⟨rfl, hz⟩
            have KZ := Lib.hid (bt hz.out KF.out)
            clear hz
            go_wp2_with fail
            go_ret
            exact ⟨rfl, KZ⟩

end Go.Proofs.Ytbcmmecilheicaa
