/- The walk of barbicanlaw21.EvalNot. -/
import Derived.Test.YtbcmmecilheicaaDoorNotP
import Derived.Test.YtbcmmecilheicaaDoorNum5
namespace Go.Proofs.YtbcmmecilheicaaDoor
open Go Go.RowKit

theorem one_al {W w' : World} {t : TypeId} {cs : Array Value} (h : Below (W.alloc (.cells cs t)).heap.size (W.alloc (.cells cs t)) w') : Blk w' W.heap.size t cs := (Blk.new W t cs).below h
theorem two_al {W w' : World} {t u : TypeId} {cs ds : Array Value} (h : Below ((W.alloc (.cells cs t)).alloc (.cells ds u)).heap.size ((W.alloc (.cells cs t)).alloc (.cells ds u)) w') : Blk w' W.heap.size t cs ∧ Blk w' (W.heap.size + 1) u ds :=
  ⟨((Blk.new W t cs).alloc _).below h, (blk_new' (w := W.alloc _) rfl (by simp)).below h⟩
theorem one_ald {W w' : World} {t : TypeId} {cs : Array Value} (h : Below (W.alloc (.cells cs t)).drew.heap.size (W.alloc (.cells cs t)).drew w') : Blk w' W.heap.size t cs := (show Blk (W.alloc (.cells cs t)).drew W.heap.size t cs from Blk.new W t cs).below h
theorem two_ald {W w' : World} {t u : TypeId} {cs ds : Array Value} (h : Below ((W.alloc (.cells cs t)).alloc (.cells ds u)).drew.heap.size ((W.alloc (.cells cs t)).alloc (.cells ds u)).drew w') : Blk w' W.heap.size t cs ∧ Blk w' (W.heap.size + 1) u ds :=
  ⟨(show Blk ((W.alloc (.cells cs t)).alloc (.cells ds u)).drew W.heap.size t cs from (Blk.new W t cs).alloc _).below h, (show Blk ((W.alloc (.cells cs t)).alloc (.cells ds u)).drew (W.heap.size + 1) u ds from (blk_new' (W := (W.alloc (.cells cs t)).alloc (.cells ds u)) (w := W.alloc (.cells cs t)) rfl (by simp) : Blk ((W.alloc (.cells cs t)).alloc (.cells ds u)) (W.heap.size + 1) u ds)).below h⟩

theorem ald1 {w : World} {t : TypeId} {cs : Array Value} : Blk (w.alloc (.cells cs t)).drew w.heap.size t cs := Blk.new w t cs
theorem ald2a {w : World} {t : TypeId} {cs : Array Value} {o : Obj} : Blk ((w.alloc (.cells cs t)).alloc o).drew w.heap.size t cs := (Blk.new w t cs).alloc o
theorem ald2b {w : World} {t : TypeId} {cs : Array Value} {o : Obj} : Blk ((w.alloc o).alloc (.cells cs t)).drew (w.heap.size + 1) t cs := (blk_new' (w := w.alloc o) rfl (by simp) : Blk ((w.alloc o).alloc (.cells cs t)) (w.heap.size + 1) t cs)
/-- the two literals, as they are laid -/
abbrev cmpArgs (a b : Val) : Array Value := #[.string ⟨#[108, 105, 116]⟩, .int .i64 a.kind, .int .i64 0, .int .i64 a.kind, .int .i64 a.int, .string a.text, .bool a.bool, .slice none 0 0, .string ⟨#[108, 105, 116]⟩, .int .i64 b.kind, .int .i64 0, .int .i64 b.kind, .int .i64 b.int, .string b.text, .bool b.bool, .slice none 0 0]
theorem cmpIs {W : World} {g : Nat} (op : ByteArray) (a b : Val) (ta : a.text.size ≤ TB) (tb : b.text.size ≤ TB) (z : Blk W g 32 (cmpArgs a b)) : ExIs W (xCmp op a b) (some ⟨g, 0, none⟩) 2 2 :=
  .mk op 3 0 Val.null [xLit a, xLit b] _ 2 2 rfl (by unfold TB; omega) (by unfold TB; exact Nat.zero_le _) g 0 (fun _ => ⟨rfl, z.lt⟩) (fun _ => none) (fun _ => 0) (fun _ => 0) (fun j e hj => by
    match j, hj with
    | 0, hj => obtain rfl : xLit a = e := by simpa using hj
               exact ⟨z.cell 0, z.cell 1, z.cell 2, z.cell 3, z.cell 4, z.cell 5, z.cell 6, z.cell 7⟩
    | 1, hj => obtain rfl : xLit b = e := by simpa using hj
               exact ⟨z.cell 8, z.cell 9, z.cell 10, z.cell 11, z.cell 12, z.cell 13, z.cell 14, z.cell 15⟩
    | j + 2, hj => simp at hj) (fun j e hj => by
    match j, hj with
    | 0, hj => obtain rfl : xLit a = e := by simpa using hj
               exact leafIs W _ _ _ _ ta
    | 1, hj => obtain rfl : xLit b = e := by simpa using hj
               exact leafIs W _ _ _ _ tb
    | j + 2, hj => simp at hj)
theorem cmpConst {W : World} {g : Nat} (a b : Val) (ta : a.text.size ≤ TB) (tb : b.text.size ≤ TB) (i : Nat) (hi : i < 6) (z : Blk W g 32 (cmpArgs a b)) :
    Calls Tryd.prog 4 #[.agg #[.string (opAt i), .int .i64 3, .int .i64 0, .int .i64 0, .int .i64 0, .string ⟨#[]⟩, .bool false, .slice (some ⟨g, 0, none⟩) 2 2]] W fun e w' => e = .returned (resV (notR a b i)) ∧ Hid (Below W.heap.size W w') := by
  have h := const17 (cmpIs (opAt i) a b ta tb z)
  rw [ev_cmp a b i hi] at h
  exact h
abbrev opsC : Array Value := #[.string ⟨#[61]⟩, .string ⟨#[60, 62]⟩, .string ⟨#[60]⟩, .string ⟨#[62, 61]⟩, .string ⟨#[62]⟩, .string ⟨#[60, 61]⟩]
theorem opsAt {W : World} {g : Nat} (z : Blk W g 9 opsC) (i : Nat) (hi : i < 6) : W.cell? ⟨g, i, none⟩ = some (.string (opAt i)) := by
  rw [z.cell i]
  match i, hi with
  | 0, _ => rfl
  | 1, _ => rfl
  | 2, _ => rfl
  | 3, _ => rfl
  | 4, _ => rfl
  | 5, _ => rfl

/-- the values of the first i signs -/
def notVs (a b : Val) (i : Nat) : List Val := (List.range i).map fun j => (notR a b j).1
theorem notVs_succ (a b : Val) (i : Nat) : notVs a b (i + 1) = notVs a b i ++ [(notR a b i).1] := by
  simp [notVs, List.range_succ]
theorem notVs_len (a b : Val) (i : Nat) : (notVs a b i).length = i := by simp [notVs]
theorem notVs_at (a b : Val) (n i : Nat) (hi : i < n) : (notVs a b n)[i]? = some (notR a b i).1 := by
  simp [notVs, hi]

/-- the row of six, cell by cell -/
theorem row6 {W : World} {B : Nat} {Ao : Option Addr} {co : Nat} {vs : List Val} (h : W.ownsRow B 23 4 (.slice Ao 6 co) 6 (valCells vs)) : ∃ g, Ao = some ⟨g, 0, none⟩ ∧ g < W.heap.size ∧ ∀ W', Below W.heap.size W W' → ∀ (j : Nat) (v : Val), vs[j]? = some v → ValC W' g (j * 4) v := by
  obtain ⟨h1, h2⟩ := h
  rcases h2 with ⟨h2, h3⟩ | ⟨g, cap, cur, h2, h3, h4, h5, h6, h7, h8⟩
  · omega
  · injection h2 with e1 e2 e3
    have hg : g < W.heap.size := (Array.getElem?_eq_some_iff.1 h4).1
    refine ⟨g, e1, hg, fun W' hW' j v hj => ?_⟩
    have h4' := (hW'.block g hg).trans h4
    obtain ⟨k0, k1, k2, k3⟩ := valCells_at hj
    have hc : ∀ k u, (valCells vs)[k]? = some u → W'.cell? ⟨g, k, none⟩ = some u := fun k u hu => by
      rw [cell_of_row W' g k cur 23 (0, 0) h4']
      rw [← h8] at hu
      have hlt : k < 6 * 4 := by
        have := (List.getElem?_eq_some_iff.1 hu).1
        simp at this; omega
      rw [List.getElem?_take_of_lt hlt] at hu
      simpa using hu
    exact ⟨hc _ _ k0, hc _ _ k1, hc _ _ k2, hc _ _ k3⟩

set_option maxRecDepth 100000 in
set_option maxHeartbeats 16000000 in
theorem evalNot3 (w : World) (hg : ErrT w) (a b : Val) (ta : a.text.size ≤ TB) (tb : b.text.size ≤ TB) :
    Calls Tryd.prog 3 #[.agg #[.int .i64 a.kind, .int .i64 a.int, .string a.text, .bool a.bool], .agg #[.int .i64 b.kind, .int .i64 b.int, .string b.text, .bool b.bool]] w fun e w' => e = .returned (.bool true) ∧ Hid (Below w.heap.size w w') := by
  have HG := Lib.hid hg
  have hsu := Lib.hid sure7
  have HK := Lib.hid (fun (W : World) (g i : Nat) (hi : i < 6) (z : Blk W g 32 (cmpArgs a b)) => cmpConst a b ta tb i hi z)
  clear hg ta tb
  go_enter Tryd.func3, Tryd.ntmps3
  go_wp2_with fail
  obtain ⟨w1, hw1⟩ : ∃ y, y = ((w.alloc (.cells #[.int .i64 a.kind, .int .i64 a.int, .string a.text, .bool a.bool] 23)).alloc (.cells #[.int .i64 b.kind, .int .i64 b.int, .string b.text, .bool b.bool] 23)).alloc (.cells opsC 9) := ⟨_, rfl⟩
  have ZA := Lib.hid (show Blk w1 w.heap.size 23 _ by rw [hw1]; exact ((blk_new' (w := w) rfl rfl).alloc _).alloc _)
  have ZB := Lib.hid (show Blk w1 (w.heap.size + 1) 23 _ by rw [hw1]; exact (blk_new' (w := w.alloc _) rfl (by simp)).alloc _)
  have ZO := Lib.hid (show Blk w1 (w.heap.size + 1 + 1) 9 opsC by rw [hw1]; exact blk_new' (w := (w.alloc _).alloc _) rfl (by simp))
  have BW := Lib.hid (show Below w.heap.size w w1 by rw [hw1]; exact bt (below_alloc _ _) (bt (below_alloc _ _) (below_alloc _ _)))
  rw [← hw1]
  clear hw1
  go_loopg [6, 7] 6 (fun kx s6 s7 wr => ∃ (i : Nat) (Ao : Option Addr) (co : Nat), s6 = .slice Ao i co ∧ s7 = .int .i64 i ∧ kx + i = 6 ∧ Hid (Below w1.heap.size w1 wr ∧ wr.ownsRow w1.heap.size 23 4 (.slice Ao i co) i (valCells (notVs a b i)) ∧ (i = 0 ∨ knownB a b = true)))
  case atStart => exact ⟨0, none, 0, rfl, rfl, rfl, Lib.hid ⟨Below.refl _ _, World.ownsRow_nil _ _ _ _, .inl rfl⟩⟩
  case round =>
    obtain ⟨i, Ao, co, rfl, rfl, hk, I⟩ := hrel
    by_cases hi : i < 6
    · have hiz : (i : Int) < 6 := by omega
      have hi0 : (0 : Int) ≤ (i : Int) := by omega
      obtain ⟨⟨⟨rk, ri, rs, rb⟩, re⟩, hre⟩ : ∃ r, r = notR a b i := ⟨_, rfl⟩
      have HRE := Lib.hid hre
      have cC : Hid (∀ (W : World) (g : Nat), Blk W g 32 (cmpArgs a b) → Calls Tryd.prog 4 #[.agg #[.string (opAt i), .int .i64 3, .int .i64 0, .int .i64 0, .int .i64 0, .string ⟨#[]⟩, .bool false, .slice (some ⟨g, 0, none⟩) 2 2]] W fun e w' => e = .returned (resV (⟨rk, ri, rs, rb⟩, re)) ∧ Hid (Below W.heap.size W w')) := Lib.hid (fun W g z => by rw [hre]; exact HK.out W g i hi z)
      have KD := Lib.hid (fun (W : World) (h : Below wr.heap.size wr W) => (show W.cell? ⟨w.heap.size + 1 + 1, i, none⟩ = some (.string (opAt i)) ∧ (W.cell? ⟨w.heap.size, 0, none⟩ = some (.int .i64 a.kind) ∧ W.cell? ⟨w.heap.size, 1, none⟩ = some (.int .i64 a.int) ∧ W.cell? ⟨w.heap.size, 2, none⟩ = some (.string a.text) ∧ W.cell? ⟨w.heap.size, 3, none⟩ = some (.bool a.bool)) ∧ W.cell? ⟨w.heap.size + 1, 0, none⟩ = some (.int .i64 b.kind) ∧ W.cell? ⟨w.heap.size + 1, 1, none⟩ = some (.int .i64 b.int) ∧ W.cell? ⟨w.heap.size + 1, 2, none⟩ = some (.string b.text) ∧ W.cell? ⟨w.heap.size + 1, 3, none⟩ = some (.bool b.bool) from
        have k := bt h I.out.1
        have za := ZA.out.below k
        have zb := ZB.out.below k
        ⟨opsAt (ZO.out.below k) i hi, ⟨za.cell 0, za.cell 1, za.cell 2, za.cell 3⟩, zb.cell 0, zb.cell 1, zb.cell 2, zb.cell 3⟩))
      clear hre
      go_upto_region 6 with fail
      go_cut [8, 9] from 19 to 36 (fun s8 s9 wx => ∃ p8 : Nat, s8 = .pointer (some ⟨p8, 0, none⟩) ∧ s9 = errV re ∧ Hid (Below wr.heap.size wr wx ∧ p8 < wx.heap.size ∧ ValC wx p8 0 ⟨rk, ri, rs, rb⟩))
      case first =>
        have hb := below_drew wr
        have hs3 := hb.size
        clear HRE
        go_region_held3 (fun W : World => W.cell? ⟨w.heap.size + 1 + 1, i, none⟩ = some (.string (opAt i)) ∧ (W.cell? ⟨w.heap.size, 0, none⟩ = some (.int .i64 a.kind) ∧ W.cell? ⟨w.heap.size, 1, none⟩ = some (.int .i64 a.int) ∧ W.cell? ⟨w.heap.size, 2, none⟩ = some (.string a.text) ∧ W.cell? ⟨w.heap.size, 3, none⟩ = some (.bool a.bool)) ∧ W.cell? ⟨w.heap.size + 1, 0, none⟩ = some (.int .i64 b.kind) ∧ W.cell? ⟨w.heap.size + 1, 1, none⟩ = some (.int .i64 b.int) ∧ W.cell? ⟨w.heap.size + 1, 2, none⟩ = some (.string b.text) ∧ W.cell? ⟨w.heap.size + 1, 3, none⟩ = some (.bool b.bool))
          ((first | (refine KD.out _ ?_; go_grown; done) | trivial))
          ((go_at_call 4; (with_reducible refine (cC.out _ _ ?_).mono ?_); · (first | exact ald1 | exact ald2a | exact ald2b)
            rintro e w10 ⟨rfl, h10⟩; simp only [resV, Val.cells]; have hb10 := bt h10.out (show Below wr.heap.size wr _ by go_grown); have hs10 := hb10.size; (first | ((with_reducible have pa := two_ald h10.out); obtain ⟨pa1, pa2⟩ := pa) | ((with_reducible have pa := two_al h10.out); obtain ⟨pa1, pa2⟩ := pa) | skip); (first | (have pz : Blk w10 _ 23 #[.int .i64 0, .int .i64 0, .string ⟨#[]⟩, .bool false] := pa1; have hfz := (fun o => pz.frozen o); have q0 := pz.cell 0; have q1 := pz.cell 1; have q2 := pz.cell 2; have q3 := pz.cell 3) | (have pz : Blk w10 _ 23 #[.int .i64 0, .int .i64 0, .string ⟨#[]⟩, .bool false] := pa2; have hfz := (fun o => pz.frozen o); have q0 := pz.cell 0; have q1 := pz.cell 1; have q2 := pz.cell 2; have q3 := pz.cell 3) | skip)))
        all_goals
          go_wp2_with fail
          go_meet
          case rel =>
            refine ⟨_, rfl, rfl, Lib.hid ⟨?_, ?_, ?_⟩⟩
            · go_grown
            · first
                | (simp only [World.size_setCell, World.size_alloc]; omega)
                | (simp only [World.size_setCell]; exact pz.lt)
            · first
                | exact val_set pz _ _ _ _
                | exact ⟨(Blk.new _ _ _).cell 0, (Blk.new _ _ _).cell 1, (Blk.new _ _ _).cell 2, (Blk.new _ _ _).cell 3⟩
      case rest =>
        obtain ⟨p8, rfl, rfl, H⟩ := hcut
        have Bc := Lib.hid (bt H.out.1 (bt I.out.1 BW.out))
        have Bc1 := Lib.hid (bt H.out.1 I.out.1)
        cases re with
        | some er =>
          have e7 : er = 7 := by
            have h := HRE.out
            cases hkn : knownB a b with
            | false => rw [not_kind hkn i] at h; injection h with _ h; injection h
            | true =>
              exfalso
              cases hn : nullB a || nullB b with
              | true => rw [not_null hkn hn i] at h; injection h with _ h; cases h
              | false => rw [not_some hkn hn i] at h; injection h with _ h; cases h
          subst e7
          have hn := num5 wc (by
            have h0 := HG.out
            exact (Bc.out.cell (p := ⟨0, 0, none⟩) h0.lt).trans h0)
          have HN := Lib.hid hn
          clear hn H cC KD I
          simp only [errV]
          go_wp2_with fail
          refine HN.out.mono ?_
          rintro e w2 ⟨rfl, h2⟩
          have B2 := Lib.hid (bt h2.out Bc.out)
          clear h2
          go_wp2_with fail
          refine (hsu.out _).mono ?_
          rintro e w3 ⟨rfl, h3⟩
          have B3 := Lib.hid (bt h3.out B2.out)
          clear h3
          go_wp2_with fail
          go_ret
          exact ⟨rfl, B3⟩
        | none =>
          have hkn : knownB a b = true := by
            cases hkn : knownB a b with
            | true => rfl
            | false => have h := HRE.out; rw [not_kind hkn i] at h; injection h with _ h; cases h
          have hv : (notR a b i).1 = ⟨rk, ri, rs, rb⟩ := by rw [← HRE.out]
          obtain ⟨v0, v1, v2, v3⟩ := H.out.2.2
          simp only [Nat.zero_add] at v1 v2 v3
          have hp8 := H.out.2.1
          have ow2 := own_below I.out.2.1 H.out.1
          have ow3 := own_below ow2 (below_alloc _ (.cells #[.int .i64 rk, .int .i64 ri, .string rs, .bool rb] 23))
          obtain ⟨v', w3, hr, hown, hb3⟩ := app_val ow3 (by unfold TB; omega) (by have := Bc1.out.size; simp; omega) ⟨rk, ri, rs, rb⟩ wc.heap.size (Blk.new wc 23 _)
          obtain ⟨An, cn, hvn⟩ := own_slice hown
          subst hvn
          have NX := Lib.hid (show Below w1.heap.size w1 w3 ∧ w3.ownsRow w1.heap.size 23 4 (.slice An (i + 1) cn) (i + 1) (valCells (notVs a b (i + 1))) ∧ (i + 1 = 0 ∨ knownB a b = true) from
            ⟨(bt (below_alloc _ _) Bc1.out).trans hb3, by rw [notVs_succ, hv]; exact hown, .inr hkn⟩)
          have HR := Lib.hid hr
          clear ow2 ow3 hown hb3 hr H cC KD I hkn hv
          simp only [errV]
          go_wp2_with (at_builtin; refine wpList_append_runI _ rfl _ _ 25 25 rfl (.slice Ao i co) (.slice (some ⟨wc.heap.size, 0, none⟩) 1 1) rfl rfl HR.out ?_)
          go_roundg (gk - 1)
          case measure => omega
          case rel => exact ⟨i + 1, An, cn, rfl, by first | rfl | (simp; done), by omega, NX⟩
    · obtain rfl : i = 6 := by omega
      have hkn : knownB a b = true := by
        rcases I.out.2.2 with h | h
        · cases h
        · exact h
      obtain ⟨g, rfl, hgl, hrow⟩ := row6 I.out.2.1
      have ROW := Lib.hid hrow
      have BR := Lib.hid (bt I.out.1 BW.out)
      have za := ZA.out.below I.out.1
      have zb := ZB.out.below I.out.1
      have a0 := za.cell 0
      have b0 := zb.cell 0
      clear za zb I hrow HK
      cases hnn : nullB a || nullB b with
      | true =>
        have VN := Lib.hid (fun (W : World) (h : Below wr.heap.size wr W) (j : Nat) (hj : j < 6) => (show ValC W g (j * 4) Val.null from ROW.out W h j Val.null (by rw [notVs_at a b 6 j hj, not_null hkn hnn j])))
        by_cases ha0 : a.kind = 0
        · rw [ha0] at a0
          clear ROW hnn hkn
          go_wp2_with fail
          go_loopg [10] 6 (fun kx s10 wq => ∃ i : Nat, s10 = .int .i64 i ∧ kx + i = 6 ∧ wr = wq)
          case atStart => exact ⟨0, rfl, rfl, rfl⟩
          case round =>
            obtain ⟨i, rfl, hk2, rfl⟩ := hrel
            by_cases hi6 : i < 6
            · have hiz : (i : Int) < 6 := by omega
              have hi0 : (0 : Int) ≤ (i : Int) := by omega
              obtain ⟨v0, v1, v2, v3⟩ := VN.out wr (Below.refl _ _) i hi6
              simp only [Val.null] at v0 v1 v2 v3
              go_wp2_with fail
              go_roundg (gk - 1)
              case measure => omega
              case rel => exact ⟨i + 1, by first | rfl | (simp; done), by omega, rfl⟩
            · have hiz : ¬ (i : Int) < 6 := by omega
              go_wp2_with fail
              refine (hsu.out _).mono ?_
              rintro e w3 ⟨rfl, h3⟩
              have B3 := Lib.hid (bt h3.out BR.out)
              clear h3
              go_wp2_with fail
              go_ret
              exact ⟨rfl, B3⟩
        · have hb0 : b.kind = 0 := by
            simp only [nullB, Bool.or_eq_true, decide_eq_true_eq] at hnn
            omega
          rw [hb0] at b0
          clear hb0
          clear ROW hnn hkn
          go_wp2_with fail
          go_loopg [10] 6 (fun kx s10 wq => ∃ i : Nat, s10 = .int .i64 i ∧ kx + i = 6 ∧ wr = wq)
          case atStart => exact ⟨0, rfl, rfl, rfl⟩
          case round =>
            obtain ⟨i, rfl, hk2, rfl⟩ := hrel
            by_cases hi6 : i < 6
            · have hiz : (i : Int) < 6 := by omega
              have hi0 : (0 : Int) ≤ (i : Int) := by omega
              obtain ⟨v0, v1, v2, v3⟩ := VN.out wr (Below.refl _ _) i hi6
              simp only [Val.null] at v0 v1 v2 v3
              go_wp2_with fail
              go_roundg (gk - 1)
              case measure => omega
              case rel => exact ⟨i + 1, by first | rfl | (simp; done), by omega, rfl⟩
            · have hiz : ¬ (i : Int) < 6 := by omega
              go_wp2_with fail
              refine (hsu.out _).mono ?_
              rintro e w3 ⟨rfl, h3⟩
              have B3 := Lib.hid (bt h3.out BR.out)
              clear h3
              go_wp2_with fail
              go_ret
              exact ⟨rfl, B3⟩
      | false =>
        have ha0 : ¬ a.kind = 0 := by
          intro h
          simp [nullB, h] at hnn
        have hb0 : ¬ b.kind = 0 := by
          intro h
          simp [nullB, h] at hnn
        rename World => wz
        have ha1 : (a.kind == 0) = false := by simpa using ha0
        have hb1 : (b.kind == 0) = false := by simpa using hb0
        have hb2 : decide (b.kind = 0) = false := by simpa using hb0
        obtain ⟨x0, hx0⟩ : ∃ x, x = notF a b 0 := ⟨_, rfl⟩
        obtain ⟨x2, hx2⟩ : ∃ x, x = notF a b 2 := ⟨_, rfl⟩
        obtain ⟨x4, hx4⟩ : ∃ x, x = notF a b 4 := ⟨_, rfl⟩
        have hone := not_one a b
        rw [← hx0, ← hx2, ← hx4] at hone
        have h1 : notF a b 1 = !x0 := by rw [hx0]; rfl
        have h3 : notF a b 3 = !x2 := by rw [hx2]; rfl
        have h5 : notF a b 5 = !x4 := by rw [hx4]; rfl
        have VT := Lib.hid (fun (W : World) (h : Below wz.heap.size wz W) (j : Nat) (hj : j < 6) (x : Bool) (hx : notF a b j = x) => (show ValC W g (j * 4) (Val.ofBool x) from ROW.out W h j (Val.ofBool x) (by rw [notVs_at a b 6 j hj, not_some hkn hnn j, hx])))
        have V0 := Lib.hid (fun (W : World) (h : Below wz.heap.size wz W) => VT.out W h 0 (by omega) x0 hx0.symm)
        have V1 := Lib.hid (fun (W : World) (h : Below wz.heap.size wz W) => VT.out W h 1 (by omega) (!x0) h1)
        have V2 := Lib.hid (fun (W : World) (h : Below wz.heap.size wz W) => VT.out W h 2 (by omega) x2 hx2.symm)
        have V3 := Lib.hid (fun (W : World) (h : Below wz.heap.size wz W) => VT.out W h 3 (by omega) (!x2) h3)
        have V4 := Lib.hid (fun (W : World) (h : Below wz.heap.size wz W) => VT.out W h 4 (by omega) x4 hx4.symm)
        have V5 := Lib.hid (fun (W : World) (h : Below wz.heap.size wz W) => VT.out W h 5 (by omega) (!x4) h5)
        have ONE := Lib.hid hone
        clear hx0 hx2 hx4 h1 h3 h5 hone VT ROW hnn hkn
        go_wp2_with fail
        go_loopg [11] 6 (fun kx s11 wq => ∃ i : Nat, s11 = .int .i64 i ∧ kx + i = 6 ∧ (i = 0 ∨ i = 2 ∨ i = 4 ∨ i = 6) ∧ Hid (Below wz.heap.size wz wq))
        case atStart => exact ⟨0, rfl, rfl, .inl rfl, Lib.hid (Below.refl _ _)⟩
        case round =>
          obtain ⟨i, rfl, hk2, hi, K⟩ := hrel
          rcases hi with rfl | rfl | rfl | rfl
          · have u0 := (V0.out _ K.out).c0
            have u3 := (V0.out _ K.out).c3
            have t0 := (V1.out _ K.out).c0
            have t3 := (V1.out _ K.out).c3
            simp only [Val.ofBool, Nat.zero_mul, Nat.one_mul, Nat.zero_add, Nat.reduceAdd] at u0 u3 t0 t3
            cases x0
            all_goals
              simp only [Bool.not_false, Bool.not_true] at t3
              go_wp2_with fail
              go_quiet (fail)
              go_wp2_with fail
              go_roundg (gk - 2)
              case measure => omega
              case rel => exact ⟨2, by first | rfl | (simp; done), by omega, .inr (.inl rfl), Lib.hid (bt (below_drewN _ _) K.out)⟩
          · have u0 := (V2.out _ K.out).c0
            have u3 := (V2.out _ K.out).c3
            have t0 := (V3.out _ K.out).c0
            have t3 := (V3.out _ K.out).c3
            simp only [Val.ofBool, Nat.reduceMul, Nat.reduceAdd] at u0 u3 t0 t3
            cases x2
            all_goals
              simp only [Bool.not_false, Bool.not_true] at t3
              go_wp2_with fail
              go_quiet (fail)
              go_wp2_with fail
              go_roundg (gk - 2)
              case measure => omega
              case rel => exact ⟨4, by first | rfl | (simp; done), by omega, .inr (.inr (.inl rfl)), Lib.hid (bt (below_drewN _ _) K.out)⟩
          · have u0 := (V4.out _ K.out).c0
            have u3 := (V4.out _ K.out).c3
            have t0 := (V5.out _ K.out).c0
            have t3 := (V5.out _ K.out).c3
            simp only [Val.ofBool, Nat.reduceMul, Nat.reduceAdd] at u0 u3 t0 t3
            cases x4
            all_goals
              simp only [Bool.not_false, Bool.not_true] at t3
              go_wp2_with fail
              go_quiet (fail)
              go_wp2_with fail
              go_roundg (gk - 2)
              case measure => omega
              case rel => exact ⟨6, by first | rfl | (simp; done), by omega, .inr (.inr (.inr rfl)), Lib.hid (bt (below_drewN _ _) K.out)⟩
          · go_wp2_with fail
            go_loopg [12, 13] 6 (fun kx s12 s13 wq => ∃ i c : Nat, s12 = .int .i64 c ∧ s13 = .int .i64 i ∧ kx + i = 6 ∧ c ≤ i ∧ Hid ((i = 0 ∧ c = 0) ∨ (i = 2 ∧ c = x0.toNat) ∨ (i = 4 ∧ c = x0.toNat + x2.toNat) ∨ (i = 6 ∧ c = x0.toNat + x2.toNat + x4.toNat)) ∧ Hid (Below wz.heap.size wz wq))
            case atStart => exact ⟨0, 0, rfl, rfl, rfl, Nat.le_refl _, Lib.hid (.inl ⟨rfl, rfl⟩), K⟩
            case round =>
              obtain ⟨i, c, rfl, rfl, hk3, hci, HI, K2⟩ := hrel
              rcases HI.out with ⟨rfl, hc⟩ | ⟨rfl, hc⟩ | ⟨rfl, hc⟩ | ⟨rfl, hc⟩
              · have HC : Hid (c = 0) := Lib.hid hc
                clear hc HI
                have u3 := (V0.out _ K2.out).c3
                simp only [Val.ofBool, Nat.zero_mul, Nat.zero_add] at u3
                obtain ⟨xx, hxx⟩ : ∃ xx, xx = x0 := ⟨_, rfl⟩
                rw [← hxx] at u3
                have HX := Lib.hid hxx
                clear hxx
                cases xx
                · go_wp2_with fail
                  go_roundg (gk - 2)
                  case measure => omega
                  case rel => exact ⟨2, c, by first | rfl | (simp; done), by first | rfl | (simp; done), by omega, by omega, Lib.hid (.inr (.inl ⟨rfl, (by have h := HX.out; have k := HC.out; rw [← h, k]; simp)⟩)), K2⟩
                · go_wp2_with fail
                  go_roundg (gk - 2)
                  case measure => omega
                  case rel => exact ⟨2, c + 1, by first | rfl | (simp; done), by first | rfl | (simp; done), by omega, by omega, Lib.hid (.inr (.inl ⟨rfl, (by have h := HX.out; have k := HC.out; rw [← h, k]; simp)⟩)), K2⟩
              · have HC : Hid (c = x0.toNat) := Lib.hid hc
                clear hc HI
                have u3 := (V2.out _ K2.out).c3
                simp only [Val.ofBool, Nat.reduceMul, Nat.reduceAdd] at u3
                obtain ⟨xx, hxx⟩ : ∃ xx, xx = x2 := ⟨_, rfl⟩
                rw [← hxx] at u3
                have HX := Lib.hid hxx
                clear hxx
                cases xx
                · go_wp2_with fail
                  go_roundg (gk - 2)
                  case measure => omega
                  case rel => exact ⟨4, c, by first | rfl | (simp; done), by first | rfl | (simp; done), by omega, by omega, Lib.hid (.inr (.inr (.inl ⟨rfl, (by have h := HX.out; have k := HC.out; rw [← h, k]; simp)⟩))), K2⟩
                · go_wp2_with fail
                  go_roundg (gk - 2)
                  case measure => omega
                  case rel => exact ⟨4, c + 1, by first | rfl | (simp; done), by first | rfl | (simp; done), by omega, by omega, Lib.hid (.inr (.inr (.inl ⟨rfl, (by have h := HX.out; have k := HC.out; rw [← h, k]; simp)⟩))), K2⟩
              · have HC : Hid (c = x0.toNat + x2.toNat) := Lib.hid hc
                clear hc HI
                have u3 := (V4.out _ K2.out).c3
                simp only [Val.ofBool, Nat.reduceMul, Nat.reduceAdd] at u3
                obtain ⟨xx, hxx⟩ : ∃ xx, xx = x4 := ⟨_, rfl⟩
                rw [← hxx] at u3
                have HX := Lib.hid hxx
                clear hxx
                cases xx
                · go_wp2_with fail
                  go_roundg (gk - 2)
                  case measure => omega
                  case rel => exact ⟨6, c, by first | rfl | (simp; done), by first | rfl | (simp; done), by omega, by omega, Lib.hid (.inr (.inr (.inr ⟨rfl, (by have h := HX.out; have k := HC.out; rw [← h, k]; simp)⟩))), K2⟩
                · go_wp2_with fail
                  go_roundg (gk - 2)
                  case measure => omega
                  case rel => exact ⟨6, c + 1, by first | rfl | (simp; done), by first | rfl | (simp; done), by omega, by omega, Lib.hid (.inr (.inr (.inr ⟨rfl, (by have h := HX.out; have k := HC.out; rw [← h, k]; simp)⟩))), K2⟩
              · have hc1 : c = 1 := by
                  rcases ONE.out with ⟨e0, e2, e4⟩ | ⟨e0, e2, e4⟩ | ⟨e0, e2, e4⟩ <;> rw [hc, e0, e2, e4] <;> rfl
                clear hc HI
                subst hc1
                go_wp2_with fail
                refine (hsu.out _).mono ?_
                rintro e w3 ⟨rfl, h3⟩
                have B3 := Lib.hid (bt h3.out (bt K2.out BR.out))
                clear h3
                go_wp2_with fail
                go_ret
                exact ⟨rfl, B3⟩

end Go.Proofs.YtbcmmecilheicaaDoor
