/- barbicanref23.cells. barbicanref23.Groups: what its rounds keep. barbicanref23.Groups: a group more. -/
import Derived.Test.YtbcmmecilheicaaRefO
import Derived.Test.YtbcmmecilheicaaMat

/- barbicanref23.cells. -/
namespace Go.Proofs.Ytbcmmecilheicaa
open Go Go.RowKit

set_option maxRecDepth 100000 in
set_option maxHeartbeats 8000000 in
theorem refCells26 (w : World) (at_ : Int) (VA : Option Addr) (vn vc : Nat) (vals : List Val) (hv : ValsAt w VA vn vals) (hvn : vn ≤ 140737488355328) (CA : Option Addr) (cn cc : Nat) (cols : List Int) (hc : IntsAt w CA cn cols) (hcn : cn ≤ 1000000) :
    Calls Try.prog 26 #[.agg #[.int .i64 at_, .slice VA vn vc], .slice CA cn cc] w (CellsPost vals cols cn w) := by
  unfold CellsPost
  have HV := Lib.hid hv
  have HC := Lib.hid hc
  clear hv hc
  go_enter Try.func26, Try.ntmps26
  go_wp2_with fail
  obtain ⟨w1, hw1⟩ : ∃ x, x = w.alloc (.cells #[.int .i64 at_, .slice VA vn vc] 29) := ⟨_, rfl⟩
  have Z1 := Lib.hid (show Blk w1 w.heap.size 29 #[.int .i64 at_, .slice VA vn vc] by rw [hw1]; exact Blk.new w 29 _)
  have B1 := Lib.hid (show Below w.heap.size w w1 by rw [hw1]; exact below_alloc _ _)
  rw [← hw1]
  clear hw1
  go_loopg [5, 6] cn (fun kx s5 s6 wr => ∃ (i : Nat) (Ao : Option Addr) (co : Nat), s5 = .slice Ao i co ∧ s6 = .int .i64 i ∧ kx + i = cn ∧ Hid (Below w1.heap.size w1 wr ∧ wr.ownsRow w1.heap.size 23 4 (.slice Ao i co) i (valCells ((cols.take i).map (cellP vals)))))
  case atStart => exact ⟨0, none, 0, rfl, rfl, rfl, Lib.hid ⟨Below.refl _ _, World.ownsRow_nil _ _ _ _⟩⟩
  case round =>
    obtain ⟨i, Ao, co, rfl, rfl, hk, I⟩ := hrel
    by_cases hi : i < cn
    · have hiz : (i : Int) < (cn : Int) := by omega
      have hi9 : (i : Int) < 1000001 := by omega
      obtain ⟨z, hz⟩ : ∃ z, cols[i]? = some z := ⟨_, List.getElem?_eq_getElem (by rw [HC.out.len]; exact hi)⟩
      obtain ⟨b, off, rfl, hb, hcell⟩ := (HC.out.below (bt I.out.1 B1.out)).at_ i z hz
      have HZ := Lib.hid hz
      have II := Lib.hid I.out
      clear hz I
      go_upto_region 5 with fail
      go_cut [7] from 14 to 14 (fun s7 wx => s7 = .pointer (some ⟨wr.heap.size, 0, none⟩) ∧ wx = wr.alloc (.cells #[.int .i64 0, .int .i64 0, .string ⟨#[]⟩, .bool false] 23))
      case first =>
        go_wp2_with fail
        go_meet
        case rel => exact ⟨rfl, rfl⟩
      case rest =>
      obtain ⟨rfl, rfl⟩ := hcut
      obtain ⟨wa, hwa⟩ : ∃ x, x = wr.alloc (.cells #[.int .i64 0, .int .i64 0, .string ⟨#[]⟩, .bool false] 23) := ⟨_, rfl⟩
      have ZA := Lib.hid (show Blk wa wr.heap.size 23 #[.int .i64 0, .int .i64 0, .string ⟨#[]⟩, .bool false] by rw [hwa]; exact Blk.new wr 23 _)
      have BA := Lib.hid (show Below wr.heap.size wr wa by rw [hwa]; exact below_alloc _ _)
      have OA := Lib.hid (show wa.ownsRow w1.heap.size 23 4 (.slice Ao i co) i (valCells ((cols.take i).map (cellP vals))) from own_below II.out.2 BA.out)
      have hcell' : wa.cell? ⟨b, off + i, none⟩ = some (.int .i64 z) := (BA.out.cell (p := ⟨b, off + i, none⟩) hb).trans hcell
      rw [← hwa]
      clear hwa hcell
      have zs := Z1.out.below (bt BA.out II.out.1)
      have s1 := zs.cell 1
      go_step
      go_step
      go_cut [7] from 15 to 37 (fun s7 wx => s7 = .pointer (some ⟨wr.heap.size, 0, none⟩) ∧ Hid (Below wr.heap.size wr wx ∧ wr.heap.size < wx.heap.size ∧ ValC wx wr.heap.size 0 (cellP vals z)))
      case first =>
        by_cases h0 : z < 0
        · have hd : decide (z ≥ 0) = false := decide_eq_false (by omega)
          have hd2 : decide (0 ≤ z) = false := decide_eq_false (by omega)
          have EV := Lib.hid (cellP_out (vals := vals) (.inl h0))
          go_wp2_with fail
          go_quiet (fail)
          go_wp2_with fail
          go_meet
          case rel => exact ⟨rfl, Lib.hid ⟨bt (below_drewN _ _) BA.out, by have := ZA.out.lt; simpa using this, by rw [EV.out]; exact valc_blk (v := Val.null) (ZA.out.below (below_drewN _ _))⟩⟩
        · obtain ⟨k, rfl⟩ : ∃ k : Nat, z = k := ⟨z.toNat, by omega⟩
          have hlen := HV.out.len
          by_cases h1 : k < vn
          · have h1z : (k : Int) < (vn : Int) := by omega
            have hk9 : (k : Int) < 140737488355329 := by omega
            obtain ⟨v, hv1⟩ : ∃ v, vals[k]? = some v := ⟨_, List.getElem?_eq_getElem (by omega)⟩
            have EV := Lib.hid (cellP_in hv1)
            obtain ⟨b2, off2, rfl, hb2, c0, c1, c2, c3⟩ := (HV.out.below (bt BA.out (bt II.out.1 B1.out))).at_ k v hv1
            have hfz := fun o => ZA.out.frozen o
            have z0 := ZA.out.cell 0
            have z1 := ZA.out.cell 1
            have z2 := ZA.out.cell 2
            have z3 := ZA.out.cell 3
            clear h0 hv1
            go_wp2_with fail
            go_quiet (fail)
            go_wp2_with fail
            go_region
            all_goals
              go_wp2_with fail
              go_meet
              case rel => exact ⟨rfl, Lib.hid ⟨by
                have hb := BA.out
                have hs := hb.size
                go_grown
                exact bt (below_drewN _ _) BA.out, by have := ZA.out.lt; simpa using this, by rw [EV.out]; exact val_set (show Blk ((wa.drewN _).drew) wr.heap.size 23 _ from ZA.out) _ _ _ _⟩⟩
          · have h1z : ¬ (k : Int) < (vn : Int) := by omega
            have h1d : decide ((k : Int) < (vn : Int)) = false := decide_eq_false h1z
            have EV := Lib.hid (cellP_out (vals := vals) (c := (k : Int)) (.inr (by omega)))
            clear h0
            go_wp2_with fail
            go_quiet (fail)
            go_wp2_with fail
            go_meet
            case rel => exact ⟨rfl, Lib.hid ⟨bt (below_drewN _ _) BA.out, by have := ZA.out.lt; simpa using this, by rw [EV.out]; exact valc_blk (v := Val.null) (ZA.out.below (below_drewN _ _))⟩⟩
      case rest =>
        obtain ⟨rfl, H⟩ := hcut
        obtain ⟨q0, q1, q2, q3⟩ := H.out.2.2
        simp only [Nat.zero_add] at q1 q2 q3
        have hql := H.out.2.1
        have ow2 := own_below II.out.2 H.out.1
        have ow3 := own_below ow2 (below_alloc _ (.cells #[.int .i64 (cellP vals z).kind, .int .i64 (cellP vals z).int, .string (cellP vals z).text, .bool (cellP vals z).bool] 23))
        have B2 := bt H.out.1 II.out.1
        obtain ⟨v', w3, hr, hown, hb3⟩ := app_val ow3 (by unfold TB; omega) (by have := B2.size; simp; omega) (cellP vals z) wc.heap.size (Blk.new wc 23 _)
        obtain ⟨An, cn', hvn'⟩ := own_slice hown
        subst hvn'
        have NX := Lib.hid (show Below w1.heap.size w1 w3 ∧ w3.ownsRow w1.heap.size 23 4 (.slice An (i + 1) cn') (i + 1) (valCells ((cols.take (i + 1)).map (cellP vals))) from
          ⟨(bt (below_alloc _ _) B2).trans hb3, by rw [List.take_add_one, HZ.out, List.map_append]; exact hown⟩)
        have HR := Lib.hid hr
        clear hown hb3 hr ow2 ow3 B2 H s1 hcell' zs
        go_wp2_with (at_builtin; refine wpList_append_runI _ rfl _ _ 27 27 rfl (.slice Ao i co) (.slice (some ⟨wc.heap.size, 0, none⟩) 1 1) rfl rfl HR.out ?_)
        go_roundg (gk - 1)
        case measure => omega
        case rel => exact ⟨i + 1, An, cn', rfl, by first | rfl | (simp; done), by omega, NX⟩
    · obtain rfl : cn = i := by omega
      have hiz : ¬ (cn : Int) < (cn : Int) := by omega
      have EE := Lib.hid (show wr.ownsRow w.heap.size 23 4 (.slice Ao cn co) cn (valCells (cols.map (cellP vals))) by
        have h := I.out.2
        rw [List.take_of_length_le (by rw [HC.out.len]; exact Nat.le_refl _)] at h
        exact own_base h (fun g hg => Nat.le_trans B1.out.size (h.lt g hg).1))
      have BB := Lib.hid (bt I.out.1 B1.out)
      clear I
      go_wp2_with fail
      go_ret
      exact ⟨Ao, co, rfl, EE, BB⟩

end Go.Proofs.Ytbcmmecilheicaa

/- barbicanref23.Groups: what its rounds keep. -/
namespace Go.Proofs.Ytbcmmecilheicaa
open Go Go.RowKit

/-- append of whatever another slice holds -/
theorem app_any {P : Program} {sl e : TypeId} {k bs : Nat} {z : Value} (T : SlT P sl e k bs z) (ty : TypeId) {W : World} {B : Nat} {Ao : Option Addr} {n co : Nat} {xs : List Value} (h : W.ownsRow B e k (.slice Ao n co) n xs) (hB : B ≤ W.heap.size) (S : Option Addr) (m c : Nat) (ys : List Value) (hl : ys.length = m * k) (hs : ∀ j u, ys[j]? = some u → ∃ a, S = some a ∧ W.cell? (a.add j) = some u) (h1 : ∀ u ∈ ys, u.oneCell' = true) (h63 : n + m ≤ maxLen) (hbytes : (n + m) * bs ≤ 140737488355328) :
    ∃ An cn W', (Builtin.append_ #[sl, sl] ty #[.slice Ao n co, .slice S m c]).run P W = .ok (.slice An (n + m) cn) W' ∧ W'.ownsRow B e k (.slice An (n + m) cn) (n + m) (xs ++ ys) ∧ W.grownBy W' (Value.slice Ao n co).ownBlock ∧
      ((Value.slice An (n + m) cn).ownBlock = (Value.slice Ao n co).ownBlock ∨ (Value.slice An (n + m) cn).ownBlock = some W.heap.size) := by
  rcases Nat.eq_zero_or_pos m with h0 | h0
  · subst h0
    obtain rfl : ys = [] := List.eq_nil_of_length_eq_zero (by rw [hl, Nat.zero_mul])
    exact ⟨Ao, co, W, app_zero T ty W (own_cap h).2, by simpa using h, ⟨rfl, rfl, rfl, Nat.le_refl _, fun _ _ _ => rfl⟩, .inl rfl⟩
  · have hp := T.kp
    obtain ⟨u, hu⟩ : ∃ u, ys[0]? = some u := ⟨_, List.getElem?_eq_getElem (by rw [hl]; exact Nat.mul_pos h0 hp)⟩
    obtain ⟨a, rfl, -⟩ := hs 0 u hu
    exact app_some T ty h hB a m c h0 ys hl (fun j v hj => by
      obtain ⟨a', e, hc⟩ := hs j v hj
      injection e with e
      rw [e]; exact hc) h1 h63 hbytes

/-- the two ways a group's place is found -/
theorem while_at {cmp : List Val → List Val → Int} {key : Nat → List Val} {i : Nat} {out : List (List Nat)} {t : Nat} (ht : t ≤ out.length) (hlow : ∀ a g, a < t → out[a]? = some g → cmp (key (g.headD 0)) (key i) < 0) (hstop : ∀ g, out[t]? = some g → ¬ cmp (key (g.headD 0)) (key i) < 0) :
    out.takeWhile (lowG cmp key i) = out.take t ∧ out.dropWhile (lowG cmp key i) = out.drop t := by
  induction out generalizing t with
  | nil =>
    obtain rfl : t = 0 := by simpa using ht
    exact ⟨rfl, rfl⟩
  | cons g out ih =>
    cases t with
    | zero =>
      have h := hstop g rfl
      have e : lowG cmp key i g = false := decide_eq_false h
      rw [List.takeWhile_cons, List.dropWhile_cons, e]
      exact ⟨rfl, rfl⟩
    | succ t =>
      have h := hlow 0 g (by omega) rfl
      obtain ⟨e1, e2⟩ := ih (t := t) (by simpa using ht) (fun a g' ha hg' => hlow (a + 1) g' (by omega) (by simpa using hg')) (fun g' hg' => hstop g' (by simpa using hg'))
      have e : lowG cmp key i g = true := decide_eq_true h
      rw [List.takeWhile_cons, List.dropWhile_cons, e]
      simp only [if_true, List.take_succ_cons, List.drop_succ_cons]
      exact ⟨by rw [e1], e2⟩
theorem refStep_same {cmp : List Val → List Val → Int} {key : Nat → List Val} {i : Nat} {out : List (List Nat)} {t : Nat} (hlow : ∀ a g, a < t → out[a]? = some g → cmp (key (g.headD 0)) (key i) < 0) {g : List Nat} (hg : out[t]? = some g) (he : cmp (key (g.headD 0)) (key i) = 0) : refStep cmp key out i = out.set t (g ++ [i]) := by
  have hl := (List.getElem?_eq_some_iff.1 hg).1
  obtain ⟨e1, e2⟩ := while_at (cmp := cmp) (key := key) (i := i) (t := t) (by omega) hlow (fun g' hg' => by rw [hg] at hg'; injection hg' with hg'; subst hg'; omega)
  have hd : out.drop t = g :: out.drop (t + 1) := by
    rw [List.drop_eq_getElem_cons hl]
    congr 1
    rw [List.getElem?_eq_getElem hl] at hg
    injection hg
  unfold refStep
  rw [e1, e2, hd]
  simp only
  rw [if_pos he, List.set_eq_take_append_cons_drop, if_pos hl]
theorem refStep_new {cmp : List Val → List Val → Int} {key : Nat → List Val} {i : Nat} {out : List (List Nat)} {t : Nat} (ht : t ≤ out.length) (hlow : ∀ a g, a < t → out[a]? = some g → cmp (key (g.headD 0)) (key i) < 0) (hstop : ∀ g, out[t]? = some g → 0 < cmp (key (g.headD 0)) (key i)) : refStep cmp key out i = out.take t ++ [i] :: out.drop t := by
  obtain ⟨e1, e2⟩ := while_at (cmp := cmp) (key := key) (i := i) ht hlow (fun g hg => by have := hstop g hg; omega)
  unfold refStep
  rw [e1, e2]
  cases hd : out.drop t with
  | nil => rfl
  | cons g r =>
    have hg : out[t]? = some g := by
      have : (out.drop t)[0]? = some g := by rw [hd]; rfl
      rw [List.getElem?_drop] at this
      exact this
    simp only
    rw [if_neg (by have := hstop g hg; omega)]

/-- what the document's loop keeps -/
structure RG (cn : Nat) (key : Nat → List Val) (w wr : World) (gs : List (List Nat)) (Oo : Option Addr) (m oc : Nat) (vs : List Value) (Ko : Option Addr) (kc : Nat) (ks : List Value) : Prop where
  old : Below w.heap.size w wr
  out : wr.ownsRow w.heap.size 45 1 (.slice Oo m oc) m vs
  inn : Inn wr w.heap.size (fun b => w.heap.size ≤ b ∧ some b ≠ (Value.slice Oo m oc).ownBlock ∧ some b ≠ (Value.slice Ko m kc).ownBlock) vs gs
  keys : wr.ownsRow w.heap.size 27 1 (.slice Ko m kc) m ks
  kin : ∀ (a : Nat) (u : Value) (g : List Nat), ks[a]? = some u → gs[a]? = some g → ∃ A c, u = .slice A cn c ∧ ValsIn wr (fun b => w.heap.size ≤ b ∧ some b ≠ (Value.slice Oo m oc).ownBlock ∧ some b ≠ (Value.slice Ko m kc).ownBlock ∧ ∀ v ∈ vs, v.ownBlock ≠ some b) A cn (key (g.headD 0))
  apart : ∀ k, (Value.slice Oo m oc).ownBlock = some k → (Value.slice Ko m kc).ownBlock ≠ some k
  start : m = 0 → Oo = none ∧ oc = 0 ∧ Ko = none ∧ kc = 0
theorem RG.zero (cn : Nat) (key : Nat → List Val) (w : World) : RG cn key w w [] none 0 0 [] none 0 [] :=
  ⟨Below.refl _ _, World.ownsRow_nil _ _ _ _, Inn.nil _ _ _, World.ownsRow_nil _ _ _ _, fun a u g h => (by simp at h), fun k h => (by cases h), fun _ => ⟨rfl, rfl, rfl, rfl⟩⟩
theorem RG.below {cn : Nat} {key : Nat → List Val} {w wr W : World} {gs : List (List Nat)} {Oo : Option Addr} {m oc : Nat} {vs : List Value} {Ko : Option Addr} {kc : Nat} {ks : List Value} (h : RG cn key w wr gs Oo m oc vs Ko kc ks) (hb : Below wr.heap.size wr W) : RG cn key w W gs Oo m oc vs Ko kc ks :=
  ⟨bt hb h.old, own_below h.out hb, h.inn.keep (fun b _ hl => hb.block b hl) (fun b hb _ => hb), own_below h.keys hb, fun a u g hu hg => by
    obtain ⟨A, c, e, hv⟩ := h.kin a u g hu hg
    exact ⟨A, c, e, hv.keep (fun b _ hl => hb.block b hl) (fun b hb _ => hb) hb.size⟩, h.apart, h.start⟩
theorem RG.len {cn : Nat} {key : Nat → List Val} {w wr : World} {gs : List (List Nat)} {Oo : Option Addr} {m oc : Nat} {vs : List Value} {Ko : Option Addr} {kc : Nat} {ks : List Value} (h : RG cn key w wr gs Oo m oc vs Ko kc ks) : gs.length = m ∧ vs.length = m ∧ ks.length = m := by
  have h1 := h.out.1
  have h2 := h.keys.1
  rw [Nat.mul_one] at h1 h2
  exact ⟨by rw [← h.inn.len, h1], h1, h2⟩
theorem RG.mat {cn : Nat} {key : Nat → List Val} {w wr : World} {gs : List (List Nat)} {Oo : Option Addr} {m oc : Nat} {vs : List Value} {Ko : Option Addr} {kc : Nat} {ks : List Value} (h : RG cn key w wr gs Oo m oc vs Ko kc ks) : Mat wr w.heap.size Oo m oc vs gs :=
  ⟨h.out, h.inn.keep (fun _ _ _ => rfl) (fun _b hb _ => ⟨hb.1, hb.2.1⟩)⟩

/-- a row in a group that is there -/
theorem RG.add {cn : Nat} {key : Nat → List Val} {w wr : World} {gs : List (List Nat)} {g : Nat} {m oc : Nat} {vs : List Value} {Ko : Option Addr} {kc : Nat} {ks : List Value} (h : RG cn key w wr gs (some ⟨g, 0, none⟩) m oc vs Ko kc ks) {a : Nat} {Ao : Option Addr} {n co : Nat} {l : List Nat} (hu : vs[a]? = some (.slice Ao n co)) (hl : gs[a]? = some l) (hne : l ≠ []) (hn : n + 1 ≤ 1000001) (j s : Nat) (z : Blk wr s 3 #[.int .i64 j]) :
    ∃ An cn' W', (Builtin.append_ #[45, 45] 45 #[.slice Ao n co, .slice (some ⟨s, 0, none⟩) 1 1]).run Try.prog wr = .ok (.slice An (n + 1) cn') W' ∧ W'.cell? ⟨g, a, none⟩ = some (.slice Ao n co) ∧ W'.frozen? ⟨g, a, none⟩ = false ∧
      RG cn key w (W'.setCell ⟨g, a, none⟩ (.slice An (n + 1) cn')) (gs.set a (l ++ [j])) (some ⟨g, 0, none⟩) m oc (vs.set a (.slice An (n + 1) cn')) Ko kc ks := by
  have hsz := h.old.size
  obtain ⟨-, An, cn', W', hr, hc, hf, hM, hB, hkp, hnew⟩ := h.mat.add hsz hu hl hn j s z
  refine ⟨An, cn', W', hr, hc, hf, ?_⟩
  obtain ⟨hrow, hS⟩ := h.inn.row a _ l hu hl
  have hgm : g < wr.heap.size := (h.out.lt g rfl).2
  have hKne : ∀ k, (Value.slice Ko m kc).ownBlock = some k → k ≠ g := fun k hk e => h.apart g rfl (by rw [hk, e])
  have hKa : ∀ k, (Value.slice Ko m kc).ownBlock = some k → some k ≠ (Value.slice Ao n co).ownBlock := fun k hk e => (hS k e.symm).2.2 hk.symm
  have hnewb : ∀ k, (Value.slice An (n + 1) cn').ownBlock = some k → k = wr.heap.size ∨ (Value.slice Ao n co).ownBlock = some k := fun k hk => by
    rcases hnew with e | e
    · rw [e] at hk; exact .inr hk
    · rw [e] at hk; injection hk with hk; exact .inl hk.symm
  have hsize : wr.heap.size ≤ (W'.setCell ⟨g, a, none⟩ (.slice An (n + 1) cn')).heap.size := hB.size
  refine ⟨h.old.trans hB, hM.outer, ?_, own_blk h.keys (fun k hk => hkp k (h.keys.lt k hk).2 (hKa k hk) (hKne k hk)), fun b u g' hu' hg' => ?_, h.apart, h.start⟩
  · refine ⟨hM.inn.len, fun b u g' hu' hg' => ?_, hM.inn.apart⟩
    obtain ⟨r1, r2⟩ := hM.inn.row b u g' hu' hg'
    refine ⟨r1, fun k hk => ⟨(r2 k hk).1, (r2 k hk).2, fun e => ?_⟩⟩
    have hklt := (h.keys.lt k e.symm).2
    by_cases c : b = a
    · subst c
      have hb1 := (List.getElem?_eq_some_iff.1 hu').1
      rw [List.length_set] at hb1
      rw [List.getElem?_set_self hb1] at hu'
      injection hu' with hu'
      subst hu'
      rcases hnewb k hk with q | q
      · omega
      · exact (hS k q).2.2 e
    · rw [List.getElem?_set_ne (fun h => c h.symm)] at hu' hg'
      exact ((h.inn.row b u g' hu' hg').2 k hk).2.2 e
  · have hg0 : ∃ g0, gs[b]? = some g0 ∧ g0.headD 0 = g'.headD 0 := by
      by_cases c : b = a
      · subst c
        have hb1 := (List.getElem?_eq_some_iff.1 hg').1
        rw [List.length_set] at hb1
        rw [List.getElem?_set_self hb1] at hg'
        injection hg' with hg'
        subst hg'
        refine ⟨l, hl, ?_⟩
        cases l with
        | nil => exact absurd rfl hne
        | cons x l => rfl
      · rw [List.getElem?_set_ne (fun h => c h.symm)] at hg'
        exact ⟨g', hg', rfl⟩
    obtain ⟨g0, hg0, e0⟩ := hg0
    obtain ⟨A, c, e, hv⟩ := h.kin b u g0 hu' hg0
    rw [← e0]
    refine ⟨A, c, e, hv.keep (fun q hq hlt => hkp q hlt (fun e => hq.2.2.2 _ (List.mem_of_getElem? hu) e.symm) (fun e => hq.2.1 (by rw [e]; rfl))) (fun q hq hlt => ⟨hq.1, hq.2.1, hq.2.2.1, fun v hv2 => ?_⟩) hsize⟩
    rcases List.mem_or_eq_of_mem_set hv2 with hv2 | rfl
    · exact hq.2.2.2 v hv2
    · intro e2
      rcases hnewb q e2 with q2 | q2
      · omega
      · exact hq.2.2.2 _ (List.mem_of_getElem? hu) q2

end Go.Proofs.Ytbcmmecilheicaa

/- barbicanref23.Groups: a group more. -/
namespace Go.Proofs.Ytbcmmecilheicaa
open Go Go.RowKit

theorem mem_of_take {α : Type} {l : List α} {n a : Nat} {x : α} (h : (l.take n)[a]? = some x) : l[a]? = some x := by
  rw [List.getElem?_take] at h
  by_cases c : a < n
  · rw [if_pos c] at h; exact h
  · rw [if_neg c] at h; cases h
/-- where a row's first cells lie -/
theorem src_take {W : World} {B n : Nat} {e : TypeId} {A : Option Addr} {c : Nat} {xs : List Value} (h : W.ownsRow B e 1 (.slice A n c) n xs) (t : Nat) : ∀ j u, (xs.take t)[j]? = some u → ∃ a, A = some a ∧ W.cell? (a.add j) = some u := fun j u hj => by
  obtain ⟨g, e, -, -, hc, -⟩ := own_at h (mem_of_take hj)
  exact ⟨_, e, by rw [add_lit0]; exact hc⟩
/-- where its last ones lie -/
theorem src_drop {W : World} {B n : Nat} {e : TypeId} {g c : Nat} {xs : List Value} (h : W.ownsRow B e 1 (.slice (some ⟨g, 0, none⟩) n c) n xs) (t : Nat) : ∀ j u, (xs.drop t)[j]? = some u → ∃ a, (some (⟨g, t, none⟩ : Addr)) = some a ∧ W.cell? (a.add j) = some u := fun j u hj => by
  rw [List.getElem?_drop] at hj
  obtain ⟨g', e, -, -, hc, -⟩ := own_at h hj
  injection e with e
  injection e with e
  subst e
  refine ⟨_, rfl, ?_⟩
  rw [show (⟨g, t, none⟩ : Addr).add j = ⟨g, t + j, none⟩ by unfold Addr.add; split <;> simp_all]
  exact hc

structure NewG (cn : Nat) (key : Nat → List Val) (w wr : World) (gs : List (List Nat)) (Oo : Option Addr) (m oc : Nat) (vs : List Value) (Ko : Option Addr) (kc : Nat) (ks : List Value) (t j : Nat) (A' : Option Addr) (c' : Nat) (S1 : Option Addr) (d1 : Nat) (S2 : Option Addr) (d2 : Nat) where
  (A1 A2 A3 A4 A5 A6 : Option Addr)
  (c1 c2 c3 c4 c5 c6 : Nat)
  (W1 W2 W3 W4 W5 W6 : World)
  r1 : (Builtin.append_ #[46, 46] 46 #[.slice none 0 0, .slice Oo t oc]).run Try.prog wr = .ok (.slice A1 t c1) W1
  r2 : (Builtin.append_ #[46, 46] 46 #[.slice A1 t c1, .slice (some ⟨W1.heap.size + 1, 0, none⟩) 1 1]).run Try.prog ((W1.alloc (.cells #[.int .i64 j] 3)).alloc (.cells #[.slice (some ⟨W1.heap.size, 0, none⟩) 1 1] 45)) = .ok (.slice A2 (t + 1) c2) W2
  r3 : (Builtin.append_ #[57, 57] 57 #[.slice none 0 0, .slice Ko t kc]).run Try.prog W2 = .ok (.slice A3 t c3) W3
  r4 : (Builtin.append_ #[57, 57] 57 #[.slice A3 t c3, .slice (some ⟨W3.heap.size, 0, none⟩) 1 1]).run Try.prog (W3.alloc (.cells #[.slice A' cn c'] 27)) = .ok (.slice A4 (t + 1) c4) W4
  r5 : (Builtin.append_ #[46, 46] 46 #[.slice A2 (t + 1) c2, .slice S1 (m - t) d1]).run Try.prog W4 = .ok (.slice A5 (m + 1) c5) W5
  r6 : (Builtin.append_ #[57, 57] 57 #[.slice A4 (t + 1) c4, .slice S2 (m - t) d2]).run Try.prog W5 = .ok (.slice A6 (m + 1) c6) W6
  rg : RG cn key w W6 (gs.take t ++ [j] :: gs.drop t) A5 (m + 1) c5 (vs.take t ++ .slice (some ⟨W1.heap.size, 0, none⟩) 1 1 :: vs.drop t) A6 c6 (ks.take t ++ .slice A' cn c' :: ks.drop t)

set_option maxHeartbeats 4000000 in
theorem RG.new {cn : Nat} {key : Nat → List Val} {w wr : World} {gs : List (List Nat)} {Oo : Option Addr} {m oc : Nat} {vs : List Value} {Ko : Option Addr} {kc : Nat} {ks : List Value} (h : RG cn key w wr gs Oo m oc vs Ko kc ks) {t : Nat} (ht : t ≤ m) (hm : m + 1 ≤ 1000001) (j : Nat) {A' : Option Addr} {c' : Nat}
    (hk : ValsIn wr (fun b => w.heap.size ≤ b ∧ some b ≠ (Value.slice Oo m oc).ownBlock ∧ some b ≠ (Value.slice Ko m kc).ownBlock ∧ ∀ v ∈ vs, v.ownBlock ≠ some b) A' cn (key j)) (S1 : Option Addr) (d1 : Nat) (S2 : Option Addr) (d2 : Nat)
    (hs1 : ∀ x u, (vs.drop t)[x]? = some u → ∃ a, S1 = some a ∧ a.block < wr.heap.size ∧ wr.cell? (a.add x) = some u) (hs2 : ∀ x u, (ks.drop t)[x]? = some u → ∃ a, S2 = some a ∧ a.block < wr.heap.size ∧ wr.cell? (a.add x) = some u) :
    Nonempty (NewG cn key w wr gs Oo m oc vs Ko kc ks t j A' c' S1 d1 S2 d2) := by
  obtain ⟨lg, lv, lk⟩ := h.len
  have hsz := h.old.size
  have addb : ∀ (a : Addr) (x : Nat), (a.add x).block = a.block := fun a x => by unfold Addr.add; split <;> rfl
  have one1 : ∀ u ∈ vs, u.oneCell' = true := slices_one h.inn.slices
  have one2 : ∀ u ∈ ks, u.oneCell' = true := fun u hu => by
    obtain ⟨a, ha⟩ := List.getElem?_of_mem hu
    have hl := (List.getElem?_eq_some_iff.1 ha).1
    obtain ⟨g, hg⟩ : ∃ g, gs[a]? = some g := ⟨_, List.getElem?_eq_getElem (by omega)⟩
    obtain ⟨A, c, rfl, -⟩ := h.kin a u g ha hg
    rfl
  obtain ⟨A1, c1, W1, r1, o1, g1, n1⟩ := app_any tIntss 46 (W := wr) (B := wr.heap.size) (Ao := none) (n := 0) (co := 0) (xs := []) (World.ownsRow_nil _ _ _ _) (Nat.le_refl _) Oo t oc (vs.take t) (by rw [List.length_take, Nat.mul_one]; omega) (src_take h.out t) (fun u hu => one1 u (List.mem_of_mem_take hu)) (by unfold maxLen; omega) (by omega)
  simp only [Nat.zero_add, List.nil_append] at r1 o1 n1
  have b1 : Below wr.heap.size wr W1 := ⟨g1.os, g1.tape, g1.output, g1.size, fun k hk => g1.block k hk (by simp [Value.ownBlock])⟩
  have k1 : ∀ k, (Value.slice A1 t c1).ownBlock = some k → wr.heap.size ≤ k ∧ k < W1.heap.size := o1.lt
  obtain ⟨W1b, hW1b⟩ : ∃ x, x = (W1.alloc (.cells #[.int .i64 j] 3)).alloc (.cells #[.slice (some ⟨W1.heap.size, 0, none⟩) 1 1] 45) := ⟨_, rfl⟩
  have b1b : Below W1.heap.size W1 W1b := by rw [hW1b]; exact bt (below_alloc _ _) (below_alloc _ _)
  have s1b : W1b.heap.size = W1.heap.size + 2 := by rw [hW1b]; simp
  have z1 : Blk W1b W1.heap.size 3 #[.int .i64 j] := by rw [hW1b]; exact (Blk.new W1 3 _).alloc _
  have z2 : Blk W1b (W1.heap.size + 1) 45 #[.slice (some ⟨W1.heap.size, 0, none⟩) 1 1] := by rw [hW1b]; exact blk_new' (w := W1.alloc _) rfl (by simp)
  obtain ⟨A2, c2, W2, r2, o2, g2, n2⟩ := app_some tIntss 46 (own_below o1 b1b) (by rw [s1b]; have := b1.size; omega) ⟨W1.heap.size + 1, 0, none⟩ 1 1 (by omega) [.slice (some ⟨W1.heap.size, 0, none⟩) 1 1] rfl (fun x u hx => by
    rw [add_lit0, z2.cell x]
    simpa using hx) (fun u hu => by simp at hu; subst hu; rfl) (by unfold maxLen; omega) (by omega)
  have b2 : Below wr.heap.size W1b W2 := below_grown (own_below o1 b1b) g2 (by rw [s1b]; have := b1.size; omega)
  have k2 : ∀ k, (Value.slice A2 (t + 1) c2).ownBlock = some k → wr.heap.size ≤ k ∧ k < W2.heap.size ∧ (k < W1.heap.size ∨ k = W1.heap.size + 2) := fun k hk => by
    have p := o2.lt k hk
    refine ⟨p.1, p.2, ?_⟩
    rcases n2 with q | q
    · rw [q] at hk; exact .inl (k1 k hk).2
    · rw [q, s1b] at hk; injection hk with hk; exact .inr hk.symm
  have s2 := g2.size
  rw [s1b] at s2
  have B2 : Below wr.heap.size wr W2 := (bt b1b b1).trans b2
  have keysW2 : W2.ownsRow w.heap.size 27 1 (.slice Ko m kc) m ks := own_blk h.keys (fun k hk => B2.block k (h.keys.lt k hk).2)
  obtain ⟨A3, c3, W3, r3, o3, g3, n3⟩ := app_any tValss 57 (W := W2) (B := W2.heap.size) (Ao := none) (n := 0) (co := 0) (xs := []) (World.ownsRow_nil _ _ _ _) (Nat.le_refl _) Ko t kc (ks.take t) (by rw [List.length_take, Nat.mul_one]; omega) (src_take keysW2 t) (fun u hu => one2 u (List.mem_of_mem_take hu)) (by unfold maxLen; omega) (by omega)
  simp only [Nat.zero_add, List.nil_append] at r3 o3 n3
  have b3 : Below W2.heap.size W2 W3 := ⟨g3.os, g3.tape, g3.output, g3.size, fun k hk => g3.block k hk (by simp [Value.ownBlock])⟩
  have k3 : ∀ k, (Value.slice A3 t c3).ownBlock = some k → W2.heap.size ≤ k ∧ k < W3.heap.size := o3.lt
  obtain ⟨W3b, hW3b⟩ : ∃ x, x = W3.alloc (.cells #[.slice A' cn c'] 27) := ⟨_, rfl⟩
  have b3b : Below W3.heap.size W3 W3b := by rw [hW3b]; exact below_alloc _ _
  have s3b : W3b.heap.size = W3.heap.size + 1 := by rw [hW3b]; simp
  have z3 : Blk W3b W3.heap.size 27 #[.slice A' cn c'] := by rw [hW3b]; exact Blk.new W3 27 _
  obtain ⟨A4, c4, W4, r4, o4, g4, n4⟩ := app_some tValss 57 (own_below o3 b3b) (by rw [s3b]; have := b3.size; omega) ⟨W3.heap.size, 0, none⟩ 1 1 (by omega) [.slice A' cn c'] rfl (fun x u hx => by
    rw [add_lit0, z3.cell x]
    simpa using hx) (fun u hu => by simp at hu; subst hu; rfl) (by unfold maxLen; omega) (by omega)
  have b4 : Below W2.heap.size W3b W4 := below_grown (own_below o3 b3b) g4 (by rw [s3b]; have := b3.size; omega)
  have B24 : Below W2.heap.size W2 W4 := (bt b3b b3).trans b4
  have k4 : ∀ k, (Value.slice A4 (t + 1) c4).ownBlock = some k → W2.heap.size ≤ k ∧ k < W4.heap.size := o4.lt
  have B4 : Below wr.heap.size wr W4 := bt B24 (by exact B2) |> fun x => x
  have o2W4 : W4.ownsRow wr.heap.size 45 1 (.slice A2 (t + 1) c2) (t + 1) (vs.take t ++ [.slice (some ⟨W1.heap.size, 0, none⟩) 1 1]) := own_below o2 B24
  obtain ⟨A5, c5, W5, r5, o5, g5, n5⟩ := app_any tIntss 46 o2W4 B4.size S1 (m - t) d1 (vs.drop t) (by rw [List.length_drop, Nat.mul_one]; omega) (fun x u hx => by
    obtain ⟨a, e, hb, hc⟩ := hs1 x u hx
    exact ⟨a, e, (World.cell?_of_block (a := a.add x) (B4.block _ (by rw [addb]; exact hb))).trans hc⟩) (fun u hu => one1 u (List.mem_of_mem_drop hu)) (by unfold maxLen; omega) (by omega)
  have em : t + 1 + (m - t) = m + 1 := by omega
  rw [em] at r5 o5 n5
  have b5 : Below wr.heap.size W4 W5 := below_grown o2W4 g5 B4.size
  have k5 : ∀ k, (Value.slice A5 (m + 1) c5).ownBlock = some k → wr.heap.size ≤ k ∧ k < W5.heap.size ∧ k ≠ W1.heap.size ∧ (k < W2.heap.size ∨ k = W4.heap.size) := fun k hk => by
    have p := o5.lt k hk
    have hs4 := B24.size
    rcases n5 with q | q
    · rw [q] at hk
      have := k2 k hk
      exact ⟨p.1, p.2, by omega, .inl this.2.1⟩
    · rw [q] at hk; injection hk with hk
      exact ⟨p.1, p.2, by omega, .inr hk.symm⟩
  have o4k : W5.ownsRow W2.heap.size 27 1 (.slice A4 (t + 1) c4) (t + 1) (ks.take t ++ [.slice A' cn c']) := own_blk o4 (fun k hk => g5.block k (k4 k hk).2 (fun e => by
    have a := k2 k e.symm
    have b := k4 k hk
    omega))
  have B5 : Below wr.heap.size wr W5 := B4.trans b5
  obtain ⟨A6, c6, W6, r6, o6, g6, n6⟩ := app_any tValss 57 o4k (Nat.le_trans B24.size b5.size) S2 (m - t) d2 (ks.drop t) (by rw [List.length_drop, Nat.mul_one]; omega) (fun x u hx => by
    obtain ⟨a, e, hb, hc⟩ := hs2 x u hx
    exact ⟨a, e, (World.cell?_of_block (a := a.add x) (B5.block _ (by rw [addb]; exact hb))).trans hc⟩) (fun u hu => one2 u (List.mem_of_mem_drop hu)) (by unfold maxLen; omega) (by omega)
  rw [em] at r6 o6 n6
  have b6 : Below W2.heap.size W5 W6 := below_grown o4k g6 (Nat.le_trans B24.size b5.size)
  have hsW := b5.size
  have hs24 := B24.size
  have hs12 := b1.size
  have hs6 := b6.size
  have k6 : ∀ k, (Value.slice A6 (m + 1) c6).ownBlock = some k → W2.heap.size ≤ k ∧ (k < W4.heap.size ∨ k = W5.heap.size) := fun k hk => by
    have p := o6.lt k hk
    refine ⟨p.1, ?_⟩
    rcases n6 with q | q
    · rw [q] at hk; exact .inl (k4 k hk).2
    · rw [q] at hk; injection hk with hk; exact .inr hk.symm
  have B6 : Below wr.heap.size wr W6 := B5.trans (b6.mono (by omega))
  -- the new inner row
  have keepU : W6.heap[W1.heap.size]? = W1b.heap[W1.heap.size]? := by
    rw [b6.block _ (by omega), g5.block _ (by omega) (fun e => by have := (k2 _ e.symm).2.2; omega), B24.block _ (by omega), g2.block _ (by omega) (fun e => by have := (k1 _ e.symm).2; omega)]
  have zU : Blk W6 W1.heap.size 3 #[.int .i64 j] := keepU.trans z1
  have oU : W6.ownsRow wr.heap.size 3 1 (.slice (some ⟨W1.heap.size, 0, none⟩) 1 1) [j].length (intsV [j]) :=
    ⟨rfl, .inr ⟨W1.heap.size, 1, #[.int .i64 j], rfl, by omega, zU, Nat.le_refl _, by unfold maxLen; omega, rfl, rfl⟩⟩
  have SN : ∀ b, b < wr.heap.size → w.heap.size ≤ b → w.heap.size ≤ b ∧ some b ≠ (Value.slice A5 (m + 1) c5).ownBlock ∧ some b ≠ (Value.slice A6 (m + 1) c6).ownBlock := fun b hb hw => ⟨hw, fun e => by have := (k5 b e.symm).1; omega, fun e => by have := (k6 b e.symm).1; omega⟩
  have innOld : Inn W6 w.heap.size (fun b => w.heap.size ≤ b ∧ some b ≠ (Value.slice A5 (m + 1) c5).ownBlock ∧ some b ≠ (Value.slice A6 (m + 1) c6).ownBlock) vs gs := h.inn.keep (fun b _ hl => B6.block b hl) (fun b hb hl => SN b hl hb.1)
  have lowV : ∀ (a : Nat) (u : Value) (k : Nat), vs[a]? = some u → u.ownBlock = some k → k < wr.heap.size := fun a u k hu hk => by
    obtain ⟨g, hg⟩ : ∃ g, gs[a]? = some g := ⟨_, List.getElem?_eq_getElem (by have := (List.getElem?_eq_some_iff.1 hu).1; omega)⟩
    exact ((h.inn.row a u g hu hg).1.lt k hk).2
  have innU : Inn W6 w.heap.size (fun b => w.heap.size ≤ b ∧ some b ≠ (Value.slice A5 (m + 1) c5).ownBlock ∧ some b ≠ (Value.slice A6 (m + 1) c6).ownBlock) [.slice (some ⟨W1.heap.size, 0, none⟩) 1 1] [[j]] :=
    Inn.one (own_base oU (fun g hg => by
      have e : W1.heap.size = g := (by injection hg)
      omega)) (fun k hk => by
      obtain rfl : W1.heap.size = k := by injection hk
      exact ⟨by omega, fun e => (k5 _ e.symm).2.2.1 rfl, fun e => by have := (k6 _ e.symm).1; omega⟩)
  refine ⟨⟨A1, A2, A3, A4, A5, A6, c1, c2, c3, c4, c5, c6, W1, W2, W3, W4, W5, W6, r1, by rw [← hW1b]; exact r2, r3, by rw [← hW3b]; exact r4, r5, r6, ?_⟩⟩
  refine ⟨h.old.trans (B6.mono hsz), ?_, ?_, ?_, fun a u g hu hg => ?_, fun k hk e => ?_, fun e => by omega⟩
  · have e : vs.take t ++ [.slice (some ⟨W1.heap.size, 0, none⟩) 1 1] ++ vs.drop t = vs.take t ++ .slice (some ⟨W1.heap.size, 0, none⟩) 1 1 :: vs.drop t := by rw [List.append_assoc]; rfl
    rw [← e]
    refine own_base (own_blk o5 (fun k hk => g6.block k (k5 k hk).2.1 (fun e => ?_))) (fun g hg => by have := (k5 g hg).1; omega)
    have p := k5 k hk
    have q := k4 k e.symm
    omega
  · refine (innOld.take t).append (innU.append (innOld.drop t) (fun a b u u' k hu hu' hk => ?_)) (fun a b u u' k hu hu' hk => ?_)
    · rw [List.getElem?_drop] at hu'
      match a, hu with
      | 0, hu =>
        obtain rfl : Value.slice (some ⟨W1.heap.size, 0, none⟩) 1 1 = u := by simpa using hu
        obtain rfl : W1.heap.size = k := by injection hk
        exact fun e => by have := lowV _ _ _ hu' e; omega
      | a + 1, hu => simp at hu
    · have hu0 := mem_of_take hu
      have hlt : a < t := by
        have := (List.getElem?_eq_some_iff.1 hu).1
        rw [List.length_take] at this; omega
      match b, hu' with
      | 0, hu' =>
        obtain rfl : Value.slice (some ⟨W1.heap.size, 0, none⟩) 1 1 = u' := by simpa using hu'
        intro e
        obtain rfl : W1.heap.size = k := by injection e
        have := lowV _ _ _ hu0 hk; omega
      | b + 1, hu' =>
        have hu2 : vs[t + b]? = some u' := by
          have : (vs.drop t)[b]? = some u' := by simpa using hu'
          rw [List.getElem?_drop] at this
          exact this
        exact h.inn.apart a (t + b) u u' k (by omega) hu0 hu2 hk
  · have e : ks.take t ++ [.slice A' cn c'] ++ ks.drop t = ks.take t ++ .slice A' cn c' :: ks.drop t := by rw [List.append_assoc]; rfl
    rw [← e]
    exact own_base o6 (fun g hg => by have := (k6 g hg).1; omega)
  · have memv : ∀ v ∈ vs.take t ++ .slice (some ⟨W1.heap.size, 0, none⟩) 1 1 :: vs.drop t, v ∈ vs ∨ v = .slice (some ⟨W1.heap.size, 0, none⟩) 1 1 := fun v hv => by
      rcases List.mem_append.1 hv with hv | hv
      · exact .inl (List.mem_of_mem_take hv)
      · rcases List.mem_cons.1 hv with rfl | hv
        · exact .inr rfl
        · exact .inl (List.mem_of_mem_drop hv)
    have lift : ∀ {A : Option Addr} {l : List Val}, ValsIn wr (fun b => w.heap.size ≤ b ∧ some b ≠ (Value.slice Oo m oc).ownBlock ∧ some b ≠ (Value.slice Ko m kc).ownBlock ∧ ∀ v ∈ vs, v.ownBlock ≠ some b) A cn l → ValsIn W6 (fun b => w.heap.size ≤ b ∧ some b ≠ (Value.slice A5 (m + 1) c5).ownBlock ∧ some b ≠ (Value.slice A6 (m + 1) c6).ownBlock ∧ ∀ v ∈ vs.take t ++ .slice (some ⟨W1.heap.size, 0, none⟩) 1 1 :: vs.drop t, v.ownBlock ≠ some b) A cn l := fun hv =>
      hv.keep (fun b _ hl => B6.block b hl) (fun b hb hl => by
        obtain ⟨p1, p2, p3⟩ := SN b hl hb.1
        refine ⟨p1, p2, p3, fun v hv2 => ?_⟩
        rcases memv v hv2 with q | rfl
        · exact hb.2.2.2 v q
        · intro e
          have e2 : W1.heap.size = b := (by injection e)
          omega) B6.size
    by_cases ca : a < t
    · rw [List.getElem?_append_left (by rw [List.length_take]; omega)] at hu hg
      obtain ⟨A, c, e, hv⟩ := h.kin a u g (mem_of_take hu) (mem_of_take hg)
      exact ⟨A, c, e, lift hv⟩
    · rw [List.getElem?_append_right (by rw [List.length_take]; omega), List.length_take] at hu hg
      rw [show min t ks.length = t by omega] at hu
      rw [show min t gs.length = t by omega] at hg
      rcases Nat.eq_zero_or_pos (a - t) with e0 | e0
      · rw [e0] at hu hg
        obtain rfl : Value.slice A' cn c' = u := by simpa using hu
        obtain rfl : [j] = g := by simpa using hg
        exact ⟨A', c', rfl, lift hk⟩
      · obtain ⟨b, hb⟩ : ∃ b, a - t = b + 1 := ⟨a - t - 1, by omega⟩
        rw [hb] at hu hg
        rw [List.getElem?_cons_succ, List.getElem?_drop] at hu hg
        obtain ⟨A, c, e, hv⟩ := h.kin _ u g hu hg
        exact ⟨A, c, e, lift hv⟩
  · have p := k5 k hk
    have q := k6 k e
    omega

end Go.Proofs.Ytbcmmecilheicaa
