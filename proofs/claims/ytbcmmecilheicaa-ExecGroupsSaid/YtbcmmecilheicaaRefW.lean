/- barbicanref23.Groups: the walk. -/
import Derived.Test.YtbcmmecilheicaaRefA
import Derived.Test.YtbcmmecilheicaaGrp2
namespace Go.Proofs.Ytbcmmecilheicaa
open Go Go.RowKit

theorem flat_len {l : List (List Nat)} (h : ∀ g ∈ l, g ≠ []) : l.length ≤ l.flatten.length := by
  induction l with
  | nil => simp
  | cons g l ih =>
    have h1 := ih (fun g hg => h g (List.mem_cons_of_mem _ hg))
    have h2 : 0 < g.length := List.length_pos_iff.2 (h g (by simp))
    simp only [List.length_cons, List.flatten_cons, List.length_append]
    omega

theorem mem_len {l : List (List Nat)} {g : List Nat} (h : g ∈ l) : g.length ≤ l.flatten.length := by
  induction l with
  | nil => cases h
  | cons a l ih =>
    rw [List.flatten_cons, List.length_append]
    rcases List.mem_cons.1 h with rfl | h
    · omega
    · have := ih h; omega

set_option maxRecDepth 100000 in
set_option maxHeartbeats 40000000 in
theorem refGroups13 (w : World) (A : Option Addr) (n c0 : Nat) (rs : List (Int × List Val)) (hr : RowsAt w A n rs) (hn : n ≤ 1000000) (CA : Option Addr) (cn cc : Nat) (cols : List Int) (hc : IntsAt w CA cn cols) (hcn : cn ≤ 1000000) :
    Calls Try.prog 13 #[.slice A n c0, .slice CA cn cc] w (GroupsPost rs cols n w) := by
  have HR := Lib.hid hr
  have HC := Lib.hid hc
  have HI := Lib.hid (fun i => ginv_ref (key := keyOf rs cols) totK i)
  clear hr hc
  go_enter Try.func13, Try.ntmps13
  go_wp2_with fail
  go_loopg [5, 6, 7] n (fun kx s5 s6 s7 wr => ∃ (i m : Nat) (Oo : Option Addr) (oc : Nat) (vs : List Value) (Ko : Option Addr) (kc : Nat) (ks : List Value), s5 = .slice Oo m oc ∧ s6 = .slice Ko m kc ∧ s7 = .int .i64 i ∧ kx + i = n ∧ Hid (RG cn (keyOf rs cols) w wr (refGroups keyCmp (keyOf rs cols) i) Oo m oc vs Ko kc ks))
  case atStart => exact ⟨0, 0, none, 0, [], none, 0, [], rfl, rfl, rfl, rfl, Lib.hid (RG.zero _ _ _)⟩
  case round =>
    obtain ⟨i, m, Oo, oc, vs, Ko, kc, ks, rfl, rfl, rfl, hk, I⟩ := hrel
    have hi9 : (i : Int) < 1000001 := by omega
    by_cases hi : i < n
    · have hiz : (i : Int) < (n : Int) := by omega
      have hmi : m ≤ i := by
        have h1 := flat_len (HI.out i).ne
        rw [(HI.out i).length totK, I.out.len.1] at h1
        exact h1
      obtain ⟨r, hr⟩ : ∃ r, rs[i]? = some r := ⟨_, List.getElem?_eq_getElem (by rw [HR.out.len]; exact hi)⟩
      obtain ⟨b, off, VA, vn, vc, rfl, hb, q0, q1, hv, hvn⟩ := (HR.out.below I.out.old).at_ i r hr
      have CC := Lib.hid (refCells26 wr r.1 VA vn vc r.2 hv (by omega) CA cn cc cols (HC.out.below I.out.old) hcn)
      have RR := Lib.hid (keyOf_at (cols := cols) hr)
      obtain ⟨ko, hko⟩ : ∃ ko, ko = gk := ⟨_, rfl⟩
      have HKO := Lib.hid hko
      clear hr hv hko
      unfold CellsPost at CC
      go_wp2_with fail
      refine CC.out.mono ?_
      rintro e w2 ⟨A', c', rfl, h1, h2⟩
      clear CC q0 q1
      have I2 := Lib.hid (I.out.below h2.out)
      have K2 := Lib.hid (show ValsIn w2 (fun b => w.heap.size ≤ b ∧ some b ≠ (Value.slice Oo m oc).ownBlock ∧ some b ≠ (Value.slice Ko m kc).ownBlock ∧ ∀ v ∈ vs, v.ownBlock ≠ some b) A' cn (keyOf rs cols i) by
        have hv := ValsIn.of_own h1.out (by simp [HC.out.len])
        rw [RR.out]
        refine hv.keep (fun _ _ _ => rfl) (fun b hb hl => ⟨Nat.le_trans I.out.old.size hb.1, fun e => by have := (I.out.out.lt b e.symm).2; omega, fun e => by have := (I.out.keys.lt b e.symm).2; omega, fun v hv e => ?_⟩) (Nat.le_refl _)
        obtain ⟨a, ha⟩ := List.getElem?_of_mem hv
        obtain ⟨g, hg⟩ : ∃ g, (refGroups keyCmp (keyOf rs cols) i)[a]? = some g := ⟨_, List.getElem?_eq_getElem (by have := (List.getElem?_eq_some_iff.1 ha).1; have := I.out.len; omega)⟩
        have := ((I.out.inn.row a v g ha hg).1.lt b e).2
        omega)
      clear h1 h2 I
      have hm9 : (m : Int) < 1000001 := by omega
      go_wp2_with fail
      go_loopg [9] m (fun kx s9 wr => ∃ a : Nat, s9 = .int .i64 a ∧ a ≤ m ∧ kx + a = m ∧ Hid (Below w2.heap.size w2 wr ∧ ∀ x g, x < a → (refGroups keyCmp (keyOf rs cols) i)[x]? = some g → keyCmp (keyOf rs cols (g.headD 0)) (keyOf rs cols i) < 0))
      case atStart => exact ⟨0, rfl, Nat.zero_le _, rfl, Lib.hid ⟨Below.refl _ _, fun x g h => absurd h (Nat.not_lt_zero _)⟩⟩
      case round =>
        obtain ⟨t, rfl, htm, hkt, J⟩ := hrel
        have ht9 : (t : Int) < 1000001 := by omega
        -- what the comparison says at t, wherever
        have CM : Hid (∀ W, Below wr.heap.size wr W → t < m → ∃ gk Ak ck g, Ko = some ⟨gk, 0, none⟩ ∧ gk < W.heap.size ∧ W.cell? ⟨gk, t, none⟩ = some (.slice Ak cn ck) ∧ (refGroups keyCmp (keyOf rs cols) i)[t]? = some g ∧ Calls Try.prog 27 #[.slice Ak cn ck, .slice A' cn c'] W fun e w' => e = .returned (.int .i64 (keyCmp (keyOf rs cols (g.headD 0)) (keyOf rs cols i))) ∧ Hid (Below W.heap.size W w')) := Lib.hid (fun W hW h => by
          have hb := bt hW J.out.1
          have hI := I2.out.below hb
          obtain ⟨lg, lv, lk⟩ := hI.len
          obtain ⟨u, hu⟩ : ∃ u, ks[t]? = some u := ⟨_, List.getElem?_eq_getElem (by omega)⟩
          obtain ⟨g, hg⟩ : ∃ g, (refGroups keyCmp (keyOf rs cols) i)[t]? = some g := ⟨_, List.getElem?_eq_getElem (by omega)⟩
          obtain ⟨Ak, ck, rfl, hvk⟩ := hI.kin t u g hu hg
          obtain ⟨gk, e, hl, -, hcell, -⟩ := own_at hI.keys hu
          exact ⟨gk, Ak, ck, g, e, hl, hcell, hg, refCompare27 W Ak cn ck A' cn c' _ _ hvk.is ((K2.out.keep (S' := fun _ => True) (fun b _ hl => hb.block b hl) (fun _ _ _ => trivial) hb.size).is) hcn hcn⟩)
        by_cases htl : t < m
        · have htz : (t : Int) < (m : Int) := by omega
          obtain ⟨gq, Ak, ck, g, rfl, hgl, hcell, hgt, hcall⟩ := CM.out wr (Below.refl _ _) htl
          obtain ⟨rr, hrr⟩ : ∃ rr, rr = keyCmp (keyOf rs cols (g.headD 0)) (keyOf rs cols i) := ⟨_, rfl⟩
          rw [← hrr] at hcall
          have CC := Lib.hid hcall
          have HGT := Lib.hid (And.intro hgt hrr)
          clear hcall hgt hrr
          by_cases hlt : rr < 0
          · have hcd : decide (rr < 0) = true := decide_eq_true hlt
            go_wp2_with fail
            refine CC.out.mono ?_
            rintro e w3 ⟨rfl, h3⟩
            have NX := Lib.hid (show Below w2.heap.size w2 w3 ∧ ∀ x g, x < t + 1 → (refGroups keyCmp (keyOf rs cols) i)[x]? = some g → keyCmp (keyOf rs cols (g.headD 0)) (keyOf rs cols i) < 0 from ⟨bt h3.out J.out.1, fun x g' hx hg' => by
              by_cases c : x = t
              · have hg2 : (refGroups keyCmp (keyOf rs cols) i)[t]? = some g' := by rw [← c]; exact hg'
                have hgg : g = g' := Option.some.inj (HGT.out.1.symm.trans hg2)
                rw [← hgg, ← HGT.out.2]; exact hlt
              · exact J.out.2 x g' (by omega) hg'⟩)
            clear h3 CC hcell
            go_wp2_with fail
            go_roundg (gk - 1)
            case measure => omega
            case rel => exact ⟨t + 1, by first | rfl | (simp; done), by omega, by omega, NX⟩
          · have hcd : decide (rr < 0) = false := decide_eq_false hlt
            by_cases hz : rr = 0
            · subst hz
              go_wp2_with fail
              refine CC.out.mono ?_
              rintro e w3 ⟨rfl, h3⟩
              have b3 := h3.out
              obtain ⟨gq', Ak', ck', g', e', hgl3, hcell3, hgt3, hcall3⟩ := CM.out w3 b3 htl
              obtain rfl : gq = gq' := by injection e' with e'; injection e'
              obtain rfl : g = g' := Option.some.inj (HGT.out.1.symm.trans hgt3)
              rw [← HGT.out.2] at hcall3
              have CC3 := Lib.hid hcall3
              have B3 := Lib.hid (bt b3 J.out.1)
              clear CC hcell hcall3 hgt3 e' h3 b3
              go_wp2_with fail
              refine CC3.out.mono ?_
              rintro e w4 ⟨rfl, h4⟩
              have B4 := Lib.hid (bt h4.out B3.out)
              have hI := I2.out.below B4.out
              obtain ⟨lg, lv, lk⟩ := hI.len
              obtain ⟨u, hu⟩ : ∃ u, vs[t]? = some u := ⟨_, List.getElem?_eq_getElem (by omega)⟩
              obtain ⟨Au, nu, cu, rfl⟩ := hI.inn.slices u (List.mem_of_getElem? hu)
              obtain ⟨g8, e8, hg8, -, c8, -⟩ := own_at hI.out hu
              subst e8
              have hnu := (own_cap (hI.inn.row t _ g hu HGT.out.1).1).1
              have hgl' : g.length ≤ i := by
                have h1 := mem_len (List.mem_of_getElem? HGT.out.1)
                rw [(HI.out i).length totK] at h1
                exact h1
              have bz : Below w4.heap.size w4 (w4.alloc (.cells #[.int .i64 i] 3)) := below_alloc w4 _
              obtain ⟨An, cn', w5, hrun, hc5, hf5, hR5⟩ := (hI.below bz).add hu HGT.out.1 ((HI.out i).ne g (List.mem_of_getElem? HGT.out.1)) (by omega) i w4.heap.size (Blk.new w4 3 _)
              have hg9 : g8 < w4.heap.size + 1 := by omega
              have HRUN := Lib.hid hrun
              have NX := Lib.hid (show RG cn (keyOf rs cols) w (w5.setCell ⟨g8, t, none⟩ (.slice An (nu + 1) cn')) (refGroups keyCmp (keyOf rs cols) (i + 1)) (some ⟨g8, 0, none⟩) m oc (vs.set t (.slice An (nu + 1) cn')) _ kc ks by
                rw [refGroups, refStep_same (t := t) J.out.2 HGT.out.1 HGT.out.2.symm]
                exact hR5)
              clear hrun hR5 hI hu hnu bz h4 lg lv lk CM J CC3 hcell3
              go_wp2_with (at_builtin; refine wpList_append_runI _ rfl _ _ 45 45 rfl (.slice Au nu cu) (.slice (some ⟨w4.heap.size, 0, none⟩) 1 1) rfl rfl HRUN.out ?_)
              go_roundg (ko - 1)
              case measure => have := HKO.out; omega
              case rel => exact ⟨i + 1, m, _, oc, _, _, kc, ks, rfl, rfl, by first | rfl | (simp; done), by have := HKO.out; omega, NX⟩
            · go_wp2_with fail
              refine CC.out.mono ?_
              rintro e w3 ⟨rfl, h3⟩
              have b3 := h3.out
              obtain ⟨gq', Ak', ck', g', e', hgl3, hcell3, hgt3, hcall3⟩ := CM.out w3 b3 htl
              obtain rfl : gq = gq' := by injection e' with e'; injection e'
              obtain rfl : g = g' := Option.some.inj (HGT.out.1.symm.trans hgt3)
              rw [← HGT.out.2] at hcall3
              have CC3 := Lib.hid hcall3
              have B3 := Lib.hid (bt b3 J.out.1)
              clear CC hcell hcall3 hgt3 e' h3 b3
              have hz1 : (rr == 0) = false := by simpa using hz
              have hz2 : decide (rr = 0) = false := by simpa using hz
              go_wp2_with fail
              refine CC3.out.mono ?_
              rintro e w4 ⟨rfl, h4⟩
              have B4 := Lib.hid (bt h4.out B3.out)
              have hI := I2.out.below B4.out
              have hK4 := K2.out.keep (fun b _ hl => B4.out.block b hl) (fun b hb _ => hb) B4.out.size
              have NEW := Lib.hid (refStep_new (cmp := keyCmp) (key := keyOf rs cols) (i := i) (out := refGroups keyCmp (keyOf rs cols) i) (t := t) (by have := hI.len.1; omega) J.out.2 (fun g2 hg2 => by
                have hgg : g = g2 := Option.some.inj (HGT.out.1.symm.trans hg2)
                rw [← hgg, ← HGT.out.2]; omega))
              obtain ⟨lg, lv, lk⟩ := hI.len
              obtain ⟨u, hu⟩ : ∃ u, vs[t]? = some u := ⟨_, List.getElem?_eq_getElem (by omega)⟩
              obtain ⟨go, eo, hgo, -, -, -⟩ := own_at hI.out hu
              subst eo
              have hoc := (own_cap hI.out).2
              have hkc := (own_cap hI.keys).2
              obtain ⟨d, rfl⟩ : ∃ d, oc = t + d + 1 := ⟨oc - t - 1, by omega⟩
              obtain ⟨d', rfl⟩ : ∃ d', kc = t + d' + 1 := ⟨kc - t - 1, by omega⟩
              clear hu h4 CM J CC3 hcell3 lg lv lk
              obtain ⟨⟨A1, A2, A3, A4, A5, A6, c1, c2, c3, c4, c5, c6, W1, W2, W3, W4, W5, W6, r1, r2, r3, r4, r5, r6, rg⟩⟩ := hI.new (t := t) htm (by omega) i hK4 (some ⟨go, t, none⟩) (t + d + 1 - t) (some ⟨gq, t, none⟩) (t + d' + 1 - t) (fun x u hx => by
                obtain ⟨a, e, hc⟩ := src_drop hI.out t x u hx
                injection e with e
                subst e
                exact ⟨_, rfl, (hI.out.lt go rfl).2, hc⟩) (fun x u hx => by
                obtain ⟨a, e, hc⟩ := src_drop hI.keys t x u hx
                injection e with e
                subst e
                exact ⟨_, rfl, (hI.keys.lt gq rfl).2, hc⟩)
              have R1 := Lib.hid r1
              have R2 := Lib.hid r2
              have R3 := Lib.hid r3
              have R4 := Lib.hid r4
              have R5 := Lib.hid r5
              have R6 := Lib.hid r6
              have NX := Lib.hid (show RG cn (keyOf rs cols) w W6 (refGroups keyCmp (keyOf rs cols) (i + 1)) A5 (m + 1) c5 _ A6 c6 _ by
                rw [refGroups, NEW.out]
                exact rg)
              clear r1 r2 r3 r4 r5 r6 rg
              go_wp2_with (at_builtin; first | (refine wpList_append_runI _ rfl _ _ 46 46 rfl (.slice none 0 0) (.slice (some ⟨go, 0, none⟩) t (t + d + 1)) rfl rfl R1.out ?_) | (refine wpList_append_runI _ rfl _ _ 46 46 rfl (.slice A1 t c1) (.slice (some ⟨W1.heap.size + 1, 0, none⟩) 1 1) rfl rfl R2.out ?_) | (refine wpList_append_runI _ rfl _ _ 57 57 rfl (.slice none 0 0) (.slice (some ⟨gq, 0, none⟩) t (t + d' + 1)) rfl rfl R3.out ?_) | (refine wpList_append_runI _ rfl _ _ 57 57 rfl (.slice A3 t c3) (.slice (some ⟨W3.heap.size, 0, none⟩) 1 1) rfl rfl R4.out ?_) | (refine wpList_append_runI _ rfl _ _ 46 46 rfl (.slice A2 (t + 1) c2) (.slice (some ⟨go, t, none⟩) (m - t) (t + d + 1 - t)) rfl rfl R5.out ?_) | (refine wpList_append_runI _ rfl _ _ 57 57 rfl (.slice A4 (t + 1) c4) (.slice (some ⟨gq, t, none⟩) (m - t) (t + d' + 1 - t)) rfl rfl R6.out ?_))
              go_roundg (ko - 1)
              case measure => have := HKO.out; omega
              case rel => exact ⟨i + 1, m + 1, A5, c5, _, A6, c6, _, rfl, rfl, by first | rfl | (simp; done), by have := HKO.out; omega, NX⟩
        · obtain rfl : t = m := by omega
          rename World => wz
          have htz : ¬ (t : Int) < (t : Int) := by omega
          have htd : decide ((t : Int) < (t : Int)) = false := decide_eq_false htz
          have hI := I2.out.below J.out.1
          have hK4 := K2.out.keep (fun b _ hl => J.out.1.block b hl) (fun b hb _ => hb) J.out.1.size
          obtain ⟨lg, lv, lk⟩ := hI.len
          have NEW := Lib.hid (refStep_new (cmp := keyCmp) (key := keyOf rs cols) (i := i) (out := refGroups keyCmp (keyOf rs cols) i) (t := t) (by omega) J.out.2 (fun g2 hg2 => by
            have := (List.getElem?_eq_some_iff.1 hg2).1
            omega))
          have htm := Nat.le_refl t
          clear CM J
          rcases Nat.eq_zero_or_pos t with h0 | h0
          · obtain ⟨rfl, rfl, rfl, rfl⟩ := hI.start h0
            subst h0
            obtain ⟨⟨A1, A2, A3, A4, A5, A6, c1, c2, c3, c4, c5, c6, W1, W2, W3, W4, W5, W6, r1, r2, r3, r4, r5, r6, rg⟩⟩ := hI.new (t := 0) htm (by omega) i hK4 none 0 none 0 (fun x u hx => by
              rw [List.drop_eq_nil_of_le (by omega)] at hx
              simp at hx) (fun x u hx => by
              rw [List.drop_eq_nil_of_le (by omega)] at hx
              simp at hx)
            have R1 := Lib.hid r1
            have R2 := Lib.hid r2
            have R3 := Lib.hid r3
            have R4 := Lib.hid r4
            have R5 := Lib.hid r5
            have R6 := Lib.hid r6
            have NX := Lib.hid (show RG cn (keyOf rs cols) w W6 (refGroups keyCmp (keyOf rs cols) (i + 1)) A5 (0 + 1) c5 _ A6 c6 _ by
              rw [refGroups, NEW.out]
              exact rg)
            clear r1 r2 r3 r4 r5 r6 rg
            go_wp2_with (at_builtin; first | (refine wpList_append_runI _ rfl _ _ 46 46 rfl (.slice none 0 0) (.slice none 0 0) rfl rfl R1.out ?_) | (refine wpList_append_runI _ rfl _ _ 46 46 rfl (.slice A1 0 c1) (.slice (some ⟨W1.heap.size + 1, 0, none⟩) 1 1) rfl rfl R2.out ?_) | (refine wpList_append_runI _ rfl _ _ 57 57 rfl (.slice none 0 0) (.slice none 0 0) rfl rfl R3.out ?_) | (refine wpList_append_runI _ rfl _ _ 57 57 rfl (.slice A3 0 c3) (.slice (some ⟨W3.heap.size, 0, none⟩) 1 1) rfl rfl R4.out ?_) | (refine wpList_append_runI _ rfl _ _ 46 46 rfl (.slice A2 (0 + 1) c2) (.slice none (0 - 0) 0) rfl rfl R5.out ?_) | (refine wpList_append_runI _ rfl _ _ 57 57 rfl (.slice A4 (0 + 1) c4) (.slice none (0 - 0) 0) rfl rfl R6.out ?_))
            go_roundg (ko - 1)
            case measure => have := HKO.out; omega
            case rel => exact ⟨i + 1, 0 + 1, A5, c5, _, A6, c6, _, rfl, rfl, by first | rfl | (simp; done), by have := HKO.out; omega, NX⟩
          · obtain ⟨u, hu⟩ : ∃ u, vs[0]? = some u := ⟨_, List.getElem?_eq_getElem (by omega)⟩
            obtain ⟨go, eo, hgo, -, -, -⟩ := own_at hI.out hu
            subst eo
            obtain ⟨u2, hu2⟩ : ∃ u, ks[0]? = some u := ⟨_, List.getElem?_eq_getElem (by omega)⟩
            obtain ⟨gq, eq, hgq, -, -, -⟩ := own_at hI.keys hu2
            subst eq
            have hoc := (own_cap hI.out).2
            have hkc := (own_cap hI.keys).2
            clear hu hu2
            rcases Nat.eq_or_lt_of_le hoc with c1 | c1
            · subst c1
              rcases Nat.eq_or_lt_of_le hkc with c2 | c2
              · subst c2
                obtain ⟨⟨A1, A2, A3, A4, A5, A6, c1, c2, c3, c4, c5, c6, W1, W2, W3, W4, W5, W6, r1, r2, r3, r4, r5, r6, rg⟩⟩ := hI.new (t := t) htm (by omega) i hK4 (some ⟨go, 0, none⟩) 0 (some ⟨gq, 0, none⟩) 0 (fun x u hx => by
                  rw [List.drop_eq_nil_of_le (by omega)] at hx
                  simp at hx) (fun x u hx => by
                  rw [List.drop_eq_nil_of_le (by omega)] at hx
                  simp at hx)
                rw [Nat.sub_self] at r5 r6
                have R1 := Lib.hid r1
                have R2 := Lib.hid r2
                have R3 := Lib.hid r3
                have R4 := Lib.hid r4
                have R5 := Lib.hid r5
                have R6 := Lib.hid r6
                have NX := Lib.hid (show RG cn (keyOf rs cols) w W6 (refGroups keyCmp (keyOf rs cols) (i + 1)) A5 (t + 1) c5 _ A6 c6 _ by
                  rw [refGroups, NEW.out]
                  exact rg)
                clear r1 r2 r3 r4 r5 r6 rg
                go_wp2_with (at_builtin; first | (refine wpList_append_runI _ rfl _ _ 46 46 rfl (.slice none 0 0) (.slice (some ⟨go, 0, none⟩) t t) rfl rfl R1.out ?_) | (refine wpList_append_runI _ rfl _ _ 46 46 rfl (.slice A1 t c1) (.slice (some ⟨W1.heap.size + 1, 0, none⟩) 1 1) rfl rfl R2.out ?_) | (refine wpList_append_runI _ rfl _ _ 57 57 rfl (.slice none 0 0) (.slice (some ⟨gq, 0, none⟩) t t) rfl rfl R3.out ?_) | (refine wpList_append_runI _ rfl _ _ 57 57 rfl (.slice A3 t c3) (.slice (some ⟨W3.heap.size, 0, none⟩) 1 1) rfl rfl R4.out ?_) | (refine wpList_append_runI _ rfl _ _ 46 46 rfl (.slice A2 (t + 1) c2) (.slice (some ⟨go, 0, none⟩) 0 0) rfl rfl R5.out ?_) | (refine wpList_append_runI _ rfl _ _ 57 57 rfl (.slice A4 (t + 1) c4) (.slice (some ⟨gq, 0, none⟩) 0 0) rfl rfl R6.out ?_))
                go_roundg (ko - 1)
                case measure => have := HKO.out; omega
                case rel => exact ⟨i + 1, t + 1, A5, c5, _, A6, c6, _, rfl, rfl, by first | rfl | (simp; done), by have := HKO.out; omega, NX⟩
              · obtain ⟨d', rfl⟩ : ∃ d', kc = t + d' + 1 := ⟨kc - t - 1, by omega⟩
                obtain ⟨⟨A1, A2, A3, A4, A5, A6, c1, c2, c3, c4, c5, c6, W1, W2, W3, W4, W5, W6, r1, r2, r3, r4, r5, r6, rg⟩⟩ := hI.new (t := t) htm (by omega) i hK4 (some ⟨go, 0, none⟩) 0 (some ⟨gq, t, none⟩) (t + d' + 1 - t) (fun x u hx => by
                  rw [List.drop_eq_nil_of_le (by omega)] at hx
                  simp at hx) (fun x u hx => by
                  rw [List.drop_eq_nil_of_le (by omega)] at hx
                  simp at hx)
                rw [Nat.sub_self] at r5 r6
                have R1 := Lib.hid r1
                have R2 := Lib.hid r2
                have R3 := Lib.hid r3
                have R4 := Lib.hid r4
                have R5 := Lib.hid r5
                have R6 := Lib.hid r6
                have NX := Lib.hid (show RG cn (keyOf rs cols) w W6 (refGroups keyCmp (keyOf rs cols) (i + 1)) A5 (t + 1) c5 _ A6 c6 _ by
                  rw [refGroups, NEW.out]
                  exact rg)
                clear r1 r2 r3 r4 r5 r6 rg
                go_wp2_with (at_builtin; first | (refine wpList_append_runI _ rfl _ _ 46 46 rfl (.slice none 0 0) (.slice (some ⟨go, 0, none⟩) t t) rfl rfl R1.out ?_) | (refine wpList_append_runI _ rfl _ _ 46 46 rfl (.slice A1 t c1) (.slice (some ⟨W1.heap.size + 1, 0, none⟩) 1 1) rfl rfl R2.out ?_) | (refine wpList_append_runI _ rfl _ _ 57 57 rfl (.slice none 0 0) (.slice (some ⟨gq, 0, none⟩) t (t + d' + 1)) rfl rfl R3.out ?_) | (refine wpList_append_runI _ rfl _ _ 57 57 rfl (.slice A3 t c3) (.slice (some ⟨W3.heap.size, 0, none⟩) 1 1) rfl rfl R4.out ?_) | (refine wpList_append_runI _ rfl _ _ 46 46 rfl (.slice A2 (t + 1) c2) (.slice (some ⟨go, 0, none⟩) 0 0) rfl rfl R5.out ?_) | (refine wpList_append_runI _ rfl _ _ 57 57 rfl (.slice A4 (t + 1) c4) (.slice (some ⟨gq, t, none⟩) 0 (t + d' + 1 - t)) rfl rfl R6.out ?_))
                go_roundg (ko - 1)
                case measure => have := HKO.out; omega
                case rel => exact ⟨i + 1, t + 1, A5, c5, _, A6, c6, _, rfl, rfl, by first | rfl | (simp; done), by have := HKO.out; omega, NX⟩
            · obtain ⟨d, rfl⟩ : ∃ d, oc = t + d + 1 := ⟨oc - t - 1, by omega⟩
              rcases Nat.eq_or_lt_of_le hkc with c2 | c2
              · subst c2
                obtain ⟨⟨A1, A2, A3, A4, A5, A6, c1, c2, c3, c4, c5, c6, W1, W2, W3, W4, W5, W6, r1, r2, r3, r4, r5, r6, rg⟩⟩ := hI.new (t := t) htm (by omega) i hK4 (some ⟨go, t, none⟩) (t + d + 1 - t) (some ⟨gq, 0, none⟩) 0 (fun x u hx => by
                  rw [List.drop_eq_nil_of_le (by omega)] at hx
                  simp at hx) (fun x u hx => by
                  rw [List.drop_eq_nil_of_le (by omega)] at hx
                  simp at hx)
                rw [Nat.sub_self] at r5 r6
                have R1 := Lib.hid r1
                have R2 := Lib.hid r2
                have R3 := Lib.hid r3
                have R4 := Lib.hid r4
                have R5 := Lib.hid r5
                have R6 := Lib.hid r6
                have NX := Lib.hid (show RG cn (keyOf rs cols) w W6 (refGroups keyCmp (keyOf rs cols) (i + 1)) A5 (t + 1) c5 _ A6 c6 _ by
                  rw [refGroups, NEW.out]
                  exact rg)
                clear r1 r2 r3 r4 r5 r6 rg
                go_wp2_with (at_builtin; first | (refine wpList_append_runI _ rfl _ _ 46 46 rfl (.slice none 0 0) (.slice (some ⟨go, 0, none⟩) t (t + d + 1)) rfl rfl R1.out ?_) | (refine wpList_append_runI _ rfl _ _ 46 46 rfl (.slice A1 t c1) (.slice (some ⟨W1.heap.size + 1, 0, none⟩) 1 1) rfl rfl R2.out ?_) | (refine wpList_append_runI _ rfl _ _ 57 57 rfl (.slice none 0 0) (.slice (some ⟨gq, 0, none⟩) t t) rfl rfl R3.out ?_) | (refine wpList_append_runI _ rfl _ _ 57 57 rfl (.slice A3 t c3) (.slice (some ⟨W3.heap.size, 0, none⟩) 1 1) rfl rfl R4.out ?_) | (refine wpList_append_runI _ rfl _ _ 46 46 rfl (.slice A2 (t + 1) c2) (.slice (some ⟨go, t, none⟩) 0 (t + d + 1 - t)) rfl rfl R5.out ?_) | (refine wpList_append_runI _ rfl _ _ 57 57 rfl (.slice A4 (t + 1) c4) (.slice (some ⟨gq, 0, none⟩) 0 0) rfl rfl R6.out ?_))
                go_roundg (ko - 1)
                case measure => have := HKO.out; omega
                case rel => exact ⟨i + 1, t + 1, A5, c5, _, A6, c6, _, rfl, rfl, by first | rfl | (simp; done), by have := HKO.out; omega, NX⟩
              · obtain ⟨d', rfl⟩ : ∃ d', kc = t + d' + 1 := ⟨kc - t - 1, by omega⟩
                obtain ⟨⟨A1, A2, A3, A4, A5, A6, c1, c2, c3, c4, c5, c6, W1, W2, W3, W4, W5, W6, r1, r2, r3, r4, r5, r6, rg⟩⟩ := hI.new (t := t) htm (by omega) i hK4 (some ⟨go, t, none⟩) (t + d + 1 - t) (some ⟨gq, t, none⟩) (t + d' + 1 - t) (fun x u hx => by
                  rw [List.drop_eq_nil_of_le (by omega)] at hx
                  simp at hx) (fun x u hx => by
                  rw [List.drop_eq_nil_of_le (by omega)] at hx
                  simp at hx)
                rw [Nat.sub_self] at r5 r6
                have R1 := Lib.hid r1
                have R2 := Lib.hid r2
                have R3 := Lib.hid r3
                have R4 := Lib.hid r4
                have R5 := Lib.hid r5
                have R6 := Lib.hid r6
                have NX := Lib.hid (show RG cn (keyOf rs cols) w W6 (refGroups keyCmp (keyOf rs cols) (i + 1)) A5 (t + 1) c5 _ A6 c6 _ by
                  rw [refGroups, NEW.out]
                  exact rg)
                clear r1 r2 r3 r4 r5 r6 rg
                go_wp2_with (at_builtin; first | (refine wpList_append_runI _ rfl _ _ 46 46 rfl (.slice none 0 0) (.slice (some ⟨go, 0, none⟩) t (t + d + 1)) rfl rfl R1.out ?_) | (refine wpList_append_runI _ rfl _ _ 46 46 rfl (.slice A1 t c1) (.slice (some ⟨W1.heap.size + 1, 0, none⟩) 1 1) rfl rfl R2.out ?_) | (refine wpList_append_runI _ rfl _ _ 57 57 rfl (.slice none 0 0) (.slice (some ⟨gq, 0, none⟩) t (t + d' + 1)) rfl rfl R3.out ?_) | (refine wpList_append_runI _ rfl _ _ 57 57 rfl (.slice A3 t c3) (.slice (some ⟨W3.heap.size, 0, none⟩) 1 1) rfl rfl R4.out ?_) | (refine wpList_append_runI _ rfl _ _ 46 46 rfl (.slice A2 (t + 1) c2) (.slice (some ⟨go, t, none⟩) 0 (t + d + 1 - t)) rfl rfl R5.out ?_) | (refine wpList_append_runI _ rfl _ _ 57 57 rfl (.slice A4 (t + 1) c4) (.slice (some ⟨gq, t, none⟩) 0 (t + d' + 1 - t)) rfl rfl R6.out ?_))
                go_roundg (ko - 1)
                case measure => have := HKO.out; omega
                case rel => exact ⟨i + 1, t + 1, A5, c5, _, A6, c6, _, rfl, rfl, by first | rfl | (simp; done), by have := HKO.out; omega, NX⟩
    · obtain rfl : i = n := by omega
      have hiz : ¬ (i : Int) < (i : Int) := by omega
      have EE := Lib.hid I.out.mat
      have BB := Lib.hid I.out.old
      clear I
      go_wp2_with fail
      go_ret
      exact ⟨Oo, m, oc, vs, rfl, EE, BB⟩

end Go.Proofs.Ytbcmmecilheicaa
