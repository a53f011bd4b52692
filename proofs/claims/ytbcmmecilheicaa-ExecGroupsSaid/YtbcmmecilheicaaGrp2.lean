/- exec.Groups: the walk: it leaves the document's groups. -/
import Derived.Test.YtbcmmecilheicaaGrp1
import Derived.Test.YtbcmmecilheicaaGiveA
namespace Go.Proofs.Ytbcmmecilheicaa
open Go Go.RowKit

/-- the document's groups, in lists of one's own -/
def GroupsPost (rs : List (Int × List Val)) (cols : List Int) (n : Nat) (w : World) (e : Ending) (w' : World) : Prop :=
  ∃ (A' : Option Addr) (m c' : Nat) (vs : List Value), e = .returned (.slice A' m c') ∧ Hid (Mat w' w.heap.size A' m c' vs (refGroups keyCmp (keyOf rs cols) n)) ∧ Hid (Below w.heap.size w w')
theorem Mat.base {W : World} {B B' : Nat} {A : Option Addr} {n c : Nat} {vs : List Value} {gs : List (List Nat)} (h : Mat W B A n c vs gs) (hb : B' ≤ B) : Mat W B' A n c vs gs :=
  ⟨own_base h.outer (fun g hg => Nat.le_trans hb (h.outer.lt g hg).1), h.inn.len, fun a u g hu hg => by
    obtain ⟨h1, h2⟩ := h.inn.row a u g hu hg
    exact ⟨own_base h1 (fun k hk => Nat.le_trans hb (h1.lt k hk).1), fun k hk => ⟨Nat.le_trans hb (h2 k hk).1, (h2 k hk).2⟩⟩, h.inn.apart⟩
theorem set_last {α : Type} (l : List α) (x y : α) : (l ++ [x]).set l.length y = l ++ [y] := by
  rw [List.set_append_right _ _ (Nat.le_refl _), Nat.sub_self]; rfl

/-- an empty group more -/
theorem push_step {wq ws : World} {B : Nat} {A : Option Addr} {m c : Nat} {vs : List Value} {gs : List (List Nat)} (h : Mat wq B A m c vs gs) (hm : m + 1 ≤ 1000001) (hs : Below ws.heap.size ws wq) (hsB : ws.heap.size = B) :
    ∃ An cn w4, (Builtin.append_ #[46, 46] 46 #[.slice A m c, .slice (some ⟨wq.heap.size, 0, none⟩) 1 1]).run Try.prog (wq.alloc (.cells #[.slice none 0 0] 45)) = .ok (.slice An (m + 1) cn) w4 ∧ Mat w4 B An (m + 1) cn (vs ++ [.slice none 0 0]) (gs ++ [[]]) ∧ Below ws.heap.size ws w4 ∧
      ∀ k, k < wq.heap.size → some k ≠ (Value.slice A m c).ownBlock → w4.heap[k]? = wq.heap[k]? := by
  obtain ⟨An, cn, w4, hrun, hM4, hg4⟩ := (h.below (below_alloc wq (.cells #[.slice none 0 0] 45))).push (by have := hs.size; simp; omega) hm wq.heap.size (Blk.new wq 45 _)
  refine ⟨An, cn, w4, hrun, hM4, ?_, fun k hk hne => ?_⟩
  · have h1 := bt (below_alloc wq (.cells #[.slice none 0 0] 45)) hs
    refine ⟨hg4.os.trans h1.os, hg4.tape.trans h1.tape, hg4.output.trans h1.output, Nat.le_trans h1.size hg4.size, fun k hk => ?_⟩
    rw [hg4.block k (Nat.lt_of_lt_of_le hk h1.size) (fun e => by have := (h.outer.lt k e.symm).1; omega), h1.block k hk]
  · rw [hg4.block k (by simp; omega) hne]
    exact Below.heap_alloc wq _ k hk

set_option maxRecDepth 100000 in
set_option maxHeartbeats 16000000 in
theorem groups11 (w : World) (A : Option Addr) (n c0 : Nat) (rs : List (Int × List Val)) (hr : RowsAt w A n rs) (hn : n ≤ 1000000) (CA : Option Addr) (cn cc : Nat) (cols : List Int) (hc : IntsAt w CA cn cols) (hcn : cn ≤ 1000000) :
    Calls Try.prog 11 #[.slice A n c0, .slice CA cn cc] w (GroupsPost rs cols n w) := by
  have HR := Lib.hid hr
  have HC := Lib.hid hc
  have hL0 := ginv_ref (key := keyOf rs cols) totK n
  obtain ⟨L, hLe⟩ : ∃ L, L = (refGroups keyCmp (keyOf rs cols) n).flatten := ⟨_, rfl⟩
  have HL := Lib.hid (show Ranks keyCmp (keyOf rs cols) n L by rw [hLe]; exact hL0.ranks totK)
  have HG := Lib.hid (show grpF keyCmp (keyOf rs cols) L = refGroups keyCmp (keyOf rs cols) n by rw [hLe]; exact hL0.grp totK)
  clear hr hc hL0 hLe
  go_enter Try.func11, Try.ntmps11
  go_wp2_with fail
  go_loopg [5, 13] n (fun kx s5 s13 wr => ∃ (i : Nat) (Ao : Option Addr) (co : Nat), s5 = .slice Ao i co ∧ s13 = .int .i64 i ∧ kx + i = n ∧ Hid (∃ gs, GrI rs cols cn w wr i Ao co gs))
  case atStart => exact ⟨0, none, 0, rfl, rfl, rfl, Lib.hid ⟨[], GrI.zero rs cols cn w⟩⟩
  case round =>
    obtain ⟨i, Ao, co, rfl, rfl, hk, I⟩ := hrel
    by_cases hi : i < n
    · have hiz : (i : Int) < (n : Int) := by omega
      have hi9 : (i : Int) < 1000001 := by omega
      obtain ⟨gs, hI⟩ := I.out
      obtain ⟨r, hr⟩ : ∃ r, rs[i]? = some r := ⟨_, List.getElem?_eq_getElem (by rw [HR.out.len]; exact hi)⟩
      obtain ⟨b, off, VA, vn, vc, rfl, hb, q0, q1, hv, hvn⟩ := (HR.out.below hI.old).at_ i r hr
      have bx : Below wr.heap.size wr (wr.alloc (.cells #[.int .i64 r.1, .slice VA vn vc] 29)) := below_alloc _ _
      have CC := Lib.hid (cells21 (wr.alloc (.cells #[.int .i64 r.1, .slice VA vn vc] 29)) r.1 VA vn vc r.2 (hv.below bx) (by omega) CA cn cc cols ((HC.out.below hI.old).below bx) hcn)
      have II := Lib.hid hI
      have RR := Lib.hid hr
      clear hI hr hv bx I
      unfold CellsPost at CC
      go_wp2_with fail
      refine CC.out.mono ?_
      rintro e w2 ⟨A', c', rfl, h1, h2⟩
      have B2 := h2.out.from1
      obtain ⟨An, cn', w3, hrun, hI3⟩ := II.out.step (by omega) RR.out (HC.out.len) B2 (own_base h1.out (fun g hg => by have := (h1.out.lt g hg).1; simp at this; omega))
      have HRUN := Lib.hid hrun
      have NX := Lib.hid (show ∃ gs, GrI rs cols cn w w3 (i + 1) An cn' gs from ⟨_, hI3⟩)
      clear hrun hI3 h1 h2 B2 CC
      go_wp2_with (at_builtin; refine wpList_append_runI _ rfl _ _ 67 67 rfl (.slice Ao i co) (.slice (some ⟨w2.heap.size, 0, none⟩) 1 1) rfl rfl HRUN.out ?_)
      go_roundg (gk - 1)
      case measure => omega
      case rel => exact ⟨i + 1, An, cn', rfl, by first | rfl | (simp; done), by omega, NX⟩
    · obtain rfl : i = n := by omega
      have hiz : ¬ (i : Int) < (i : Int) := by omega
      have SK := Lib.hid (show Calls Try.prog 22 #[.slice Ao i co, .func (.func 23) #[] #[]] wr fun e w' => e = .returned (.tuple #[]) ∧ Hid (GrS rs cols cn i L w w' Ao co) by
        obtain ⟨gs, hI⟩ := I.out
        exact sortKeyed hI hn hcn HL.out)
      clear I hk hi
      go_wp2_with fail
      refine SK.out.mono ?_
      rintro e ws ⟨rfl, hS⟩
      clear SK
      go_wp2_with fail
      go_loopg [8, 31] i (fun kx s8 s31 wr => ∃ (t m : Nat) (Bo : Option Addr) (do_ : Nat) (vs : List Value), s8 = .slice Bo m do_ ∧ s31 = .int .i64 t ∧ kx + t = i ∧ Hid (Below ws.heap.size ws wr ∧ Mat wr ws.heap.size Bo m do_ vs (grpF keyCmp (keyOf rs cols) (L.take t))))
      case atStart => exact ⟨0, 0, none, 0, [], rfl, rfl, rfl, Lib.hid ⟨Below.refl _ _, Mat.nil _ _⟩⟩
      case round =>
        obtain ⟨t, m, Bo, do_, vs, rfl, rfl, hkt, I⟩ := hrel
        have ht9 : (t : Int) < 1000001 := by omega
        by_cases ht : t < i
        · have htz : (t : Int) < (i : Int) := by omega
          obtain ⟨g, Ak, ck, rfl, hg, y0, y1, hvk⟩ := hS.out.row t ht
          have hg1 : g < wr.heap.size := Nat.lt_of_lt_of_le hg I.out.1.size
          have p0 := (I.out.1.cell (p := ⟨g, t * 2, none⟩) hg).trans y0
          have p1 := (I.out.1.cell (p := ⟨g, t * 2 + 1, none⟩) hg).trans y1
          have hmle : m ≤ t := by
            have h1 := I.out.2.len.1
            have h2 : (grpF keyCmp (keyOf rs cols) (L.take t)).length ≤ t := grpF_le _ _ _ (by rw [List.length_take]; exact Nat.min_le_left _ _)
            omega
          obtain ⟨j, hj⟩ : ∃ j, j = oR L t := ⟨_, rfl⟩
          rw [← hj] at p1
          have hLt : L[t]? = some j := by rw [hj]; exact oR_at (by rw [HL.out.len]; exact ht)
          have JJ := Lib.hid (And.intro hj hLt)
          clear hj hLt y0 y1
          go_upto_region 11 with fail
          go_cut [9, 10] from 33 to 35 (fun s9 s10 wx => s9 = .int .i64 t ∧ s10 = .pointer (some ⟨wr.heap.size, 0, none⟩) ∧ wx = wr.alloc (.cells #[.slice Ak cn ck, .int .i64 j] 70))
          case first =>
            go_wp2_with fail
            go_meet
            case rel => exact ⟨rfl, rfl, rfl⟩
          case rest =>
          obtain ⟨rfl, rfl, rfl⟩ := hcut
          obtain ⟨wa, hwa⟩ : ∃ x, x = wr.alloc (.cells #[.slice Ak cn ck, .int .i64 j] 70) := ⟨_, rfl⟩
          have ZA := Lib.hid (show Blk wa wr.heap.size 70 #[.slice Ak cn ck, .int .i64 j] by rw [hwa]; exact Blk.new wr 70 _)
          have BA := Lib.hid (show Below wr.heap.size wr wa by rw [hwa]; exact below_alloc _ _)
          have hsa : wa.heap.size = wr.heap.size + 1 := by rw [hwa]; simp
          have SA := Lib.hid hsa
          rw [← hwa]
          clear hwa p0 p1 hsa
          go_step
          go_step
          go_cut [8] from 36 to 52 (fun s8 wx => ∃ (m' : Nat) (Bo' : Option Addr) (do' : Nat) (vs' : List Value) (acc : List (List Nat)) (l : List Nat), s8 = .slice Bo' (m' + 1) do' ∧ m' ≤ t ∧ Hid (Blk wx wr.heap.size 70 #[.slice Ak cn ck, .int .i64 j] ∧ Below ws.heap.size ws wx ∧ Mat wx ws.heap.size Bo' (m' + 1) do' vs' (acc ++ [l]) ∧ acc.length = m' ∧ grpF keyCmp (keyOf rs cols) (L.take (t + 1)) = acc ++ [l ++ [j]] ∧ l.length ≤ t))
          case first =>
            have hb8 : wr.heap.size < wa.heap.size := ZA.out.lt
            have MA := Lib.hid (I.out.2.below BA.out)
            have BSA := Lib.hid (bt BA.out I.out.1)
            have hpush : ∀ acc, grpF keyCmp (keyOf rs cols) (L.take t) = acc → grpF keyCmp (keyOf rs cols) (L.take (t + 1)) = pushG keyCmp (keyOf rs cols) acc j := fun acc h => by
              rw [List.take_add_one, JJ.out.2]
              show grpF _ _ (L.take t ++ [j]) = _
              rw [grpF_snoc, h]
            have PU := Lib.hid hpush
            clear hpush
            rcases Nat.eq_zero_or_pos t with h0 | h0
            · subst h0
              have EQ := Lib.hid (show grpF keyCmp (keyOf rs cols) (L.take (0 + 1)) = grpF keyCmp (keyOf rs cols) (L.take 0) ++ [[] ++ [j]] by rw [PU.out _ rfl]; rfl)
              clear PU
              have hq : Below wa.heap.size wa wa.drew := below_drew wa
              obtain ⟨An, cn', w4, hrun, hM4, hBS4, hkp⟩ := push_step (MA.out.below hq) (by omega) (bt hq BSA.out) rfl
              have HRUN := Lib.hid hrun
              have NX := Lib.hid (show Blk w4 wr.heap.size 70 #[.slice Ak cn ck, .int .i64 j] ∧ Below ws.heap.size ws w4 ∧ Mat w4 ws.heap.size An (m + 1) cn' _ _ from
                ⟨(hkp _ (Nat.lt_of_lt_of_le ZA.out.lt hq.size) (fun e => by have := (I.out.2.outer.lt _ e.symm).2; omega)).trans (ZA.out.below hq), hBS4, hM4⟩)
              clear hrun hM4 hBS4 hkp I hq
              go_wp2_with fail
              go_region
              go_wp2_with (at_builtin; refine wpList_append_runI _ rfl _ _ 46 46 rfl (.slice Bo m do_) (.slice (some ⟨wa.heap.size, 0, none⟩) 1 1) rfl rfl HRUN.out ?_)
              go_meet
              case rel => exact ⟨m, An, cn', _, _, [], rfl, hmle, Lib.hid ⟨NX.out.1, NX.out.2.1, NX.out.2.2, MA.out.len.1, EQ.out, Nat.zero_le _⟩⟩
            · obtain ⟨q, rfl⟩ : ∃ q, t = q + 1 := ⟨t - 1, by omega⟩
              obtain ⟨g', Ap, cp, e1, hg', z0, z1, hvp⟩ := hS.out.row q (by omega)
              injection e1 with e1
              injection e1 with e1
              subst e1
              have x0 : ∀ p : BelowW wa, p.w.cell? ⟨wr.heap.size, 0, none⟩ = some (.slice Ak cn ck) := fun p => (ZA.out.below p.h).cell 0
              have l0 : ∀ p : BelowW wa, p.w.cell? ⟨g, q * 2, none⟩ = some (.slice Ap cn cp) := fun p => ((bt p.h BSA.out).cell (p := ⟨g, q * 2, none⟩) hg).trans z0
              have CC : Hid (∀ p : BelowW wa, Calls Try.prog 24 #[.slice Ap cn cp, .slice Ak cn ck] p.w fun e w' => e = .returned (.int .i64 (keyCmp (keyOf rs cols (oR L q)) (keyOf rs cols (oR L (q + 1))))) ∧ Hid (Below p.w.heap.size p.w w')) := Lib.hid (fun p => orderCompare24 p.w Ap cn cp Ak cn ck _ _ (hvp.below (bt p.h BSA.out)) (hvk.below (bt p.h BSA.out)) hcn hcn)
              rw [← JJ.out.1] at CC
              have hgn := grpF_next (cmp := keyCmp) (key := keyOf rs cols) JJ.out.2 (oR_at (L := L) (r := q) (by rw [HL.out.len]; omega))
              obtain ⟨D, gl, hD1, hD2, hD3, hD4⟩ := hgn
              obtain ⟨r, hr⟩ : ∃ r, r = keyCmp (keyOf rs cols (oR L q)) (keyOf rs cols j) := ⟨_, rfl⟩
              rw [← hr] at CC hD3 hD4
              have hmD : m = D.length + 1 := by have h := MA.out.len.1; rw [hD1] at h; simpa using h.symm
              have z2 : (q : Int) < (i : Int) := by omega
              have z6 : IntKind.i64.wrap (q : Int) = (q : Int) := by rw [IntKind.wrap_i64]; omega
              have z7 : ((q : Int) + 1 == 0) = false := by simp; omega
              have z8 : ¬ (q : Int) + 1 = 0 := by omega
              have z9 : decide ((q : Int) + 1 = 0) = false := by simp; omega
              by_cases h1 : r = 0
              · subst h1
                have EQ := Lib.hid (hD3 rfl)
                have MD := Lib.hid hD1
                have LD := Lib.hid hD2
                clear hr hD1 hD2 hD3 hD4 z0 z1 hvp hvk PU
                go_wp2_with fail
                refine wp_region_quiet_below (by kernel_rfl) (by kernel_rfl) ?_
                repeat (quiet_step ((go_at_call 24; refine calls_below _ (CC.out _))))
                refine wpQuiet_nil ?_
                intro wq hw'
                have hq : Below wa.heap.size wa wq := by obtain ⟨p, rfl⟩ := hw'; exact p.h
                clear hw' x0 l0
                go_wp2_with fail
                go_meet
                case rel =>
                  subst hmD
                  have hM := MA.out.below hq
                  rw [MD.out] at hM
                  exact ⟨D.length, Bo, do_, vs, D, gl, rfl, by omega, Lib.hid ⟨ZA.out.below hq, bt hq BSA.out, hM, rfl, EQ.out, LD.out⟩⟩
              · have h2 : (r != 0) = true := by simpa using h1
                have h3 : (r == 0) = false := by simpa using h1
                have EQ := Lib.hid (show grpF keyCmp (keyOf rs cols) (L.take (q + 1 + 1)) = grpF keyCmp (keyOf rs cols) (L.take (q + 1)) ++ [[] ++ [j]] by rw [hD4 h1, hD1])
                clear hr hD1 hD2 hD3 hD4 z0 z1 hvp hvk hmD PU
                go_wp2_with fail
                refine wp_region_quiet_below (by kernel_rfl) (by kernel_rfl) ?_
                repeat (quiet_step ((go_at_call 24; refine calls_below _ (CC.out _))))
                refine wpQuiet_nil ?_
                intro wq hw'
                have hq : Below wa.heap.size wa wq := by obtain ⟨p, rfl⟩ := hw'; exact p.h
                clear hw' x0 l0
                obtain ⟨An, cn', w4, hrun, hM4, hBS4, hkp⟩ := push_step (MA.out.below hq) (by omega) (bt hq BSA.out) rfl
                have HRUN := Lib.hid hrun
                have NX := Lib.hid (show Blk w4 wr.heap.size 70 #[.slice Ak cn ck, .int .i64 j] ∧ Below ws.heap.size ws w4 ∧ Mat w4 ws.heap.size An (m + 1) cn' _ _ from
                  ⟨(hkp _ (Nat.lt_of_lt_of_le ZA.out.lt hq.size) (fun e => by have := (I.out.2.outer.lt _ e.symm).2; omega)).trans (ZA.out.below hq), hBS4, hM4⟩)
                clear hrun hM4 hBS4 hkp I hq
                go_wp2_with (at_builtin; refine wpList_append_runI _ rfl _ _ 46 46 rfl (.slice Bo m do_) (.slice (some ⟨wq.heap.size, 0, none⟩) 1 1) rfl rfl HRUN.out ?_)
                go_meet
                case rel => exact ⟨m, An, cn', _, _, [], rfl, hmle, Lib.hid ⟨NX.out.1, NX.out.2.1, NX.out.2.2, MA.out.len.1, EQ.out, Nat.zero_le _⟩⟩
          case rest =>
            obtain ⟨m', Bo', do', vs', acc, l, rfl, hm', H⟩ := hcut
            have hM := H.out.2.2.1
            have hvl := hM.len.2
            obtain ⟨u, hu⟩ : ∃ u, vs'[m']? = some u := ⟨_, List.getElem?_eq_getElem (by omega)⟩
            obtain ⟨Au, nu, cu, rfl⟩ := hM.inn.slices u (List.mem_of_getElem? hu)
            obtain ⟨g8, e8, hg8, -, c8, -⟩ := own_at hM.outer hu
            subst e8
            have hl8 : (acc ++ [l])[m']? = some l := by rw [← H.out.2.2.2.1, List.getElem?_append_right (Nat.le_refl _)]; simp
            have bz : Below wc.heap.size wc (wc.drew.alloc (.cells #[.int .i64 j] 3)) := bt (below_alloc wc.drew _) (below_drew wc)
            have hnu := (own_cap (hM.inn.row m' _ l hu hl8).1).1
            obtain ⟨-, An, cn', w4, hrun, hc4, hf4, hM4, hB4, -, -⟩ := (hM.below bz).add (by have := H.out.2.1.size; simp; omega) hu hl8 (by have := H.out.2.2.2.2.2; omega) j wc.heap.size (Blk.new wc.drew 3 _)
            have hg9 : g8 < wc.heap.size + 1 := by omega
            have hbx := H.out.1.lt
            have hbx1 : wr.heap.size < wc.heap.size + 1 := by omega
            have b1 := H.out.1.cell 1
            have z6 : IntKind.i64.wrap (m' : Int) = (m' : Int) := by rw [IntKind.wrap_i64]; omega
            have z2 : (m' : Int) < (m' : Int) + 1 := by omega
            have hm9 : (m' : Int) < 1000001 := by omega
            have HRUN := Lib.hid hrun
            have NX := Lib.hid (show Below ws.heap.size ws (w4.setCell ⟨g8, m', none⟩ (.slice An (nu + 1) cn')) ∧ Mat (w4.setCell ⟨g8, m', none⟩ (.slice An (nu + 1) cn')) ws.heap.size (some ⟨g8, 0, none⟩) (m' + 1) do' (vs'.set m' (.slice An (nu + 1) cn')) (grpF keyCmp (keyOf rs cols) (L.take (t + 1))) from
              ⟨(bt bz H.out.2.1).trans hB4, by
                rw [H.out.2.2.2.2.1]
                have e := set_last acc l (l ++ [j])
                rw [H.out.2.2.2.1] at e
                rw [← e]; exact hM4⟩)
            clear hrun hM hM4 hB4 hu hl8 hvl H bz hnu
            go_wp2_with fail
            go_region_law (first | (refine step_append_runI rfl _ _ 45 45 rfl (.slice Au nu cu) (.slice (some ⟨wc.heap.size, 0, none⟩) 1 1) (by simp [Act.eval]) (by simp [Act.eval]) HRUN.out ?_))
            all_goals
              go_wp2_with fail
              go_roundg (gk - 1)
              case measure => omega
              case rel => exact ⟨t + 1, m' + 1, some ⟨g8, 0, none⟩, do', _, rfl, by first | rfl | (simp; done), by omega, NX⟩
        · obtain rfl : t = i := by omega
          have htz : ¬ (t : Int) < (t : Int) := by omega
          have EE := Lib.hid (show Mat wr w.heap.size Bo m do_ vs (refGroups keyCmp (keyOf rs cols) t) by
            have h := I.out.2
            rw [List.take_of_length_le (by rw [HL.out.len]; exact Nat.le_refl _), HG.out] at h
            exact h.base hS.out.old.size)
          have BB := Lib.hid (bt I.out.1 hS.out.old)
          clear I
          go_wp2_with fail
          go_ret
          exact ⟨Bo, m, do_, vs, rfl, EE, BB⟩

end Go.Proofs.Ytbcmmecilheicaa
