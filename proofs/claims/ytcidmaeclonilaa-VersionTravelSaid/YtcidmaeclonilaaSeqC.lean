/- The iterator of function 112, over chains (printed by mkseqc.py): its contract. -/
import Derived.Test.YtcidmaeclonilaaSeqPC
namespace Go.Proofs.Ytcidmaeclonilaa
open Go Go.RowKit
attribute [local go_sem] Oper.semAt_some

set_option maxRecDepth 100000 in
set_option maxHeartbeats 4000000 in
theorem seqC_in (n : Nat) (hn : 1 ≤ n) (l a Bt Br : Nat) (fr to : ByteArray) (hf ht of ot : Bool) (hs : ByteArray → Bool) (m : List KV) (J Jx : List CK → World → Prop) (w0 wa W : World) (h01 : Below w0.heap.size w0 wa) (hW : Below wa.heap.size wa W) (hBt : Bt < wa.heap.size) (hBr : Br < wa.heap.size)
    (ct : wa.cell? ⟨Bt, 0, none⟩ = some (.pointer (some ⟨a, 0, none⟩))) (cr : RngAt wa Br ⟨fr, to, hf, ht, of, ot⟩) (has1 : ∀ (w1 : World) (key : ByteArray), Calls Try.prog 12 #[.agg #[.string fr, .string to, .bool hf, .bool ht, .bool of, .bool ot], .string key] w1 fun e w' => e = .returned (.bool (hs key)) ∧ Hid (Below w1.heap.size w1 w')) (hv : ∀ p ∈ m, SlcV p.2) (S : StepsC w0 a m 113 89 hf fr of)
    (hJ : AbidesFrom W.heap.size J)
    (hY : ∀ pre x W1, J pre W1 → pre ++ [x] <+: (m.takeWhile (fun p => hs p.1)).map kvC → YieldAt Fence.wide (n - 1) Try.prog l #[.string x.1, .slice x.2.1 x.2.2.1 x.2.2.2] W1 fun e W' =>
      (e = .returned (.bool true) ∧ J (pre ++ [x]) W' ∧ KB w0.heap.size [Bt, Br] W1 W') ∨ (e = .returned (.bool false) ∧ Jx (pre ++ [x]) W'))
    (h0 : J [] W) :
    CallsIn Fence.wide n Try.prog 112 #[.func (.yield l) #[] #[], .pointer (some ⟨Bt, 0, none⟩), .pointer (some ⟨Br, 0, none⟩)] W fun e W' => (∃ v, e = .returned v) ∧
      ((∃ ys, ys = (m.takeWhile (fun p => hs p.1)).map kvC ∧ J ys W') ∨ (∃ pre, pre <+: (m.takeWhile (fun p => hs p.1)).map kvC ∧ Jx pre W')) := by
  obtain ⟨o0, ho0, hs00⟩ := S.start0 W (h01.trans (hW.mono h01.size))
  have hs0 := Lib.hid hs00
  have HO0 := Lib.hid ho0
  have hs1 := Lib.hid S.start1
  have hnx := Lib.hid S.next
  have HJ := Lib.hid (show ∀ s A B, J s A → Below A.heap.size A B → J s B from fun s A B h hb => hJ s A B none h (Below_grown_none hb) (fun r e => by cases e))
  have HY := Lib.hid hY
  have H0 := Lib.hid h0
  have HV := Lib.hid hv
  have RC := Lib.hid (show ∀ A, RB w0 wa [Bt, Br] A → A.cell? ⟨Bt, 0, none⟩ = some (.pointer (some ⟨a, 0, none⟩)) ∧ RngAt A Br ⟨fr, to, hf, ht, of, ot⟩ from fun A hb => ⟨(World.cell?_of_block (hb.kept Bt (by simp))).trans ct, cr.keep (hb.kept Br (by simp))⟩)
  have WB := Lib.hid (show RB w0 wa [Bt, Br] W from ⟨h01.trans (hW.mono h01.size), fun k hk => hW.block k (by simp at hk; omega), hW.size⟩)
  have HX := Lib.hid (show ∀ k ∈ [Bt, Br], k < wa.heap.size from fun k hk => by simp at hk; omega)
  have has2 := Lib.hid has1
  clear S hJ hY h0 hv ct cr hW h01 hBt hBr hs00 ho0 has1
  obtain ⟨c1, c2⟩ := RC.out W WB.out
  obtain ⟨r0, r1, r2, r3, r4, r5⟩ := c2
  simp only at r0 r1 r2 r3 r4 r5
  refine callsIn_of_wp Try.func112 rfl trivial ?_ rfl
  simp only [Try.ntmps112, List.size_toArray, List.length_cons, List.length_nil, Nat.reduceAdd, Nat.reduceSub, Array.replicate_succ, Array.replicate_zero, List.push_toArray, List.append_toArray, List.nil_append, List.cons_append]
  cases hf with
  | false =>
    gi_wp2_with ((try with_reducible refine And.intro (wide_fn _) ?_); gi_at_call 113; refine (callsIn_wide.2 hs0.out).mono ?_; clear hs0 c1 r0 r1 r2 r3 r4 r5; rintro e W2 ⟨zk, za, zn, zc, b, rfl, h1, h2⟩; have B2 := Lib.hid (WB.out.call HX.out h2.out); have J2 := Lib.hid (HJ.out _ _ _ H0.out h2.out); have E2 := Lib.hid (show rkC m[0]? = zk ∧ rvC m[0]? = Value.slice za zn zc ∧ m[0]?.isSome = b from by (rw [← HO0.out rfl]; exact h1.out)); obtain ⟨-, r0, r1, r2, r3, r4, r5⟩ := RC.out W2 B2.out; clear h1 h2 H0 HO0 hs1; simp only at r0 r1 r2 r3 r4 r5)
    clear r0 r1 r2 r3 r4 r5
    gi_loopg [4, 5, 6] m.length (fun kx s4 s5 s6 wr => ∃ (i : Nat) (zk : ByteArray) (za : Option Addr) (zn zc : Nat) (b : Bool), s4 = .string zk ∧ s5 = .slice za zn zc ∧ s6 = .bool b ∧ kx + i = m.length ∧ Hid (rkC m[i]? = zk ∧ rvC m[i]? = Value.slice za zn zc ∧ m[i]?.isSome = b) ∧ Hid (RB w0 wa [Bt, Br] wr) ∧ Hid (J ((m.take i).map kvC) wr) ∧ Hid (∀ p ∈ m.take i, hs p.1 = true))
    case atStart => exact ⟨0, zk, za, zn, zc, b, rfl, rfl, rfl, by omega, E2, B2, Lib.hid (by simpa using J2.out), Lib.hid (fun p hp => by simp at hp)⟩
    case round =>
      obtain ⟨i, zk, za, zn, zc, b, rfl, rfl, rfl, hk, E, B, JJ, HH⟩ := hrel
      clear E2 B2 J2
      cases b with
      | false =>
        have F := Lib.hid (show (∃ ys, ys = (m.takeWhile (fun p => hs p.1)).map kvC ∧ J ys wr) from by
          have hlen : m.length ≤ i := by
            by_cases hlt : i < m.length
            · have := E.out.2.2
              rw [List.getElem?_eq_getElem hlt] at this; cases this
            · omega
          refine ⟨_, rfl, ?_⟩
          have h := JJ.out
          have h2 := HH.out
          rw [List.take_of_length_le hlen] at h h2
          rw [takeWhile_all h2]
          exact h)
        clear E JJ HH hnx HY
        gi_wp2_with (first | (with_reducible refine And.intro (wide_fn _) ?_) | (with_reducible refine And.intro (none_fn _) ?_))
        go_end0
        exact ⟨⟨_, rfl⟩, .inl F.out⟩
      | true =>
        obtain ⟨p, hp⟩ : ∃ p, m[i]? = some p := Option.isSome_iff_exists.1 E.out.2.2
        have hpk : p.1 = zk := by have := E.out.1; rw [hp] at this; exact this
        have hpv : p.2 = .slice za zn zc := by have := E.out.2.1; rw [hp] at this; exact this
        have HP := Lib.hid (And.intro hp (And.intro hpk hpv))
        clear hp hpk hpv E
        have hl2 := has2.out wr zk
        obtain ⟨c1, r0, r1, r2, r3, r4, r5⟩ := RC.out wr B.out
        simp only at r0 r1 r2 r3 r4 r5
        cases hb : hs zk with
        | false =>
          have F := Lib.hid (show ∀ W', Below wr.heap.size wr W' → (∃ ys, ys = (m.takeWhile (fun p => hs p.1)).map kvC ∧ J ys W') from fun W' hbw => by
            refine ⟨_, rfl, ?_⟩
            rw [takeWhile_cut HP.out.1 HH.out (by rw [HP.out.2.1]; exact hb)]
            exact HJ.out _ _ _ JJ.out hbw)
          rw [hb] at hl2
          have HL2 := Lib.hid hl2
          clear hl2 JJ HH hnx HY c1
          gi_wp2_with (first | ((try with_reducible refine And.intro (wide_fn _) ?_); gi_at_call 12; refine (callsIn_wide.2 HL2.out).mono ?_; rintro e W3 ⟨rfl, h3⟩) | (with_reducible refine And.intro (wide_fn _) ?_) | (with_reducible refine And.intro (none_fn _) ?_))
          go_end0
          exact ⟨⟨_, rfl⟩, .inl (F.out _ h3.out)⟩
        | true =>
          rw [hb] at hl2
          have HL2 := Lib.hid hl2
          have HH2 := Lib.hid (show ∀ p ∈ m.take (i + 1), hs p.1 = true from fun q hq => by
            rw [List.take_add_one, HP.out.1] at hq
            rcases List.mem_append.1 hq with hq | hq
            · exact HH.out q hq
            · obtain rfl : q = p := by simpa using hq
              rw [HP.out.2.1]; exact hb)
          have YY := Lib.hid (show ∀ W3, Below wr.heap.size wr W3 → YieldAt Fence.wide (n - 1) Try.prog l #[.string zk, .slice za zn zc] W3 fun e W' =>
              (e = .returned (.bool true) ∧ J ((m.take (i + 1)).map kvC) W' ∧ KB w0.heap.size [Bt, Br] W3 W') ∨ (e = .returned (.bool false) ∧ ∃ pre, pre <+: (m.takeWhile (fun p => hs p.1)).map kvC ∧ Jx pre W') from fun W3 hb3 => by
            have hlen : i + 1 ≤ (m.takeWhile (fun p => hs p.1)).length := takeWhile_le HH2.out (List.getElem?_eq_some_iff.1 HP.out.1).1
            have hi1 : (m.take (i + 1)).map kvC = (m.take i).map kvC ++ [(zk, (za, zn, zc))] := by
              rw [List.take_add_one, HP.out.1, List.map_append]
              simp [kvC_of HP.out.2.2, HP.out.2.1]
            have hpre : (m.take (i + 1)).map kvC <+: (m.takeWhile (fun p => hs p.1)).map kvC := (takeWhile_pre HH2.out (List.getElem?_eq_some_iff.1 HP.out.1).1).map kvC
            have hlt := (List.getElem?_eq_some_iff.1 HP.out.1).1
            refine (HY.out ((m.take i).map kvC) (zk, (za, zn, zc)) W3 (HJ.out _ _ _ JJ.out hb3) (by rw [← hi1]; exact hpre)).mono ?_
            rintro e W' (⟨h1, h2, h3⟩ | ⟨h1, h2⟩)
            · exact .inl ⟨h1, by rw [hi1]; exact h2, h3⟩
            · exact .inr ⟨h1, _, hpre, by rw [hi1]; exact h2⟩)
          clear hl2 JJ HH HY c1 hb
          gi_wp2_with (first | ((try with_reducible refine And.intro (wide_fn _) ?_); gi_at_call 12; refine (callsIn_wide.2 HL2.out).mono ?_; rintro e W3 ⟨rfl, h3⟩; obtain ⟨fn, tmps, assign, body, hy, hR⟩ := YY.out W3 h3.out; have B3 := Lib.hid (B.out.call HX.out h3.out); clear r0 r1 r2 r3 r4 r5 YY HL2) | (with_reducible refine And.intro (wide_fn _) ?_))
          refine hR.mono ?_
          clear hR
          rintro e W4 (⟨rfl, hJ4, hk4⟩ | ⟨rfl, pre, hpre, hJx⟩)
          · have B4 := Lib.hid (B3.out.kp hk4)
            have HN := hnx.out W4 B4.out.low i p HP.out.1
            rw [HP.out.2.1] at HN
            have HN4 := Lib.hid HN
            have J4 := Lib.hid hJ4
            have hlt : i < m.length := (List.getElem?_eq_some_iff.1 HP.out.1).1
            obtain ⟨c1, -⟩ := RC.out W4 B4.out
            clear HN hJ4 hk4 hnx HP
            gi_wp2_with ((try with_reducible refine And.intro (wide_fn _) ?_); gi_at_call 89; refine (callsIn_wide.2 HN4.out).mono ?_; clear HN4; rintro e W5 ⟨zk5, za5, zn5, zc5, b5, rfl, E5, h5⟩)
            gi_roundg (gk - 1)
            case measure => omega
            case rel => exact ⟨i + 1, zk5, za5, zn5, zc5, b5, rfl, rfl, rfl, by omega, E5, Lib.hid (B4.out.call HX.out h5.out), Lib.hid (HJ.out _ _ _ J4.out h5.out), HH2⟩
          · have F := Lib.hid (show (∃ pre, pre <+: (m.takeWhile (fun p => hs p.1)).map kvC ∧ Jx pre W4) from ⟨pre, hpre, hJx⟩)
            clear hJx hpre
            gi_wp2
            go_end0
            exact ⟨⟨_, rfl⟩, .inr F.out⟩

  | true =>
    gi_wp2_with (first
      | ((try with_reducible refine And.intro (wide_fn _) ?_); gi_at_call 113; refine (callsIn_wide.2 hs0.out).mono ?_; clear hs0 c1 r0 r1 r2 r3 r4 r5; rintro e W1 ⟨zk0, za0, zn0, zc0, b0, rfl, h1, h2⟩; have B1 := Lib.hid (WB.out.call HX.out h2.out); have J1 := Lib.hid (HJ.out _ _ _ H0.out h2.out); obtain ⟨c1, r0, r1, r2, r3, r4, r5⟩ := RC.out W1 B1.out; have hs2 := Lib.hid (hs1.out rfl W1 B1.out.low); clear h1 h2 H0 HO0 hs1; simp only at r0 r1 r2 r3 r4 r5)
      | ((try with_reducible refine And.intro (wide_fn _) ?_); gi_at_call 89; refine (callsIn_wide.2 hs2.out).mono ?_; clear hs2 c1 r0 r1 r2 r3 r4 r5; rintro e W2 ⟨zk, za, zn, zc, b, rfl, E2, h2⟩; have B2 := Lib.hid (B1.out.call HX.out h2.out); have J2 := Lib.hid (HJ.out _ _ _ J1.out h2.out); obtain ⟨-, r0, r1, r2, r3, r4, r5⟩ := RC.out W2 B2.out; clear h2 J1 B1; simp only at r0 r1 r2 r3 r4 r5))
    clear r0 r1 r2 r3 r4 r5
    gi_loopg [4, 5, 6] m.length (fun kx s4 s5 s6 wr => ∃ (i : Nat) (zk : ByteArray) (za : Option Addr) (zn zc : Nat) (b : Bool), s4 = .string zk ∧ s5 = .slice za zn zc ∧ s6 = .bool b ∧ kx + i = m.length ∧ Hid (rkC m[i]? = zk ∧ rvC m[i]? = Value.slice za zn zc ∧ m[i]?.isSome = b) ∧ Hid (RB w0 wa [Bt, Br] wr) ∧ Hid (J ((m.take i).map kvC) wr) ∧ Hid (∀ p ∈ m.take i, hs p.1 = true))
    case atStart => exact ⟨0, zk, za, zn, zc, b, rfl, rfl, rfl, by omega, E2, B2, Lib.hid (by simpa using J2.out), Lib.hid (fun p hp => by simp at hp)⟩
    case round =>
      obtain ⟨i, zk, za, zn, zc, b, rfl, rfl, rfl, hk, E, B, JJ, HH⟩ := hrel
      clear E2 B2 J2
      cases b with
      | false =>
        have F := Lib.hid (show (∃ ys, ys = (m.takeWhile (fun p => hs p.1)).map kvC ∧ J ys wr) from by
          have hlen : m.length ≤ i := by
            by_cases hlt : i < m.length
            · have := E.out.2.2
              rw [List.getElem?_eq_getElem hlt] at this; cases this
            · omega
          refine ⟨_, rfl, ?_⟩
          have h := JJ.out
          have h2 := HH.out
          rw [List.take_of_length_le hlen] at h h2
          rw [takeWhile_all h2]
          exact h)
        clear E JJ HH hnx HY
        gi_wp2_with (first | (with_reducible refine And.intro (wide_fn _) ?_) | (with_reducible refine And.intro (none_fn _) ?_))
        go_end0
        exact ⟨⟨_, rfl⟩, .inl F.out⟩
      | true =>
        obtain ⟨p, hp⟩ : ∃ p, m[i]? = some p := Option.isSome_iff_exists.1 E.out.2.2
        have hpk : p.1 = zk := by have := E.out.1; rw [hp] at this; exact this
        have hpv : p.2 = .slice za zn zc := by have := E.out.2.1; rw [hp] at this; exact this
        have HP := Lib.hid (And.intro hp (And.intro hpk hpv))
        clear hp hpk hpv E
        have hl2 := has2.out wr zk
        obtain ⟨c1, r0, r1, r2, r3, r4, r5⟩ := RC.out wr B.out
        simp only at r0 r1 r2 r3 r4 r5
        cases hb : hs zk with
        | false =>
          have F := Lib.hid (show ∀ W', Below wr.heap.size wr W' → (∃ ys, ys = (m.takeWhile (fun p => hs p.1)).map kvC ∧ J ys W') from fun W' hbw => by
            refine ⟨_, rfl, ?_⟩
            rw [takeWhile_cut HP.out.1 HH.out (by rw [HP.out.2.1]; exact hb)]
            exact HJ.out _ _ _ JJ.out hbw)
          rw [hb] at hl2
          have HL2 := Lib.hid hl2
          clear hl2 JJ HH hnx HY c1
          gi_wp2_with (first | ((try with_reducible refine And.intro (wide_fn _) ?_); gi_at_call 12; refine (callsIn_wide.2 HL2.out).mono ?_; rintro e W3 ⟨rfl, h3⟩) | (with_reducible refine And.intro (wide_fn _) ?_) | (with_reducible refine And.intro (none_fn _) ?_))
          go_end0
          exact ⟨⟨_, rfl⟩, .inl (F.out _ h3.out)⟩
        | true =>
          rw [hb] at hl2
          have HL2 := Lib.hid hl2
          have HH2 := Lib.hid (show ∀ p ∈ m.take (i + 1), hs p.1 = true from fun q hq => by
            rw [List.take_add_one, HP.out.1] at hq
            rcases List.mem_append.1 hq with hq | hq
            · exact HH.out q hq
            · obtain rfl : q = p := by simpa using hq
              rw [HP.out.2.1]; exact hb)
          have YY := Lib.hid (show ∀ W3, Below wr.heap.size wr W3 → YieldAt Fence.wide (n - 1) Try.prog l #[.string zk, .slice za zn zc] W3 fun e W' =>
              (e = .returned (.bool true) ∧ J ((m.take (i + 1)).map kvC) W' ∧ KB w0.heap.size [Bt, Br] W3 W') ∨ (e = .returned (.bool false) ∧ ∃ pre, pre <+: (m.takeWhile (fun p => hs p.1)).map kvC ∧ Jx pre W') from fun W3 hb3 => by
            have hlen : i + 1 ≤ (m.takeWhile (fun p => hs p.1)).length := takeWhile_le HH2.out (List.getElem?_eq_some_iff.1 HP.out.1).1
            have hi1 : (m.take (i + 1)).map kvC = (m.take i).map kvC ++ [(zk, (za, zn, zc))] := by
              rw [List.take_add_one, HP.out.1, List.map_append]
              simp [kvC_of HP.out.2.2, HP.out.2.1]
            have hpre : (m.take (i + 1)).map kvC <+: (m.takeWhile (fun p => hs p.1)).map kvC := (takeWhile_pre HH2.out (List.getElem?_eq_some_iff.1 HP.out.1).1).map kvC
            have hlt := (List.getElem?_eq_some_iff.1 HP.out.1).1
            refine (HY.out ((m.take i).map kvC) (zk, (za, zn, zc)) W3 (HJ.out _ _ _ JJ.out hb3) (by rw [← hi1]; exact hpre)).mono ?_
            rintro e W' (⟨h1, h2, h3⟩ | ⟨h1, h2⟩)
            · exact .inl ⟨h1, by rw [hi1]; exact h2, h3⟩
            · exact .inr ⟨h1, _, hpre, by rw [hi1]; exact h2⟩)
          clear hl2 JJ HH HY c1 hb
          gi_wp2_with (first | ((try with_reducible refine And.intro (wide_fn _) ?_); gi_at_call 12; refine (callsIn_wide.2 HL2.out).mono ?_; rintro e W3 ⟨rfl, h3⟩; obtain ⟨fn, tmps, assign, body, hy, hR⟩ := YY.out W3 h3.out; have B3 := Lib.hid (B.out.call HX.out h3.out); clear r0 r1 r2 r3 r4 r5 YY HL2) | (with_reducible refine And.intro (wide_fn _) ?_))
          refine hR.mono ?_
          clear hR
          rintro e W4 (⟨rfl, hJ4, hk4⟩ | ⟨rfl, pre, hpre, hJx⟩)
          · have B4 := Lib.hid (B3.out.kp hk4)
            have HN := hnx.out W4 B4.out.low i p HP.out.1
            rw [HP.out.2.1] at HN
            have HN4 := Lib.hid HN
            have J4 := Lib.hid hJ4
            have hlt : i < m.length := (List.getElem?_eq_some_iff.1 HP.out.1).1
            obtain ⟨c1, -⟩ := RC.out W4 B4.out
            clear HN hJ4 hk4 hnx HP
            gi_wp2_with ((try with_reducible refine And.intro (wide_fn _) ?_); gi_at_call 89; refine (callsIn_wide.2 HN4.out).mono ?_; clear HN4; rintro e W5 ⟨zk5, za5, zn5, zc5, b5, rfl, E5, h5⟩)
            gi_roundg (gk - 1)
            case measure => omega
            case rel => exact ⟨i + 1, zk5, za5, zn5, zc5, b5, rfl, rfl, rfl, by omega, E5, Lib.hid (B4.out.call HX.out h5.out), Lib.hid (HJ.out _ _ _ J4.out h5.out), HH2⟩
          · have F := Lib.hid (show (∃ pre, pre <+: (m.takeWhile (fun p => hs p.1)).map kvC ∧ Jx pre W4) from ⟨pre, hpre, hJx⟩)
            clear hJx hpre
            gi_wp2
            go_end0
            exact ⟨⟨_, rfl⟩, .inr F.out⟩


end Go.Proofs.Ytcidmaeclonilaa
