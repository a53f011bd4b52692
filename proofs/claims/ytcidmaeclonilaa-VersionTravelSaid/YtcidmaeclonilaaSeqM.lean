/- Several texts in one. -/
import Derived.Test.YtcidmaeclonilaaCur
import Derived.Test.YtcidmaeclonilaaOwn
import Derived.RangeFuncNested
import Derived.RangeFuncBound
import Derived.RangeFuncCalls
import Derived.RangeFuncLeaves
import Derived.Shelf.Abstract
import Derived.Shelf.RegionOpen
import Derived.WalkKit
import Derived.OwnWalkIn
import Derived.TacticsInMore
import Derived.LoopNIn
import Derived.LoopIn
import Derived.Sort.LoopGhostIn

/- What the iterators of the cursor's All, Back stand on. -/
namespace Go.Proofs.Ytcidmaeclonilaa
open Go Go.RowKit

theorem wide_fn (k : Nat) : Fence.wide.fn k := trivial
theorem none_fn (F : Fence) : ∀ f, (none : Option Nat) = some f → F.fn f := fun _ h => by cases h
/-- a range -/
structure Rng where
  (fr to : ByteArray) (hf ht of ot : Bool)
def Rng.has (r : Rng) (key : ByteArray) : Bool := hasB r.fr r.to r.hf r.ht r.of r.ot key
def Rng.cells (r : Rng) : Array Value := #[.string r.fr, .string r.to, .bool r.hf, .bool r.ht, .bool r.of, .bool r.ot]
/-- it lies in a box -/
def RngAt (w : World) (b : Nat) (r : Rng) : Prop :=
  w.cell? ⟨b, 0, none⟩ = some (.string r.fr) ∧ w.cell? ⟨b, 1, none⟩ = some (.string r.to) ∧ w.cell? ⟨b, 2, none⟩ = some (.bool r.hf) ∧ w.cell? ⟨b, 3, none⟩ = some (.bool r.ht) ∧ w.cell? ⟨b, 4, none⟩ = some (.bool r.of) ∧ w.cell? ⟨b, 5, none⟩ = some (.bool r.ot)
theorem RngAt.below {w w' : World} {b B : Nat} {r : Rng} (H : RngAt w b r) (hb : Below B w w') (h : b < B) : RngAt w' b r :=
  ⟨(hb.cell (p := ⟨b, 0, none⟩) h).trans H.1, (hb.cell (p := ⟨b, 1, none⟩) h).trans H.2.1, (hb.cell (p := ⟨b, 2, none⟩) h).trans H.2.2.1, (hb.cell (p := ⟨b, 3, none⟩) h).trans H.2.2.2.1, (hb.cell (p := ⟨b, 4, none⟩) h).trans H.2.2.2.2.1, (hb.cell (p := ⟨b, 5, none⟩) h).trans H.2.2.2.2.2⟩
theorem RngAt.of_blk {w : World} {b : Nat} {t : TypeId} {r : Rng} (H : Blk w b t r.cells) : RngAt w b r :=
  ⟨H.cell 0, H.cell 1, H.cell 2, H.cell 3, H.cell 4, H.cell 5⟩

/-- a pair as two texts -/
def strOf : Value → ByteArray
  | .string z => z
  | _ => ⟨#[]⟩
def kvS (p : KV) : ByteArray × ByteArray := (p.1, strOf p.2)
theorem kvS_of {p : KV} {z : ByteArray} (h : p.2 = .string z) : kvS p = (p.1, z) := by unfold kvS strOf; rw [h]

/-- a neighbour is told -/
def NearE (W : World) (o : Option KV) (e : Ending) (W' : World) : Prop :=
  ∃ (zk zv : ByteArray) (b : Bool), e = .returned (.tuple #[.string zk, .string zv, .bool b]) ∧ Hid (rk o = zk ∧ rvS o = Value.string zv ∧ o.isSome = b) ∧ Hid (Below W.heap.size W W')
/-- the calls that an iterator makes: it goes along m -/
structure Steps (w0 : World) (a : Nat) (m : List KV) (first nxt : Nat) (hf : Bool) (key : ByteArray) (op : Bool) : Prop where
  start0 : ∀ W, Below w0.heap.size w0 W → ∃ o : Option KV, (hf = false → o = m[0]?) ∧ Calls Try.prog first #[.pointer (some ⟨a, 0, none⟩)] W (NearE W o)
  start1 : hf = true → ∀ W, Below w0.heap.size w0 W → Calls Try.prog nxt #[.pointer (some ⟨a, 0, none⟩), .string key, .bool op] W (NearE W m[0]?)
  next : ∀ W, Below w0.heap.size w0 W → ∀ (i : Nat) (p : KV), m[i]? = some p → Calls Try.prog nxt #[.pointer (some ⟨a, 0, none⟩), .string p.1, .bool true] W (NearE W m[i + 1]?)

theorem RngAt.keep {w w' : World} {b : Nat} {r : Rng} (H : RngAt w b r) (hb : w'.heap[b]? = w.heap[b]?) : RngAt w' b r :=
  have e (i : Nat) : w'.cell? ⟨b, i, none⟩ = w.cell? ⟨b, i, none⟩ := World.cell?_of_block hb
  ⟨(e 0).trans H.1, (e 1).trans H.2.1, (e 2).trans H.2.2.1, (e 3).trans H.2.2.2.1, (e 4).trans H.2.2.2.2.1, (e 5).trans H.2.2.2.2.2⟩
/-- what a round keeps: all that lay ahead of the call, and the iterator's boxes -/
def KB (n₀ : Nat) (X : List Nat) (W W' : World) : Prop := Below n₀ W W' ∧ ∀ k ∈ X, W'.heap[k]? = W.heap[k]?
theorem KB.trans {n₀ : Nat} {X : List Nat} {A B C : World} (h : KB n₀ X A B) (k : KB n₀ X B C) : KB n₀ X A C := ⟨h.1.trans k.1, fun x hx => (k.2 x hx).trans (h.2 x hx)⟩
theorem kb_put {n₀ : Nat} {X : List Nat} {w : World} (hn : n₀ ≤ w.heap.size) (hX : ∀ k ∈ X, k < w.heap.size) (W : World) (l : Nat) (o o' : Obj) (hl : w.heap.size ≤ l) (h : W.heap[l]? = some o) (hc : o.isCells = false) (hw : o.isWalk = false) : KB n₀ X W (W.putObj l o') :=
  ⟨belowK_b hn W l o o' hl h hc hw, fun k hk => by
    have := hX k hk
    exact World.putObj_heap_other (by omega)⟩
/-- where an iterator stands -/
structure RB (w0 w1 : World) (X : List Nat) (A : World) : Prop where
  low : Below w0.heap.size w0 A
  kept : ∀ k ∈ X, A.heap[k]? = w1.heap[k]?
  size : w1.heap.size ≤ A.heap.size
theorem RB.call {w0 w1 A A' : World} {X : List Nat} (h : RB w0 w1 X A) (hX : ∀ k ∈ X, k < w1.heap.size) (hb : Below A.heap.size A A') : RB w0 w1 X A' :=
  ⟨h.low.trans (hb.mono h.low.size), fun k hk => (hb.block k (Nat.lt_of_lt_of_le (hX k hk) h.size)).trans (h.kept k hk), Nat.le_trans h.size hb.size⟩
theorem RB.kp {w0 w1 A A' : World} {X : List Nat} (h : RB w0 w1 X A) (hk : KB w0.heap.size X A A') : RB w0 w1 X A' :=
  ⟨h.low.trans hk.1, fun k hx => (hk.2 k hx).trans (h.kept k hx), Nat.le_trans h.size hk.1.size⟩

theorem Below_grown_none {A B : World} (h : Below A.heap.size A B) : A.grownBy B none := ⟨h.os, h.tape, h.output, h.size, fun k hk _ => h.block k hk⟩

theorem takeWhile_all {α : Type} {f : α → Bool} : ∀ {m : List α}, (∀ p ∈ m, f p = true) → m.takeWhile f = m
  | [], _ => rfl
  | x :: m, h => by
    rw [List.takeWhile_cons, if_pos (h x (by simp)), takeWhile_all fun p hp => h p (by simp [hp])]
theorem takeWhile_cut {α : Type} {f : α → Bool} : ∀ {m : List α} {i : Nat} {p : α}, m[i]? = some p → (∀ q ∈ m.take i, f q = true) → f p = false → m.takeWhile f = m.take i
  | [], i, p, h, _, _ => by simp at h
  | x :: m, 0, p, h, _, hf => by
    obtain rfl : x = p := by simpa using h
    simp [hf]
  | x :: m, i + 1, p, h, hq, hf => by
    rw [List.takeWhile_cons, if_pos (hq x (by simp)), List.take_succ_cons, takeWhile_cut (by simpa using h) (fun q hm => hq q (by simp [hm])) hf]
theorem takeWhile_pre {α : Type} {f : α → Bool} : ∀ {m : List α} {i : Nat}, (∀ q ∈ m.take (i + 1), f q = true) → i < m.length → m.take (i + 1) <+: m.takeWhile f
  | [], i, _, h => by simp at h
  | x :: m, 0, hq, _ => by
    rw [List.takeWhile_cons, if_pos (hq x (by simp))]
    simp
  | x :: m, i + 1, hq, h => by
    rw [List.takeWhile_cons, if_pos (hq x (by simp)), List.take_succ_cons]
    exact (List.cons_prefix_cons).2 ⟨rfl, takeWhile_pre (fun q hm => hq q (by rw [List.take_succ_cons]; simp [hm])) (by simpa using h)⟩
theorem takeWhile_le {α : Type} {f : α → Bool} {m : List α} {i : Nat} (h : ∀ q ∈ m.take (i + 1), f q = true) (hi : i < m.length) : i + 1 ≤ (m.takeWhile f).length := by
  have := (takeWhile_pre h hi).length_le
  rw [List.length_take] at this; omega

end Go.Proofs.Ytcidmaeclonilaa

/- The iterator of function 80 (printed by mkseq.py F): its contract. -/
namespace Go.Proofs.Ytcidmaeclonilaa
open Go Go.RowKit
attribute [local go_sem] Oper.semAt_some

set_option maxRecDepth 100000 in
set_option maxHeartbeats 4000000 in
theorem seqF_in (n : Nat) (hn : 1 ≤ n) (l a Bt Br : Nat) (fr to : ByteArray) (hf ht of ot : Bool) (hs : ByteArray → Bool) (m : List KV) (J Jx : List (ByteArray × ByteArray) → World → Prop) (w0 wa W : World) (h01 : Below w0.heap.size w0 wa) (hW : Below wa.heap.size wa W) (hBt : Bt < wa.heap.size) (hBr : Br < wa.heap.size)
    (ct : wa.cell? ⟨Bt, 0, none⟩ = some (.pointer (some ⟨a, 0, none⟩))) (cr : RngAt wa Br ⟨fr, to, hf, ht, of, ot⟩) (has1 : ∀ (w1 : World) (key : ByteArray), Calls Try.prog 12 #[.agg #[.string fr, .string to, .bool hf, .bool ht, .bool of, .bool ot], .string key] w1 fun e w' => e = .returned (.bool (hs key)) ∧ Hid (Below w1.heap.size w1 w')) (hv : ∀ p ∈ m, StrV p.2) (S : Steps w0 a m 28 29 hf fr of)
    (hJ : AbidesFrom W.heap.size J)
    (hY : ∀ pre x W1, J pre W1 → pre.length < (m.takeWhile (fun p => hs p.1)).length → YieldAt Fence.wide (n - 1) Try.prog l #[.string x.1, .string x.2] W1 fun e W' =>
      (e = .returned (.bool true) ∧ J (pre ++ [x]) W' ∧ KB w0.heap.size [Bt, Br] W1 W') ∨ (e = .returned (.bool false) ∧ Jx (pre ++ [x]) W'))
    (h0 : J [] W) :
    CallsIn Fence.wide n Try.prog 80 #[.func (.yield l) #[] #[], .pointer (some ⟨Bt, 0, none⟩), .pointer (some ⟨Br, 0, none⟩)] W fun e W' => (∃ v, e = .returned v) ∧
      ((∃ ys, ys = (m.takeWhile (fun p => hs p.1)).map kvS ∧ J ys W') ∨ (∃ pre, pre <+: (m.takeWhile (fun p => hs p.1)).map kvS ∧ Jx pre W')) := by
  obtain ⟨o0, ho0, hs00⟩ := S.start0 W (h01.trans (hW.mono h01.size))
  have hs0 := Lib.hid hs00
  have HO0 := Lib.hid ho0
  have hs1 := Lib.hid S.start1
  have hnx := Lib.hid S.next
  have HJ := Lib.hid (show ∀ s A B, J s A → Below A.heap.size A B → J s B from fun s A B h hb => hJ s A B none h (Below_grown_none hb) (fun r e => by cases e))
  have HY := Lib.hid hY
  have H0 := Lib.hid h0
  have HV := Lib.hid hv
  have RC := Lib.hid (show ∀ A, RB w0 wa [Bt, Br] A → A.cell? ⟨Bt, 0, none⟩ = some (.pointer (some ⟨a, 0, none⟩)) ∧ RngAt A Br ⟨fr, to, hf, ht, of, ot⟩ from fun A hb => ⟨(World.cell?_of_block (hb.kept Bt (by simp))).trans ct, cr.keep (hb.kept Br (by simp))⟩)
  have WB := Lib.hid (show RB w0 wa [Bt, Br] W from ⟨h01.trans (hW.mono h01.size), fun k hk => hW.block k (by simp at hk; omega), hW.size⟩)
  have HX := Lib.hid (show ∀ k ∈ [Bt, Br], k < wa.heap.size from fun k hk => by simp at hk; omega)
  have has2 := Lib.hid has1
  clear S hJ hY h0 hv ct cr hW h01 hBt hBr hs00 ho0 has1
  obtain ⟨c1, c2⟩ := RC.out W WB.out
  obtain ⟨r0, r1, r2, r3, r4, r5⟩ := c2
  simp only at r0 r1 r2 r3 r4 r5
  refine callsIn_of_wp Try.func80 rfl trivial ?_ rfl
  simp only [Try.ntmps80, List.size_toArray, List.length_cons, List.length_nil, Nat.reduceAdd, Nat.reduceSub, Array.replicate_succ, Array.replicate_zero, List.push_toArray, List.append_toArray, List.nil_append, List.cons_append]
  cases hf with
  | false =>
    gi_wp2_with ((try with_reducible refine And.intro (wide_fn _) ?_); gi_at_call 28; refine (callsIn_wide.2 hs0.out).mono ?_; clear hs0 c1 r0 r1 r2 r3 r4 r5; rintro e W2 ⟨zk, zv, b, rfl, h1, h2⟩; have B2 := Lib.hid (WB.out.call HX.out h2.out); have J2 := Lib.hid (HJ.out _ _ _ H0.out h2.out); have E2 := Lib.hid (show rk m[0]? = zk ∧ rvS m[0]? = Value.string zv ∧ m[0]?.isSome = b from by (rw [← HO0.out rfl]; exact h1.out)); obtain ⟨-, r0, r1, r2, r3, r4, r5⟩ := RC.out W2 B2.out; clear h1 h2 H0 HO0 hs1; simp only at r0 r1 r2 r3 r4 r5)
    clear r0 r1 r2 r3 r4 r5
    gi_loopg [4, 5, 6] m.length (fun kx s4 s5 s6 wr => ∃ (i : Nat) (zk zv : ByteArray) (b : Bool), s4 = .string zk ∧ s5 = .string zv ∧ s6 = .bool b ∧ kx + i = m.length ∧ Hid (rk m[i]? = zk ∧ rvS m[i]? = Value.string zv ∧ m[i]?.isSome = b) ∧ Hid (RB w0 wa [Bt, Br] wr) ∧ Hid (J ((m.take i).map kvS) wr) ∧ Hid (∀ p ∈ m.take i, hs p.1 = true))
    case atStart => exact ⟨0, zk, zv, b, rfl, rfl, rfl, by omega, E2, B2, Lib.hid (by simpa using J2.out), Lib.hid (fun p hp => by simp at hp)⟩
    case round =>
      obtain ⟨i, zk, zv, b, rfl, rfl, rfl, hk, E, B, JJ, HH⟩ := hrel
      clear E2 B2 J2
      cases b with
      | false =>
        have F := Lib.hid (show (∃ ys, ys = (m.takeWhile (fun p => hs p.1)).map kvS ∧ J ys wr) from by
          have hlen : m.length ≤ i := by
            by_cases hlt : i < m.length
            · have := E.out.2.2
              rw [List.getElem?_eq_getElem hlt] at this; cases this
            · omega
          refine ⟨_, rfl, ?_⟩
          have h := JJ.out
          have h2 := HH.out
          rw [List.take_of_length_le hlen] at h h2
          rw [takeWhile_all h2]
          exact h)
        clear E JJ HH hnx HY
        gi_wp2_with (first | (with_reducible refine And.intro (wide_fn _) ?_) | (with_reducible refine And.intro (none_fn _) ?_))
        go_end0
        exact ⟨⟨_, rfl⟩, .inl F.out⟩
      | true =>
        obtain ⟨p, hp⟩ : ∃ p, m[i]? = some p := Option.isSome_iff_exists.1 E.out.2.2
        have hpk : p.1 = zk := by have := E.out.1; rw [hp] at this; exact this
        have hpv : p.2 = .string zv := by have := E.out.2.1; rw [hp] at this; exact this
        have HP := Lib.hid (And.intro hp (And.intro hpk hpv))
        clear hp hpk hpv E
        have hl2 := has2.out wr zk
        obtain ⟨c1, r0, r1, r2, r3, r4, r5⟩ := RC.out wr B.out
        simp only at r0 r1 r2 r3 r4 r5
        cases hb : hs zk with
        | false =>
          have F := Lib.hid (show ∀ W', Below wr.heap.size wr W' → (∃ ys, ys = (m.takeWhile (fun p => hs p.1)).map kvS ∧ J ys W') from fun W' hbw => by
            refine ⟨_, rfl, ?_⟩
            rw [takeWhile_cut HP.out.1 HH.out (by rw [HP.out.2.1]; exact hb)]
            exact HJ.out _ _ _ JJ.out hbw)
          rw [hb] at hl2
          have HL2 := Lib.hid hl2
          clear hl2 JJ HH hnx HY c1
          gi_wp2_with (first | ((try with_reducible refine And.intro (wide_fn _) ?_); gi_at_call 12; refine (callsIn_wide.2 HL2.out).mono ?_; rintro e W3 ⟨rfl, h3⟩) | (with_reducible refine And.intro (wide_fn _) ?_) | (with_reducible refine And.intro (none_fn _) ?_))
          go_end0
          exact ⟨⟨_, rfl⟩, .inl (F.out _ h3.out)⟩
        | true =>
          rw [hb] at hl2
          have HL2 := Lib.hid hl2
          have HH2 := Lib.hid (show ∀ p ∈ m.take (i + 1), hs p.1 = true from fun q hq => by
            rw [List.take_add_one, HP.out.1] at hq
            rcases List.mem_append.1 hq with hq | hq
            · exact HH.out q hq
            · obtain rfl : q = p := by simpa using hq
              rw [HP.out.2.1]; exact hb)
          have YY := Lib.hid (show ∀ W3, Below wr.heap.size wr W3 → YieldAt Fence.wide (n - 1) Try.prog l #[.string zk, .string zv] W3 fun e W' =>
              (e = .returned (.bool true) ∧ J ((m.take (i + 1)).map kvS) W' ∧ KB w0.heap.size [Bt, Br] W3 W') ∨ (e = .returned (.bool false) ∧ ∃ pre, pre <+: (m.takeWhile (fun p => hs p.1)).map kvS ∧ Jx pre W') from fun W3 hb3 => by
            have hlen : i + 1 ≤ (m.takeWhile (fun p => hs p.1)).length := takeWhile_le HH2.out (List.getElem?_eq_some_iff.1 HP.out.1).1
            have hi1 : (m.take (i + 1)).map kvS = (m.take i).map kvS ++ [(zk, zv)] := by
              rw [List.take_add_one, HP.out.1, List.map_append]
              simp [kvS_of HP.out.2.2, HP.out.2.1]
            have hpre : (m.take (i + 1)).map kvS <+: (m.takeWhile (fun p => hs p.1)).map kvS := (takeWhile_pre HH2.out (List.getElem?_eq_some_iff.1 HP.out.1).1).map kvS
            have hlt := (List.getElem?_eq_some_iff.1 HP.out.1).1
            refine (HY.out ((m.take i).map kvS) (zk, zv) W3 (HJ.out _ _ _ JJ.out hb3) (by simp; omega)).mono ?_
            rintro e W' (⟨h1, h2, h3⟩ | ⟨h1, h2⟩)
            · exact .inl ⟨h1, by rw [hi1]; exact h2, h3⟩
            · exact .inr ⟨h1, _, hpre, by rw [hi1]; exact h2⟩)
          clear hl2 JJ HH HY c1 hb
          gi_wp2_with (first | ((try with_reducible refine And.intro (wide_fn _) ?_); gi_at_call 12; refine (callsIn_wide.2 HL2.out).mono ?_; rintro e W3 ⟨rfl, h3⟩; obtain ⟨fn, tmps, assign, body, hy, hR⟩ := YY.out W3 h3.out; have B3 := Lib.hid (B.out.call HX.out h3.out); clear r0 r1 r2 r3 r4 r5 YY HL2) | (with_reducible refine And.intro (wide_fn _) ?_))
          refine hR.mono ?_
          clear hR
          rintro e W4 (⟨rfl, hJ4, hk4⟩ | ⟨rfl, pre, hpre, hJx⟩)
          · have B4 := Lib.hid (B3.out.kp hk4)
            have HN := hnx.out W4 B4.out.low i p HP.out.1
            rw [HP.out.2.1] at HN
            have HN4 := Lib.hid HN
            have J4 := Lib.hid hJ4
            have hlt : i < m.length := (List.getElem?_eq_some_iff.1 HP.out.1).1
            obtain ⟨c1, -⟩ := RC.out W4 B4.out
            clear HN hJ4 hk4 hnx HP
            gi_wp2_with ((try with_reducible refine And.intro (wide_fn _) ?_); gi_at_call 29; refine (callsIn_wide.2 HN4.out).mono ?_; clear HN4; rintro e W5 ⟨zk5, zv5, b5, rfl, E5, h5⟩)
            gi_roundg (gk - 1)
            case measure => omega
            case rel => exact ⟨i + 1, zk5, zv5, b5, rfl, rfl, rfl, by omega, E5, Lib.hid (B4.out.call HX.out h5.out), Lib.hid (HJ.out _ _ _ J4.out h5.out), HH2⟩
          · have F := Lib.hid (show (∃ pre, pre <+: (m.takeWhile (fun p => hs p.1)).map kvS ∧ Jx pre W4) from ⟨pre, hpre, hJx⟩)
            clear hJx hpre
            gi_wp2
            go_end0
            exact ⟨⟨_, rfl⟩, .inr F.out⟩

  | true =>
    gi_wp2_with (first
      | ((try with_reducible refine And.intro (wide_fn _) ?_); gi_at_call 28; refine (callsIn_wide.2 hs0.out).mono ?_; clear hs0 c1 r0 r1 r2 r3 r4 r5; rintro e W1 ⟨zk0, zv0, b0, rfl, h1, h2⟩; have B1 := Lib.hid (WB.out.call HX.out h2.out); have J1 := Lib.hid (HJ.out _ _ _ H0.out h2.out); obtain ⟨c1, r0, r1, r2, r3, r4, r5⟩ := RC.out W1 B1.out; have hs2 := Lib.hid (hs1.out rfl W1 B1.out.low); clear h1 h2 H0 HO0 hs1; simp only at r0 r1 r2 r3 r4 r5)
      | ((try with_reducible refine And.intro (wide_fn _) ?_); gi_at_call 29; refine (callsIn_wide.2 hs2.out).mono ?_; clear hs2 c1 r0 r1 r2 r3 r4 r5; rintro e W2 ⟨zk, zv, b, rfl, E2, h2⟩; have B2 := Lib.hid (B1.out.call HX.out h2.out); have J2 := Lib.hid (HJ.out _ _ _ J1.out h2.out); obtain ⟨-, r0, r1, r2, r3, r4, r5⟩ := RC.out W2 B2.out; clear h2 J1 B1; simp only at r0 r1 r2 r3 r4 r5))
    clear r0 r1 r2 r3 r4 r5
    gi_loopg [4, 5, 6] m.length (fun kx s4 s5 s6 wr => ∃ (i : Nat) (zk zv : ByteArray) (b : Bool), s4 = .string zk ∧ s5 = .string zv ∧ s6 = .bool b ∧ kx + i = m.length ∧ Hid (rk m[i]? = zk ∧ rvS m[i]? = Value.string zv ∧ m[i]?.isSome = b) ∧ Hid (RB w0 wa [Bt, Br] wr) ∧ Hid (J ((m.take i).map kvS) wr) ∧ Hid (∀ p ∈ m.take i, hs p.1 = true))
    case atStart => exact ⟨0, zk, zv, b, rfl, rfl, rfl, by omega, E2, B2, Lib.hid (by simpa using J2.out), Lib.hid (fun p hp => by simp at hp)⟩
    case round =>
      obtain ⟨i, zk, zv, b, rfl, rfl, rfl, hk, E, B, JJ, HH⟩ := hrel
      clear E2 B2 J2
      cases b with
      | false =>
        have F := Lib.hid (show (∃ ys, ys = (m.takeWhile (fun p => hs p.1)).map kvS ∧ J ys wr) from by
          have hlen : m.length ≤ i := by
            by_cases hlt : i < m.length
            · have := E.out.2.2
              rw [List.getElem?_eq_getElem hlt] at this; cases this
            · omega
          refine ⟨_, rfl, ?_⟩
          have h := JJ.out
          have h2 := HH.out
          rw [List.take_of_length_le hlen] at h h2
          rw [takeWhile_all h2]
          exact h)
        clear E JJ HH hnx HY
        gi_wp2_with (first | (with_reducible refine And.intro (wide_fn _) ?_) | (with_reducible refine And.intro (none_fn _) ?_))
        go_end0
        exact ⟨⟨_, rfl⟩, .inl F.out⟩
      | true =>
        obtain ⟨p, hp⟩ : ∃ p, m[i]? = some p := Option.isSome_iff_exists.1 E.out.2.2
        have hpk : p.1 = zk := by have := E.out.1; rw [hp] at this; exact this
        have hpv : p.2 = .string zv := by have := E.out.2.1; rw [hp] at this; exact this
        have HP := Lib.hid (And.intro hp (And.intro hpk hpv))
        clear hp hpk hpv E
        have hl2 := has2.out wr zk
        obtain ⟨c1, r0, r1, r2, r3, r4, r5⟩ := RC.out wr B.out
        simp only at r0 r1 r2 r3 r4 r5
        cases hb : hs zk with
        | false =>
          have F := Lib.hid (show ∀ W', Below wr.heap.size wr W' → (∃ ys, ys = (m.takeWhile (fun p => hs p.1)).map kvS ∧ J ys W') from fun W' hbw => by
            refine ⟨_, rfl, ?_⟩
            rw [takeWhile_cut HP.out.1 HH.out (by rw [HP.out.2.1]; exact hb)]
            exact HJ.out _ _ _ JJ.out hbw)
          rw [hb] at hl2
          have HL2 := Lib.hid hl2
          clear hl2 JJ HH hnx HY c1
          gi_wp2_with (first | ((try with_reducible refine And.intro (wide_fn _) ?_); gi_at_call 12; refine (callsIn_wide.2 HL2.out).mono ?_; rintro e W3 ⟨rfl, h3⟩) | (with_reducible refine And.intro (wide_fn _) ?_) | (with_reducible refine And.intro (none_fn _) ?_))
          go_end0
          exact ⟨⟨_, rfl⟩, .inl (F.out _ h3.out)⟩
        | true =>
          rw [hb] at hl2
          have HL2 := Lib.hid hl2
          have HH2 := Lib.hid (show ∀ p ∈ m.take (i + 1), hs p.1 = true from fun q hq => by
            rw [List.take_add_one, HP.out.1] at hq
            rcases List.mem_append.1 hq with hq | hq
            · exact HH.out q hq
            · obtain rfl : q = p := by simpa using hq
              rw [HP.out.2.1]; exact hb)
          have YY := Lib.hid (show ∀ W3, Below wr.heap.size wr W3 → YieldAt Fence.wide (n - 1) Try.prog l #[.string zk, .string zv] W3 fun e W' =>
              (e = .returned (.bool true) ∧ J ((m.take (i + 1)).map kvS) W' ∧ KB w0.heap.size [Bt, Br] W3 W') ∨ (e = .returned (.bool false) ∧ ∃ pre, pre <+: (m.takeWhile (fun p => hs p.1)).map kvS ∧ Jx pre W') from fun W3 hb3 => by
            have hlen : i + 1 ≤ (m.takeWhile (fun p => hs p.1)).length := takeWhile_le HH2.out (List.getElem?_eq_some_iff.1 HP.out.1).1
            have hi1 : (m.take (i + 1)).map kvS = (m.take i).map kvS ++ [(zk, zv)] := by
              rw [List.take_add_one, HP.out.1, List.map_append]
              simp [kvS_of HP.out.2.2, HP.out.2.1]
            have hpre : (m.take (i + 1)).map kvS <+: (m.takeWhile (fun p => hs p.1)).map kvS := (takeWhile_pre HH2.out (List.getElem?_eq_some_iff.1 HP.out.1).1).map kvS
            have hlt := (List.getElem?_eq_some_iff.1 HP.out.1).1
            refine (HY.out ((m.take i).map kvS) (zk, zv) W3 (HJ.out _ _ _ JJ.out hb3) (by simp; omega)).mono ?_
            rintro e W' (⟨h1, h2, h3⟩ | ⟨h1, h2⟩)
            · exact .inl ⟨h1, by rw [hi1]; exact h2, h3⟩
            · exact .inr ⟨h1, _, hpre, by rw [hi1]; exact h2⟩)
          clear hl2 JJ HH HY c1 hb
          gi_wp2_with (first | ((try with_reducible refine And.intro (wide_fn _) ?_); gi_at_call 12; refine (callsIn_wide.2 HL2.out).mono ?_; rintro e W3 ⟨rfl, h3⟩; obtain ⟨fn, tmps, assign, body, hy, hR⟩ := YY.out W3 h3.out; have B3 := Lib.hid (B.out.call HX.out h3.out); clear r0 r1 r2 r3 r4 r5 YY HL2) | (with_reducible refine And.intro (wide_fn _) ?_))
          refine hR.mono ?_
          clear hR
          rintro e W4 (⟨rfl, hJ4, hk4⟩ | ⟨rfl, pre, hpre, hJx⟩)
          · have B4 := Lib.hid (B3.out.kp hk4)
            have HN := hnx.out W4 B4.out.low i p HP.out.1
            rw [HP.out.2.1] at HN
            have HN4 := Lib.hid HN
            have J4 := Lib.hid hJ4
            have hlt : i < m.length := (List.getElem?_eq_some_iff.1 HP.out.1).1
            obtain ⟨c1, -⟩ := RC.out W4 B4.out
            clear HN hJ4 hk4 hnx HP
            gi_wp2_with ((try with_reducible refine And.intro (wide_fn _) ?_); gi_at_call 29; refine (callsIn_wide.2 HN4.out).mono ?_; clear HN4; rintro e W5 ⟨zk5, zv5, b5, rfl, E5, h5⟩)
            gi_roundg (gk - 1)
            case measure => omega
            case rel => exact ⟨i + 1, zk5, zv5, b5, rfl, rfl, rfl, by omega, E5, Lib.hid (B4.out.call HX.out h5.out), Lib.hid (HJ.out _ _ _ J4.out h5.out), HH2⟩
          · have F := Lib.hid (show (∃ pre, pre <+: (m.takeWhile (fun p => hs p.1)).map kvS ∧ Jx pre W4) from ⟨pre, hpre, hJx⟩)
            clear hJx hpre
            gi_wp2
            go_end0
            exact ⟨⟨_, rfl⟩, .inr F.out⟩


end Go.Proofs.Ytcidmaeclonilaa

/- The iterator of function 81 (printed by mkseq.py B): its contract. -/
namespace Go.Proofs.Ytcidmaeclonilaa
open Go Go.RowKit
attribute [local go_sem] Oper.semAt_some

set_option maxRecDepth 100000 in
set_option maxHeartbeats 4000000 in
theorem seqB_in (n : Nat) (hn : 1 ≤ n) (l a Bt Br : Nat) (fr to : ByteArray) (hf ht of ot : Bool) (hs : ByteArray → Bool) (m : List KV) (J Jx : List (ByteArray × ByteArray) → World → Prop) (w0 wa W : World) (h01 : Below w0.heap.size w0 wa) (hW : Below wa.heap.size wa W) (hBt : Bt < wa.heap.size) (hBr : Br < wa.heap.size)
    (ct : wa.cell? ⟨Bt, 0, none⟩ = some (.pointer (some ⟨a, 0, none⟩))) (cr : RngAt wa Br ⟨fr, to, hf, ht, of, ot⟩) (has1 : ∀ (w1 : World) (key : ByteArray), Calls Try.prog 12 #[.agg #[.string fr, .string to, .bool hf, .bool ht, .bool of, .bool ot], .string key] w1 fun e w' => e = .returned (.bool (hs key)) ∧ Hid (Below w1.heap.size w1 w')) (hv : ∀ p ∈ m, StrV p.2) (S : Steps w0 a m 30 31 ht to ot)
    (hJ : AbidesFrom W.heap.size J)
    (hY : ∀ pre x W1, J pre W1 → pre.length < (m.takeWhile (fun p => hs p.1)).length → YieldAt Fence.wide (n - 1) Try.prog l #[.string x.1, .string x.2] W1 fun e W' =>
      (e = .returned (.bool true) ∧ J (pre ++ [x]) W' ∧ KB w0.heap.size [Bt, Br] W1 W') ∨ (e = .returned (.bool false) ∧ Jx (pre ++ [x]) W'))
    (h0 : J [] W) :
    CallsIn Fence.wide n Try.prog 81 #[.func (.yield l) #[] #[], .pointer (some ⟨Bt, 0, none⟩), .pointer (some ⟨Br, 0, none⟩)] W fun e W' => (∃ v, e = .returned v) ∧
      ((∃ ys, ys = (m.takeWhile (fun p => hs p.1)).map kvS ∧ J ys W') ∨ (∃ pre, pre <+: (m.takeWhile (fun p => hs p.1)).map kvS ∧ Jx pre W')) := by
  obtain ⟨o0, ho0, hs00⟩ := S.start0 W (h01.trans (hW.mono h01.size))
  have hs0 := Lib.hid hs00
  have HO0 := Lib.hid ho0
  have hs1 := Lib.hid S.start1
  have hnx := Lib.hid S.next
  have HJ := Lib.hid (show ∀ s A B, J s A → Below A.heap.size A B → J s B from fun s A B h hb => hJ s A B none h (Below_grown_none hb) (fun r e => by cases e))
  have HY := Lib.hid hY
  have H0 := Lib.hid h0
  have HV := Lib.hid hv
  have RC := Lib.hid (show ∀ A, RB w0 wa [Bt, Br] A → A.cell? ⟨Bt, 0, none⟩ = some (.pointer (some ⟨a, 0, none⟩)) ∧ RngAt A Br ⟨fr, to, hf, ht, of, ot⟩ from fun A hb => ⟨(World.cell?_of_block (hb.kept Bt (by simp))).trans ct, cr.keep (hb.kept Br (by simp))⟩)
  have WB := Lib.hid (show RB w0 wa [Bt, Br] W from ⟨h01.trans (hW.mono h01.size), fun k hk => hW.block k (by simp at hk; omega), hW.size⟩)
  have HX := Lib.hid (show ∀ k ∈ [Bt, Br], k < wa.heap.size from fun k hk => by simp at hk; omega)
  have has2 := Lib.hid has1
  clear S hJ hY h0 hv ct cr hW h01 hBt hBr hs00 ho0 has1
  obtain ⟨c1, c2⟩ := RC.out W WB.out
  obtain ⟨r0, r1, r2, r3, r4, r5⟩ := c2
  simp only at r0 r1 r2 r3 r4 r5
  refine callsIn_of_wp Try.func81 rfl trivial ?_ rfl
  simp only [Try.ntmps81, List.size_toArray, List.length_cons, List.length_nil, Nat.reduceAdd, Nat.reduceSub, Array.replicate_succ, Array.replicate_zero, List.push_toArray, List.append_toArray, List.nil_append, List.cons_append]
  cases ht with
  | false =>
    gi_wp2_with ((try with_reducible refine And.intro (wide_fn _) ?_); gi_at_call 30; refine (callsIn_wide.2 hs0.out).mono ?_; clear hs0 c1 r0 r1 r2 r3 r4 r5; rintro e W2 ⟨zk, zv, b, rfl, h1, h2⟩; have B2 := Lib.hid (WB.out.call HX.out h2.out); have J2 := Lib.hid (HJ.out _ _ _ H0.out h2.out); have E2 := Lib.hid (show rk m[0]? = zk ∧ rvS m[0]? = Value.string zv ∧ m[0]?.isSome = b from by (rw [← HO0.out rfl]; exact h1.out)); obtain ⟨-, r0, r1, r2, r3, r4, r5⟩ := RC.out W2 B2.out; clear h1 h2 H0 HO0 hs1; simp only at r0 r1 r2 r3 r4 r5)
    clear r0 r1 r2 r3 r4 r5
    gi_loopg [4, 5, 6] m.length (fun kx s4 s5 s6 wr => ∃ (i : Nat) (zk zv : ByteArray) (b : Bool), s4 = .string zk ∧ s5 = .string zv ∧ s6 = .bool b ∧ kx + i = m.length ∧ Hid (rk m[i]? = zk ∧ rvS m[i]? = Value.string zv ∧ m[i]?.isSome = b) ∧ Hid (RB w0 wa [Bt, Br] wr) ∧ Hid (J ((m.take i).map kvS) wr) ∧ Hid (∀ p ∈ m.take i, hs p.1 = true))
    case atStart => exact ⟨0, zk, zv, b, rfl, rfl, rfl, by omega, E2, B2, Lib.hid (by simpa using J2.out), Lib.hid (fun p hp => by simp at hp)⟩
    case round =>
      obtain ⟨i, zk, zv, b, rfl, rfl, rfl, hk, E, B, JJ, HH⟩ := hrel
      clear E2 B2 J2
      cases b with
      | false =>
        have F := Lib.hid (show (∃ ys, ys = (m.takeWhile (fun p => hs p.1)).map kvS ∧ J ys wr) from by
          have hlen : m.length ≤ i := by
            by_cases hlt : i < m.length
            · have := E.out.2.2
              rw [List.getElem?_eq_getElem hlt] at this; cases this
            · omega
          refine ⟨_, rfl, ?_⟩
          have h := JJ.out
          have h2 := HH.out
          rw [List.take_of_length_le hlen] at h h2
          rw [takeWhile_all h2]
          exact h)
        clear E JJ HH hnx HY
        gi_wp2_with (first | (with_reducible refine And.intro (wide_fn _) ?_) | (with_reducible refine And.intro (none_fn _) ?_))
        go_end0
        exact ⟨⟨_, rfl⟩, .inl F.out⟩
      | true =>
        obtain ⟨p, hp⟩ : ∃ p, m[i]? = some p := Option.isSome_iff_exists.1 E.out.2.2
        have hpk : p.1 = zk := by have := E.out.1; rw [hp] at this; exact this
        have hpv : p.2 = .string zv := by have := E.out.2.1; rw [hp] at this; exact this
        have HP := Lib.hid (And.intro hp (And.intro hpk hpv))
        clear hp hpk hpv E
        have hl2 := has2.out wr zk
        obtain ⟨c1, r0, r1, r2, r3, r4, r5⟩ := RC.out wr B.out
        simp only at r0 r1 r2 r3 r4 r5
        cases hb : hs zk with
        | false =>
          have F := Lib.hid (show ∀ W', Below wr.heap.size wr W' → (∃ ys, ys = (m.takeWhile (fun p => hs p.1)).map kvS ∧ J ys W') from fun W' hbw => by
            refine ⟨_, rfl, ?_⟩
            rw [takeWhile_cut HP.out.1 HH.out (by rw [HP.out.2.1]; exact hb)]
            exact HJ.out _ _ _ JJ.out hbw)
          rw [hb] at hl2
          have HL2 := Lib.hid hl2
          clear hl2 JJ HH hnx HY c1
          gi_wp2_with (first | ((try with_reducible refine And.intro (wide_fn _) ?_); gi_at_call 12; refine (callsIn_wide.2 HL2.out).mono ?_; rintro e W3 ⟨rfl, h3⟩) | (with_reducible refine And.intro (wide_fn _) ?_) | (with_reducible refine And.intro (none_fn _) ?_))
          go_end0
          exact ⟨⟨_, rfl⟩, .inl (F.out _ h3.out)⟩
        | true =>
          rw [hb] at hl2
          have HL2 := Lib.hid hl2
          have HH2 := Lib.hid (show ∀ p ∈ m.take (i + 1), hs p.1 = true from fun q hq => by
            rw [List.take_add_one, HP.out.1] at hq
            rcases List.mem_append.1 hq with hq | hq
            · exact HH.out q hq
            · obtain rfl : q = p := by simpa using hq
              rw [HP.out.2.1]; exact hb)
          have YY := Lib.hid (show ∀ W3, Below wr.heap.size wr W3 → YieldAt Fence.wide (n - 1) Try.prog l #[.string zk, .string zv] W3 fun e W' =>
              (e = .returned (.bool true) ∧ J ((m.take (i + 1)).map kvS) W' ∧ KB w0.heap.size [Bt, Br] W3 W') ∨ (e = .returned (.bool false) ∧ ∃ pre, pre <+: (m.takeWhile (fun p => hs p.1)).map kvS ∧ Jx pre W') from fun W3 hb3 => by
            have hlen : i + 1 ≤ (m.takeWhile (fun p => hs p.1)).length := takeWhile_le HH2.out (List.getElem?_eq_some_iff.1 HP.out.1).1
            have hi1 : (m.take (i + 1)).map kvS = (m.take i).map kvS ++ [(zk, zv)] := by
              rw [List.take_add_one, HP.out.1, List.map_append]
              simp [kvS_of HP.out.2.2, HP.out.2.1]
            have hpre : (m.take (i + 1)).map kvS <+: (m.takeWhile (fun p => hs p.1)).map kvS := (takeWhile_pre HH2.out (List.getElem?_eq_some_iff.1 HP.out.1).1).map kvS
            have hlt := (List.getElem?_eq_some_iff.1 HP.out.1).1
            refine (HY.out ((m.take i).map kvS) (zk, zv) W3 (HJ.out _ _ _ JJ.out hb3) (by simp; omega)).mono ?_
            rintro e W' (⟨h1, h2, h3⟩ | ⟨h1, h2⟩)
            · exact .inl ⟨h1, by rw [hi1]; exact h2, h3⟩
            · exact .inr ⟨h1, _, hpre, by rw [hi1]; exact h2⟩)
          clear hl2 JJ HH HY c1 hb
          gi_wp2_with (first | ((try with_reducible refine And.intro (wide_fn _) ?_); gi_at_call 12; refine (callsIn_wide.2 HL2.out).mono ?_; rintro e W3 ⟨rfl, h3⟩; obtain ⟨fn, tmps, assign, body, hy, hR⟩ := YY.out W3 h3.out; have B3 := Lib.hid (B.out.call HX.out h3.out); clear r0 r1 r2 r3 r4 r5 YY HL2) | (with_reducible refine And.intro (wide_fn _) ?_))
          refine hR.mono ?_
          clear hR
          rintro e W4 (⟨rfl, hJ4, hk4⟩ | ⟨rfl, pre, hpre, hJx⟩)
          · have B4 := Lib.hid (B3.out.kp hk4)
            have HN := hnx.out W4 B4.out.low i p HP.out.1
            rw [HP.out.2.1] at HN
            have HN4 := Lib.hid HN
            have J4 := Lib.hid hJ4
            have hlt : i < m.length := (List.getElem?_eq_some_iff.1 HP.out.1).1
            obtain ⟨c1, -⟩ := RC.out W4 B4.out
            clear HN hJ4 hk4 hnx HP
            gi_wp2_with ((try with_reducible refine And.intro (wide_fn _) ?_); gi_at_call 31; refine (callsIn_wide.2 HN4.out).mono ?_; clear HN4; rintro e W5 ⟨zk5, zv5, b5, rfl, E5, h5⟩)
            gi_roundg (gk - 1)
            case measure => omega
            case rel => exact ⟨i + 1, zk5, zv5, b5, rfl, rfl, rfl, by omega, E5, Lib.hid (B4.out.call HX.out h5.out), Lib.hid (HJ.out _ _ _ J4.out h5.out), HH2⟩
          · have F := Lib.hid (show (∃ pre, pre <+: (m.takeWhile (fun p => hs p.1)).map kvS ∧ Jx pre W4) from ⟨pre, hpre, hJx⟩)
            clear hJx hpre
            gi_wp2
            go_end0
            exact ⟨⟨_, rfl⟩, .inr F.out⟩

  | true =>
    gi_wp2_with (first
      | ((try with_reducible refine And.intro (wide_fn _) ?_); gi_at_call 30; refine (callsIn_wide.2 hs0.out).mono ?_; clear hs0 c1 r0 r1 r2 r3 r4 r5; rintro e W1 ⟨zk0, zv0, b0, rfl, h1, h2⟩; have B1 := Lib.hid (WB.out.call HX.out h2.out); have J1 := Lib.hid (HJ.out _ _ _ H0.out h2.out); obtain ⟨c1, r0, r1, r2, r3, r4, r5⟩ := RC.out W1 B1.out; have hs2 := Lib.hid (hs1.out rfl W1 B1.out.low); clear h1 h2 H0 HO0 hs1; simp only at r0 r1 r2 r3 r4 r5)
      | ((try with_reducible refine And.intro (wide_fn _) ?_); gi_at_call 31; refine (callsIn_wide.2 hs2.out).mono ?_; clear hs2 c1 r0 r1 r2 r3 r4 r5; rintro e W2 ⟨zk, zv, b, rfl, E2, h2⟩; have B2 := Lib.hid (B1.out.call HX.out h2.out); have J2 := Lib.hid (HJ.out _ _ _ J1.out h2.out); obtain ⟨-, r0, r1, r2, r3, r4, r5⟩ := RC.out W2 B2.out; clear h2 J1 B1; simp only at r0 r1 r2 r3 r4 r5))
    clear r0 r1 r2 r3 r4 r5
    gi_loopg [4, 5, 6] m.length (fun kx s4 s5 s6 wr => ∃ (i : Nat) (zk zv : ByteArray) (b : Bool), s4 = .string zk ∧ s5 = .string zv ∧ s6 = .bool b ∧ kx + i = m.length ∧ Hid (rk m[i]? = zk ∧ rvS m[i]? = Value.string zv ∧ m[i]?.isSome = b) ∧ Hid (RB w0 wa [Bt, Br] wr) ∧ Hid (J ((m.take i).map kvS) wr) ∧ Hid (∀ p ∈ m.take i, hs p.1 = true))
    case atStart => exact ⟨0, zk, zv, b, rfl, rfl, rfl, by omega, E2, B2, Lib.hid (by simpa using J2.out), Lib.hid (fun p hp => by simp at hp)⟩
    case round =>
      obtain ⟨i, zk, zv, b, rfl, rfl, rfl, hk, E, B, JJ, HH⟩ := hrel
      clear E2 B2 J2
      cases b with
      | false =>
        have F := Lib.hid (show (∃ ys, ys = (m.takeWhile (fun p => hs p.1)).map kvS ∧ J ys wr) from by
          have hlen : m.length ≤ i := by
            by_cases hlt : i < m.length
            · have := E.out.2.2
              rw [List.getElem?_eq_getElem hlt] at this; cases this
            · omega
          refine ⟨_, rfl, ?_⟩
          have h := JJ.out
          have h2 := HH.out
          rw [List.take_of_length_le hlen] at h h2
          rw [takeWhile_all h2]
          exact h)
        clear E JJ HH hnx HY
        gi_wp2_with (first | (with_reducible refine And.intro (wide_fn _) ?_) | (with_reducible refine And.intro (none_fn _) ?_))
        go_end0
        exact ⟨⟨_, rfl⟩, .inl F.out⟩
      | true =>
        obtain ⟨p, hp⟩ : ∃ p, m[i]? = some p := Option.isSome_iff_exists.1 E.out.2.2
        have hpk : p.1 = zk := by have := E.out.1; rw [hp] at this; exact this
        have hpv : p.2 = .string zv := by have := E.out.2.1; rw [hp] at this; exact this
        have HP := Lib.hid (And.intro hp (And.intro hpk hpv))
        clear hp hpk hpv E
        have hl2 := has2.out wr zk
        obtain ⟨c1, r0, r1, r2, r3, r4, r5⟩ := RC.out wr B.out
        simp only at r0 r1 r2 r3 r4 r5
        cases hb : hs zk with
        | false =>
          have F := Lib.hid (show ∀ W', Below wr.heap.size wr W' → (∃ ys, ys = (m.takeWhile (fun p => hs p.1)).map kvS ∧ J ys W') from fun W' hbw => by
            refine ⟨_, rfl, ?_⟩
            rw [takeWhile_cut HP.out.1 HH.out (by rw [HP.out.2.1]; exact hb)]
            exact HJ.out _ _ _ JJ.out hbw)
          rw [hb] at hl2
          have HL2 := Lib.hid hl2
          clear hl2 JJ HH hnx HY c1
          gi_wp2_with (first | ((try with_reducible refine And.intro (wide_fn _) ?_); gi_at_call 12; refine (callsIn_wide.2 HL2.out).mono ?_; rintro e W3 ⟨rfl, h3⟩) | (with_reducible refine And.intro (wide_fn _) ?_) | (with_reducible refine And.intro (none_fn _) ?_))
          go_end0
          exact ⟨⟨_, rfl⟩, .inl (F.out _ h3.out)⟩
        | true =>
          rw [hb] at hl2
          have HL2 := Lib.hid hl2
          have HH2 := Lib.hid (show ∀ p ∈ m.take (i + 1), hs p.1 = true from fun q hq => by
            rw [List.take_add_one, HP.out.1] at hq
            rcases List.mem_append.1 hq with hq | hq
            · exact HH.out q hq
            · obtain rfl : q = p := by simpa using hq
              rw [HP.out.2.1]; exact hb)
          have YY := Lib.hid (show ∀ W3, Below wr.heap.size wr W3 → YieldAt Fence.wide (n - 1) Try.prog l #[.string zk, .string zv] W3 fun e W' =>
              (e = .returned (.bool true) ∧ J ((m.take (i + 1)).map kvS) W' ∧ KB w0.heap.size [Bt, Br] W3 W') ∨ (e = .returned (.bool false) ∧ ∃ pre, pre <+: (m.takeWhile (fun p => hs p.1)).map kvS ∧ Jx pre W') from fun W3 hb3 => by
            have hlen : i + 1 ≤ (m.takeWhile (fun p => hs p.1)).length := takeWhile_le HH2.out (List.getElem?_eq_some_iff.1 HP.out.1).1
            have hi1 : (m.take (i + 1)).map kvS = (m.take i).map kvS ++ [(zk, zv)] := by
              rw [List.take_add_one, HP.out.1, List.map_append]
              simp [kvS_of HP.out.2.2, HP.out.2.1]
            have hpre : (m.take (i + 1)).map kvS <+: (m.takeWhile (fun p => hs p.1)).map kvS := (takeWhile_pre HH2.out (List.getElem?_eq_some_iff.1 HP.out.1).1).map kvS
            have hlt := (List.getElem?_eq_some_iff.1 HP.out.1).1
            refine (HY.out ((m.take i).map kvS) (zk, zv) W3 (HJ.out _ _ _ JJ.out hb3) (by simp; omega)).mono ?_
            rintro e W' (⟨h1, h2, h3⟩ | ⟨h1, h2⟩)
            · exact .inl ⟨h1, by rw [hi1]; exact h2, h3⟩
            · exact .inr ⟨h1, _, hpre, by rw [hi1]; exact h2⟩)
          clear hl2 JJ HH HY c1 hb
          gi_wp2_with (first | ((try with_reducible refine And.intro (wide_fn _) ?_); gi_at_call 12; refine (callsIn_wide.2 HL2.out).mono ?_; rintro e W3 ⟨rfl, h3⟩; obtain ⟨fn, tmps, assign, body, hy, hR⟩ := YY.out W3 h3.out; have B3 := Lib.hid (B.out.call HX.out h3.out); clear r0 r1 r2 r3 r4 r5 YY HL2) | (with_reducible refine And.intro (wide_fn _) ?_))
          refine hR.mono ?_
          clear hR
          rintro e W4 (⟨rfl, hJ4, hk4⟩ | ⟨rfl, pre, hpre, hJx⟩)
          · have B4 := Lib.hid (B3.out.kp hk4)
            have HN := hnx.out W4 B4.out.low i p HP.out.1
            rw [HP.out.2.1] at HN
            have HN4 := Lib.hid HN
            have J4 := Lib.hid hJ4
            have hlt : i < m.length := (List.getElem?_eq_some_iff.1 HP.out.1).1
            obtain ⟨c1, -⟩ := RC.out W4 B4.out
            clear HN hJ4 hk4 hnx HP
            gi_wp2_with ((try with_reducible refine And.intro (wide_fn _) ?_); gi_at_call 31; refine (callsIn_wide.2 HN4.out).mono ?_; clear HN4; rintro e W5 ⟨zk5, zv5, b5, rfl, E5, h5⟩)
            gi_roundg (gk - 1)
            case measure => omega
            case rel => exact ⟨i + 1, zk5, zv5, b5, rfl, rfl, rfl, by omega, E5, Lib.hid (B4.out.call HX.out h5.out), Lib.hid (HJ.out _ _ _ J4.out h5.out), HH2⟩
          · have F := Lib.hid (show (∃ pre, pre <+: (m.takeWhile (fun p => hs p.1)).map kvS ∧ Jx pre W4) from ⟨pre, hpre, hJx⟩)
            clear hJx hpre
            gi_wp2
            go_end0
            exact ⟨⟨_, rfl⟩, .inr F.out⟩


end Go.Proofs.Ytcidmaeclonilaa

/- cursor.All, Back: what they go along; All, Back themselves. -/
namespace Go.Proofs.Ytcidmaeclonilaa
open Go Go.RowKit

/-- a part of a list in order: from the first at which f holds, as long as both hold -/
theorem cut_filter {α : Type} {R : α → α → Prop} {f g : α → Bool} (hf : ∀ p q, R p q → f p = true → f q = true) (hg : ∀ p q, R p q → g q = true → g p = true) :
    ∀ {l : List α}, l.Pairwise R → (l.dropWhile (fun p => !f p)).takeWhile (fun p => f p && g p) = l.filter (fun p => f p && g p)
  | [], _ => rfl
  | p :: l, h => by
    have hp := (List.pairwise_cons.1 h).1
    have ih := cut_filter hf hg (List.pairwise_cons.1 h).2
    cases hfp : f p with
    | false =>
      rw [List.dropWhile_cons, if_pos (by simp [hfp]), ih, List.filter_cons, if_neg (by simp [hfp])]
    | true =>
      have all : ∀ q ∈ l, f q = true := fun q hq => hf p q (hp q hq) hfp
      have hd : ∀ (m : List α), (∀ q ∈ m, f q = true) → m.dropWhile (fun p => !f p) = m := fun m hm => by
        cases m with
        | nil => rfl
        | cons q m => rw [List.dropWhile_cons, if_neg (by simp [hm q (by simp)])]
      rw [hd l all] at ih
      rw [hd (p :: l) (fun q hq => by
        rcases List.mem_cons.1 hq with rfl | hq
        · exact hfp
        · exact all q hq)]
      cases hgp : g p with
      | true =>
        rw [List.takeWhile_cons, if_pos (by simp [hfp, hgp]), ih, List.filter_cons, if_pos (by simp [hfp, hgp])]
      | false =>
        rw [List.takeWhile_cons, if_neg (by simp [hgp]), List.filter_cons, if_neg (by simp [hgp])]
        exact (List.filter_eq_nil_iff.2 fun q hq => by
          have : g q = false := by
            cases hgq : g q with
            | false => rfl
            | true => have := hg p q (hp q hq) hgq; rw [hgp] at this; cases this
          simp [this]).symm
theorem lo_up {fr : ByteArray} {hf of : Bool} {a b : ByteArray} (h : klt a b = true) (ha : loB fr hf of a = true) : loB fr hf of b = true := by
  unfold loB at ha ⊢
  cases hf with
  | false => rfl
  | true =>
    simp only [Bool.not_true, Bool.false_or, Bool.not_eq_true', Bool.or_eq_false_iff] at ha ⊢
    have h1 : klt fr b = true := by
      rcases klt_tri fr a with h' | h' | h'
      · exact klt_trans h' h
      · rw [h']; exact h
      · rw [h'] at ha; cases ha.1
    refine ⟨klt_asymm h1, ?_⟩
    simp [klt_ne' h1]
theorem hi_down {to : ByteArray} {ht ot : Bool} {a b : ByteArray} (h : klt a b = true) (hb : hiB to ht ot b = true) : hiB to ht ot a = true := by
  unfold hiB at hb ⊢
  cases ht with
  | false => rfl
  | true =>
    simp only [Bool.not_true, Bool.false_or, Bool.or_eq_true, Bool.and_eq_true, decide_eq_true_eq] at hb ⊢
    rcases hb with hb | ⟨rfl, -⟩
    · exact .inl (klt_trans h hb)
    · exact .inl h
theorem from_lo {fr : ByteArray} {of : Bool} (p : KV) : fromB fr of p = loB fr true of p.1 := by
  unfold fromB loB
  rcases klt_tri fr p.1 with h | h | h
  · simp [h, klt_asymm h, klt_ne' h]
  · subst h; simp [klt_irrefl]
  · simp [h, klt_asymm h, klt_ne h]
theorem to_hi {to : ByteArray} {ot : Bool} (p : KV) : toB to ot p = hiB to true ot p.1 := by
  unfold toB hiB; simp

/-- the keys of a range -/
def inR (fr to : ByteArray) (hf ht of ot : Bool) (l : List KV) : List KV := l.filter fun p => hasB fr to hf ht of ot p.1
def goF (fr : ByteArray) (hf of : Bool) (l : List KV) : List KV := l.dropWhile fun p => !loB fr hf of p.1
def goB (to : ByteArray) (ht ot : Bool) (l : List KV) : List KV := l.reverse.dropWhile fun p => !hiB to ht ot p.1
theorem goF_in {l : List KV} (hs : Srt l) (fr to : ByteArray) (hf ht of ot : Bool) : (goF fr hf of l).takeWhile (fun p => hasB fr to hf ht of ot p.1) = inR fr to hf ht of ot l :=
  cut_filter (f := fun p : KV => loB fr hf of p.1) (g := fun p => hiB to ht ot p.1) (fun _ _ h hp => lo_up h hp) (fun _ _ h hq => hi_down h hq) hs
theorem goB_in {l : List KV} (hs : Srt l) (fr to : ByteArray) (hf ht of ot : Bool) : (goB to ht ot l).takeWhile (fun p => hasB fr to hf ht of ot p.1) = (inR fr to hf ht of ot l).reverse := by
  have h := cut_filter (R := fun p q : KV => klt q.1 p.1 = true) (f := fun p : KV => hiB to ht ot p.1) (g := fun p => loB fr hf of p.1) (fun _ _ h hp => hi_down h hp) (fun _ _ h hq => lo_up h hq) (l := l.reverse) (List.pairwise_reverse.2 hs)
  have e : (fun p : KV => hiB to ht ot p.1 && loB fr hf of p.1) = fun p => hasB fr to hf ht of ot p.1 := funext fun p => by unfold hasB; rw [Bool.and_comm]
  rw [e] at h
  unfold goB inR
  rw [h, List.filter_reverse]

theorem dropWhile_drop {α : Type} (f : α → Bool) : ∀ l : List α, ∃ k, l.dropWhile f = l.drop k
  | [] => ⟨0, rfl⟩
  | x :: l => by
    cases h : f x with
    | true =>
      obtain ⟨k, hk⟩ := dropWhile_drop f l
      exact ⟨k + 1, by rw [List.dropWhile_cons, if_pos h, hk, List.drop_succ_cons]⟩
    | false => exact ⟨0, by rw [List.dropWhile_cons, if_neg (by simp [h])]; rfl⟩
theorem find_drop {α : Type} (f : α → Bool) : ∀ l : List α, l.find? f = (l.dropWhile (fun p => !f p))[0]?
  | [] => rfl
  | x :: l => by
    cases h : f x with
    | true => rw [List.find?_cons_of_pos h, List.dropWhile_cons, if_neg (by simp [h])]; rfl
    | false => rw [List.find?_cons_of_neg (by simp [h]), List.dropWhile_cons, if_pos (by simp [h])]; exact find_drop f l
theorem near_of {w0 W W' : World} {a : Nat} {l : List KV} {o : Option KV} {e : Ending} (h : ∃ (zk : ByteArray) (zv : ByteArray) (b : Bool), e = .returned (.tuple #[.string zk, Value.string zv, .bool b]) ∧ Hid (rk o = zk ∧ rvS o = Value.string zv ∧ o.isSome = b) ∧ Hid (Below W.heap.size W W' ∧ TOwnS w0 W' a l)) : NearE W o e W' := by
  obtain ⟨zk, zv, b, h1, h2, h3⟩ := h
  exact ⟨zk, zv, b, h1, h2, Lib.hid h3.out.1⟩
theorem stepsF {w0 w : World} {a : Nat} {l : List KV} (H : TOwnS w0 w a l) (fr : ByteArray) (hf of : Bool) : Steps w a (goF fr hf of l) 28 29 hf fr of := by
  refine ⟨fun W hb => ⟨l[0]?, fun h => ?_, (first_ownS (H.below hb)).mono fun e W' h => near_of h⟩, fun h W hb => ?_, fun W hb i p hp => ?_⟩
  · subst h
    unfold goF loB
    cases l <;> simp
  · subst h
    have := (from_ownS (H.below hb) fr of).mono fun e W' h => near_of h
    refine this.mono fun e W' h => ?_
    have e1 : fromL fr of l = (goF fr true of l)[0]? := by
      unfold fromL goF
      rw [find_drop]
      congr 2
      funext p
      rw [from_lo]
    rwa [e1] at h
  · have := (from_ownS (H.below hb) p.1 true).mono fun e W' h => near_of h
    obtain ⟨k, hk⟩ := dropWhile_drop (fun p : KV => !loB fr hf of p.1) l
    have hk' : goF fr hf of l = l.drop k := hk
    rw [hk'] at hp ⊢
    rw [List.getElem?_drop] at hp ⊢
    rw [from_next H.srt hp] at this
    rwa [← Nat.add_assoc]
theorem stepsB {w0 w : World} {a : Nat} {l : List KV} (H : TOwnS w0 w a l) (to : ByteArray) (ht ot : Bool) : Steps w a (goB to ht ot l) 30 31 ht to ot := by
  refine ⟨fun W hb => ⟨l[l.length - 1]?, fun h => ?_, (last_ownS (H.below hb)).mono fun e W' h => near_of h⟩, fun h W hb => ?_, fun W hb i p hp => ?_⟩
  · subst h
    unfold goB hiB
    rw [← List.getLast?_eq_getElem?, ← List.head?_reverse, List.head?_eq_getElem?]
    cases l.reverse <;> simp
  · subst h
    have := (to_ownS (H.below hb) to ot).mono fun e W' h => near_of h
    refine this.mono fun e W' h => ?_
    have e1 : toLst to ot l = (goB to true ot l)[0]? := by
      unfold toLst goB
      rw [find_drop]
      congr 2
    rwa [e1] at h
  · have := (to_ownS (H.below hb) p.1 true).mono fun e W' h => near_of h
    obtain ⟨k, hk⟩ := dropWhile_drop (fun p : KV => !hiB to ht ot p.1) l.reverse
    have hk' : goB to ht ot l = l.reverse.drop k := hk
    rw [hk'] at hp ⊢
    rw [List.getElem?_drop] at hp ⊢
    have hlt : k + i < l.length := by
      have := (List.getElem?_eq_some_iff.1 hp).1
      simpa using this
    rw [List.getElem?_reverse hlt] at hp
    rw [to_next H.srt hp] at this
    refine this.mono fun e W' h => ?_
    have e2 : l.reverse[k + (i + 1)]? = if l.length - 1 - (k + i) = 0 then none else l[l.length - 1 - (k + i) - 1]? := by
      by_cases h0 : l.length - 1 - (k + i) = 0
      · rw [if_pos h0, List.getElem?_eq_none (by simp; omega)]
      · rw [if_neg h0, List.getElem?_reverse (by omega)]
        congr 1
    rwa [e2]

/-- what a loop over the iterator is handed -/
def encP (x : ByteArray × ByteArray) : Array Value := #[.string x.1, .string x.2]
theorem all80_stops (n : Nat) (hn : 1 ≤ n) {w0 w wa : World} {a : Nat} {l : List KV} (H : TOwnS w0 w a l) (h01 : Below w.heap.size w wa) (Bt Br : Nat) (fr to : ByteArray) (hf ht of ot : Bool) (hBt : Bt < wa.heap.size) (hBr : Br < wa.heap.size)
    (ct : wa.cell? ⟨Bt, 0, none⟩ = some (.pointer (some ⟨a, 0, none⟩))) (cr : RngAt wa Br ⟨fr, to, hf, ht, of, ot⟩) :
    SeqStopsK Fence.wide n Try.prog 80 #[.pointer (some ⟨Bt, 0, none⟩), .pointer (some ⟨Br, 0, none⟩)] encP (KB w.heap.size [Bt, Br]) (fun xs => xs = (inR fr to hf ht of ot l).map kvS) (fun pre => pre <+: (inR fr to hf ht of ot l).map kvS) (inR fr to hf ht of ot l).length wa := fun lp J Jx W hW hJ _ hY h0 => by
  have e := goF_in H.srt fr to hf ht of ot
  have := seqF_in n hn lp a Bt Br fr to hf ht of ot (hasB fr to hf ht of ot) (goF fr hf of l) J Jx w wa W h01 hW hBt hBr ct cr (fun w1 key => has12 w1 fr to key hf ht of ot)
    (fun p hp => H.isV p ((List.dropWhile_sublist _).subset hp)) (stepsF H fr hf of) hJ (by rw [e]; exact hY) h0
  rw [e] at this
  exact this
theorem back81_stops (n : Nat) (hn : 1 ≤ n) {w0 w wa : World} {a : Nat} {l : List KV} (H : TOwnS w0 w a l) (h01 : Below w.heap.size w wa) (Bt Br : Nat) (fr to : ByteArray) (hf ht of ot : Bool) (hBt : Bt < wa.heap.size) (hBr : Br < wa.heap.size)
    (ct : wa.cell? ⟨Bt, 0, none⟩ = some (.pointer (some ⟨a, 0, none⟩))) (cr : RngAt wa Br ⟨fr, to, hf, ht, of, ot⟩) :
    SeqStopsK Fence.wide n Try.prog 81 #[.pointer (some ⟨Bt, 0, none⟩), .pointer (some ⟨Br, 0, none⟩)] encP (KB w.heap.size [Bt, Br]) (fun xs => xs = (inR fr to hf ht of ot l).reverse.map kvS) (fun pre => pre <+: (inR fr to hf ht of ot l).reverse.map kvS) (inR fr to hf ht of ot l).length wa := fun lp J Jx W hW hJ _ hY h0 => by
  have e := goB_in H.srt fr to hf ht of ot
  have := seqB_in n hn lp a Bt Br fr to hf ht of ot (hasB fr to hf ht of ot) (goB to ht ot l) J Jx w wa W h01 hW hBt hBr ct cr (fun w1 key => has12 w1 fr to key hf ht of ot)
    (fun p hp => H.isV p (by have := (List.dropWhile_sublist _).subset hp; simpa using this)) (stepsB H to ht ot) hJ (by rw [e, List.length_reverse]; exact hY) h0
  rw [e] at this
  exact this

set_option maxHeartbeats 1000000 in
theorem all51 (w : World) (p : Option Addr) (fr to : ByteArray) (hf ht of ot : Bool) :
    Calls Try.prog 51 #[.pointer p, .agg #[.string fr, .string to, .bool hf, .bool ht, .bool of, .bool ot]] w fun e w' => e = .returned (.func (.func 80) #[] #[.pointer (some ⟨w.heap.size, 0, none⟩), .pointer (some ⟨w.heap.size + 1, 0, none⟩)]) ∧
      w' = (w.alloc (.cells #[.pointer p] 38)).alloc (.cells #[.string fr, .string to, .bool hf, .bool ht, .bool of, .bool ot] 24) := by
  go_enter Try.func51, Try.ntmps51
  go_wp2
  go_ret
  exact ⟨rfl, rfl⟩
set_option maxHeartbeats 1000000 in
theorem back52 (w : World) (p : Option Addr) (fr to : ByteArray) (hf ht of ot : Bool) :
    Calls Try.prog 52 #[.pointer p, .agg #[.string fr, .string to, .bool hf, .bool ht, .bool of, .bool ot]] w fun e w' => e = .returned (.func (.func 81) #[] #[.pointer (some ⟨w.heap.size, 0, none⟩), .pointer (some ⟨w.heap.size + 1, 0, none⟩)]) ∧
      w' = (w.alloc (.cells #[.pointer p] 38)).alloc (.cells #[.string fr, .string to, .bool hf, .bool ht, .bool of, .bool ot] 24) := by
  go_enter Try.func52, Try.ntmps52
  go_wp2
  go_ret
  exact ⟨rfl, rfl⟩

end Go.Proofs.Ytcidmaeclonilaa
