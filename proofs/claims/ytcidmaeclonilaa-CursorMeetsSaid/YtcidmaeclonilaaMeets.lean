/- barbicanlaw13.CursorMeets: the walk. -/
import Derived.Test.YtcidmaeclonilaaSure13
import Derived.Test.YtcidmaeclonilaaCurLaw
import Derived.BigRegion
import Derived.Deep.CutRange
namespace Go.Proofs.Ytcidmaeclonilaa
open Go Go.RowKit

/-- the two ranges lie in blocks p and q, the first argument's box in block n -/
structure MS (w : World) (A C1 C2 : Array Value) (p q : Nat) (wk : World) : Prop where
  box : Blk wk w.heap.size 23 A
  one : Blk wk p 24 C1
  two : Blk wk q 24 C2
  below : Below w.heap.size w wk
theorem MS.go {w wk wk' : World} {A C1 C2 : Array Value} {p q : Nat} (h : MS w A C1 C2 p q wk) (hb : Below wk.heap.size wk wk') : MS w A C1 C2 p q wk' :=
  ⟨(hb.block _ h.box.lt).trans h.box, (hb.block _ h.one.lt).trans h.one, (hb.block _ h.two.lt).trans h.two, h.below.trans (hb.mono h.below.size)⟩

theorem ms_start (w : World) (A B C D : Array Value) : Blk (((((w.alloc (.cells A 23)).alloc (.cells B 23)).alloc (.cells C 24)).alloc (.cells D 24)).drew) w.heap.size 23 A ∧
    Blk (((((w.alloc (.cells A 23)).alloc (.cells B 23)).alloc (.cells C 24)).alloc (.cells D 24)).drew) (w.heap.size + 1 + 1) 24 C ∧
    Blk (((((w.alloc (.cells A 23)).alloc (.cells B 23)).alloc (.cells C 24)).alloc (.cells D 24)).drew) (w.heap.size + 1 + 1 + 1) 24 D ∧
    Below w.heap.size w (((((w.alloc (.cells A 23)).alloc (.cells B 23)).alloc (.cells C 24)).alloc (.cells D 24)).drew) := by
  have b1 := Blk.new w 23 A
  have b2 := Blk.new ((w.alloc (.cells A 23)).alloc (.cells B 23)) 24 C
  have b3 := Blk.new (((w.alloc (.cells A 23)).alloc (.cells B 23)).alloc (.cells C 24)) 24 D
  simp only [World.size_alloc] at b2 b3
  exact ⟨(((b1.alloc _).alloc _).alloc _).drew, (b2.alloc _).drew, b3.drew, (by go_grown)⟩
theorem below_drewN_left {B n : Nat} {w w' : World} (h : Below B (w.drewN n) w') : Below B w w' := ⟨h.os, h.tape, h.output, h.size, h.block⟩
theorem begins_cases {s key : ByteArray} {b : Bool} (h : b = s.data.toList.isPrefixOf key.data.toList) :
    (s.size ≤ key.size ∧ ((key.extract 0 s.size).toList == s.toList) = b) ∨ (¬ s.size ≤ key.size ∧ b = false) := by
  by_cases hs : s.size ≤ key.size
  · refine .inl ⟨hs, ?_⟩
    subst h
    rw [ByteArray.toList_eq, ByteArray.toList_eq, Bool.eq_iff_iff]
    have he : (key.extract 0 s.size).data.toList = key.data.toList.take s.data.toList.length := by
      rw [ByteArray.data_extract, Array.toList_extract]
      simp [List.extract]
    rw [he, beq_iff_eq, List.isPrefixOf_iff_prefix, List.prefix_iff_eq_take]
    exact eq_comm
  · refine .inr ⟨hs, ?_⟩
    subst h
    rw [Bool.eq_false_iff, ne_eq, List.isPrefixOf_iff_prefix]
    intro hp
    have := hp.length_le
    simp at this
    exact hs this
/-- the six cells of a range -/
theorem six {w : World} {g : Nat} {t : TypeId} {a b c d e f : Value} (h : Blk w g t #[a, b, c, d, e, f]) : w.cell? ⟨g, 0, none⟩ = some a ∧ w.cell? ⟨g, 1, none⟩ = some b ∧ w.cell? ⟨g, 2, none⟩ = some c ∧ w.cell? ⟨g, 3, none⟩ = some d ∧ w.cell? ⟨g, 4, none⟩ = some e ∧ w.cell? ⟨g, 5, none⟩ = some f :=
  ⟨h.cell 0, h.cell 1, h.cell 2, h.cell 3, h.cell 4, h.cell 5⟩

set_option maxRecDepth 100000 in
set_option maxHeartbeats 8000000 in
theorem meets4 (w : World) (f1 t1 : ByteArray) (hf1 ht1 of1 ot1 : Bool) (f2 t2 : ByteArray) (hf2 ht2 of2 ot2 : Bool) (key : ByteArray) (hs : f1.size ≤ 9223372036854775807) :
    Calls Try.prog 4 #[.agg #[.string f1, .string t1, .bool hf1, .bool ht1, .bool of1, .bool ot1], .agg #[.string f2, .string t2, .bool hf2, .bool ht2, .bool of2, .bool ot2], .string key] w fun e w' => e = .returned (.bool true) ∧ Hid (Below w.heap.size w w') := by
  obtain ⟨b1, hb1⟩ : ∃ b, b = hasB f1 t1 hf1 ht1 of1 ot1 key := ⟨_, rfl⟩
  obtain ⟨b2, hb2⟩ : ∃ b, b = hasB f2 t2 hf2 ht2 of2 ot2 key := ⟨_, rfl⟩
  obtain ⟨ee, hee⟩ : ∃ b, b = emptyB f1 t1 hf1 ht1 of1 ot1 := ⟨_, rfl⟩
  obtain ⟨bg, hbg⟩ : ∃ b, b = f1.data.toList.isPrefixOf key.data.toList := ⟨_, rfl⟩
  have hhas1 := Lib.hid (fun (w1 : World) => has12 w1 f1 t1 key hf1 ht1 of1 ot1)
  have hhas2 := Lib.hid (fun (w1 : World) => has12 w1 f2 t2 key hf2 ht2 of2 ot2)
  have hempty := Lib.hid (fun (w1 : World) => empty14 w1 f1 t1 hf1 ht1 of1 ot1)
  rw [← hb1] at hhas1
  rw [← hb2] at hhas2
  rw [← hee] at hempty
  have hmeet1 := Lib.hid (fun (w1 : World) => show Calls Try.prog 18 #[.agg #[.string f1, .string t1, .bool hf1, .bool ht1, .bool of1, .bool ot1], .agg #[.string f2, .string t2, .bool hf2, .bool ht2, .bool of2, .bool ot2]] w1 fun e w' =>
      ∃ (f t : ByteArray) (hf ht of ot : Bool), e = .returned (.agg #[.string f, .string t, .bool hf, .bool ht, .bool of, .bool ot]) ∧ Hid (∀ w2, Calls Try.prog 12 #[.agg #[.string f, .string t, .bool hf, .bool ht, .bool of, .bool ot], .string key] w2 fun e w' => e = .returned (.bool (b1 && b2)) ∧ Hid (Below w2.heap.size w2 w')) ∧ Hid (Below w1.heap.size w1 w') from
    (meet18 w1 _ _ _ _ _ _ _ _ _ _ _ _).mono fun e w' ⟨f, t, hf, ht, of, ot, he, h1, h2⟩ => ⟨f, t, hf, ht, of, ot, he, Lib.hid fun w2 => by
      have := has12 w2 f t key hf ht of ot
      rwa [has_meet h1.out.1 h1.out.2, ← hb1, ← hb2] at this, h2⟩)
  have hmeet2 := Lib.hid (fun (w1 : World) => show Calls Try.prog 18 #[.agg #[.string f2, .string t2, .bool hf2, .bool ht2, .bool of2, .bool ot2], .agg #[.string f1, .string t1, .bool hf1, .bool ht1, .bool of1, .bool ot1]] w1 fun e w' =>
      ∃ (f t : ByteArray) (hf ht of ot : Bool), e = .returned (.agg #[.string f, .string t, .bool hf, .bool ht, .bool of, .bool ot]) ∧ Hid (∀ w2, Calls Try.prog 12 #[.agg #[.string f, .string t, .bool hf, .bool ht, .bool of, .bool ot], .string key] w2 fun e w' => e = .returned (.bool (b2 && b1)) ∧ Hid (Below w2.heap.size w2 w')) ∧ Hid (Below w1.heap.size w1 w') from
    (meet18 w1 _ _ _ _ _ _ _ _ _ _ _ _).mono fun e w' ⟨f, t, hf, ht, of, ot, he, h1, h2⟩ => ⟨f, t, hf, ht, of, ot, he, Lib.hid fun w2 => by
      have := has12 w2 f t key hf ht of ot
      rwa [has_meet h1.out.1 h1.out.2, ← hb1, ← hb2] at this, h2⟩)
  have hone := Lib.hid (fun (w1 : World) => one22 w1 key)
  have hhone := Lib.hid (fun (w1 : World) => has12 w1 key key key true true false false)
  rw [one_has] at hhone
  have hpre := Lib.hid (fun (w1 : World) => show Calls Try.prog 20 #[.string f1] w1 fun e w' =>
      ∃ (t : List UInt8) (ok : Bool), e = .returned (.agg #[.string f1, .string ⟨t.toArray⟩, .bool true, .bool ok, .bool false, .bool ok]) ∧ Hid (∀ w2, Calls Try.prog 12 #[.agg #[.string f1, .string ⟨t.toArray⟩, .bool true, .bool ok, .bool false, .bool ok], .string key] w2 fun e w' => e = .returned (.bool bg) ∧ Hid (Below w2.heap.size w2 w')) ∧ Hid (Below w1.heap.size w1 w') from
    (prefix20 w1 f1 hs).mono fun e w' ⟨t, ok, he, h1, h2⟩ => ⟨t, ok, he, Lib.hid fun w2 => by
      have := has12 w2 f1 ⟨t.toArray⟩ key true ok false ok
      rwa [prefix_has h1.out, ← hbg] at this, h2⟩)
  have hsure := Lib.hid sure23
  have hexc : ee = true → b1 = false := fun h => by rw [hb1]; exact empty_has (hee.symm.trans h) key
  have HBG := Lib.hid hbg
  have HS := Lib.hid hs
  clear hs hb1 hb2 hee hbg
  go_enter Try.func4, Try.ntmps4
  go_upto_region 1 with fail
  go_cut [7, 8] from 11 (fun s7 s8 wc => ∃ (p q : Nat), s7 = .pointer (some ⟨p, 0, none⟩) ∧ s8 = .pointer (some ⟨q, 0, none⟩) ∧ Hid (MS w #[.string f1, .string t1, .bool hf1, .bool ht1, .bool of1, .bool ot1] #[.string f1, .string t1, .bool hf1, .bool ht1, .bool of1, .bool ot1] #[.string f2, .string t2, .bool hf2, .bool ht2, .bool of2, .bool ot2] p q wc))
  case first =>
    go_region
    · go_wp2_with fail
      go_meet
      case rel =>
        obtain ⟨x1, x2, x3, x4⟩ := ms_start w #[.string f1, .string t1, .bool hf1, .bool ht1, .bool of1, .bool ot1] #[.string f2, .string t2, .bool hf2, .bool ht2, .bool of2, .bool ot2] #[.string f1, .string t1, .bool hf1, .bool ht1, .bool of1, .bool ot1] #[.string f2, .string t2, .bool hf2, .bool ht2, .bool of2, .bool ot2]
        exact ⟨_, _, rfl, rfl, Lib.hid ⟨x1, x2, x3, x4⟩⟩
    · go_wp2_with fail
      go_meet
      case rel =>
        obtain ⟨x1, x2, x3, x4⟩ := ms_start w #[.string f1, .string t1, .bool hf1, .bool ht1, .bool of1, .bool ot1] #[.string f2, .string t2, .bool hf2, .bool ht2, .bool of2, .bool ot2] #[.string f2, .string t2, .bool hf2, .bool ht2, .bool of2, .bool ot2] #[.string f1, .string t1, .bool hf1, .bool ht1, .bool of1, .bool ot1]
        exact ⟨_, _, rfl, rfl, Lib.hid ⟨x1, x3, x2, x4⟩⟩
  case rest =>
    obtain ⟨p, q, rfl, rfl, I⟩ := hcut
    cases b1 with
    | false =>
      cases ee with
      | true =>
        obtain ⟨a0, a1, a2, a3, a4, a5⟩ := six I.out.one
        obtain ⟨d0, d1, d2, d3, d4, d5⟩ := six I.out.two
        obtain ⟨x0, x1, x2, x3, x4, x5⟩ := six I.out.box
        go_wp2_with fail
        refine (hhas1.out _).mono ?_
        rintro e w' ⟨rfl, hb⟩
        have I' := Lib.hid (I.out.go hb.out)
        clear a0 a1 a2 a3 a4 a5 d0 d1 d2 d3 d4 d5 x0 x1 x2 x3 x4 x5 I hb
        have I := I'
        clear I'
        obtain ⟨a0, a1, a2, a3, a4, a5⟩ := six I.out.one
        obtain ⟨d0, d1, d2, d3, d4, d5⟩ := six I.out.two
        obtain ⟨x0, x1, x2, x3, x4, x5⟩ := six I.out.box
        go_wp2_with fail
        refine (hmeet1.out _).mono ?_
        rintro e w' ⟨f3, t3, hf3, ht3, of3, ot3, rfl, hm, hb⟩
        have I' := Lib.hid (I.out.go hb.out)
        clear a0 a1 a2 a3 a4 a5 d0 d1 d2 d3 d4 d5 x0 x1 x2 x3 x4 x5 I hb
        have I := I'
        clear I'
        obtain ⟨a0, a1, a2, a3, a4, a5⟩ := six I.out.one
        obtain ⟨d0, d1, d2, d3, d4, d5⟩ := six I.out.two
        obtain ⟨x0, x1, x2, x3, x4, x5⟩ := six I.out.box
        go_wp2_with fail
        refine (hm.out _).mono ?_
        rintro e w' ⟨rfl, hb⟩
        have I' := Lib.hid (I.out.go hb.out)
        clear a0 a1 a2 a3 a4 a5 d0 d1 d2 d3 d4 d5 x0 x1 x2 x3 x4 x5 I hb
        have I := I'
        clear I'
        obtain ⟨a0, a1, a2, a3, a4, a5⟩ := six I.out.one
        obtain ⟨d0, d1, d2, d3, d4, d5⟩ := six I.out.two
        obtain ⟨x0, x1, x2, x3, x4, x5⟩ := six I.out.box
        go_wp2_with fail
        refine (hmeet2.out _).mono ?_
        rintro e w' ⟨f4, t4, hf4, ht4, of4, ot4, rfl, hn, hb⟩
        have I' := Lib.hid (I.out.go hb.out)
        clear a0 a1 a2 a3 a4 a5 d0 d1 d2 d3 d4 d5 x0 x1 x2 x3 x4 x5 I hb
        have I := I'
        clear I'
        obtain ⟨a0, a1, a2, a3, a4, a5⟩ := six I.out.one
        obtain ⟨d0, d1, d2, d3, d4, d5⟩ := six I.out.two
        obtain ⟨x0, x1, x2, x3, x4, x5⟩ := six I.out.box
        go_wp2_with fail
        refine (hn.out _).mono ?_
        rintro e w' ⟨rfl, hb⟩
        have I' := Lib.hid (I.out.go hb.out)
        clear a0 a1 a2 a3 a4 a5 d0 d1 d2 d3 d4 d5 x0 x1 x2 x3 x4 x5 I hb
        have I := I'
        clear I'
        obtain ⟨a0, a1, a2, a3, a4, a5⟩ := six I.out.one
        obtain ⟨d0, d1, d2, d3, d4, d5⟩ := six I.out.two
        obtain ⟨x0, x1, x2, x3, x4, x5⟩ := six I.out.box
        go_wp2_with fail
        refine (hempty.out _).mono ?_
        rintro e w' ⟨rfl, hb⟩
        have I' := Lib.hid (I.out.go hb.out)
        clear a0 a1 a2 a3 a4 a5 d0 d1 d2 d3 d4 d5 x0 x1 x2 x3 x4 x5 I hb
        have I := I'
        clear I'
        obtain ⟨a0, a1, a2, a3, a4, a5⟩ := six I.out.one
        obtain ⟨d0, d1, d2, d3, d4, d5⟩ := six I.out.two
        obtain ⟨x0, x1, x2, x3, x4, x5⟩ := six I.out.box
        go_wp2_with fail
        refine (hhas1.out _).mono ?_
        rintro e w' ⟨rfl, hb⟩
        have I' := Lib.hid (I.out.go hb.out)
        clear a0 a1 a2 a3 a4 a5 d0 d1 d2 d3 d4 d5 x0 x1 x2 x3 x4 x5 I hb
        have I := I'
        clear I'
        obtain ⟨a0, a1, a2, a3, a4, a5⟩ := six I.out.one
        obtain ⟨d0, d1, d2, d3, d4, d5⟩ := six I.out.two
        obtain ⟨x0, x1, x2, x3, x4, x5⟩ := six I.out.box
        go_wp2_with fail
        refine (hone.out _).mono ?_
        rintro e w' ⟨rfl, hb⟩
        have I' := Lib.hid (I.out.go hb.out)
        clear a0 a1 a2 a3 a4 a5 d0 d1 d2 d3 d4 d5 x0 x1 x2 x3 x4 x5 I hb
        have I := I'
        clear I'
        obtain ⟨a0, a1, a2, a3, a4, a5⟩ := six I.out.one
        obtain ⟨d0, d1, d2, d3, d4, d5⟩ := six I.out.two
        obtain ⟨x0, x1, x2, x3, x4, x5⟩ := six I.out.box
        go_wp2_with fail
        refine (hhone.out _).mono ?_
        rintro e w' ⟨rfl, hb⟩
        have I' := Lib.hid (I.out.go hb.out)
        clear a0 a1 a2 a3 a4 a5 d0 d1 d2 d3 d4 d5 x0 x1 x2 x3 x4 x5 I hb
        have I := I'
        clear I'
        obtain ⟨a0, a1, a2, a3, a4, a5⟩ := six I.out.one
        obtain ⟨d0, d1, d2, d3, d4, d5⟩ := six I.out.two
        obtain ⟨x0, x1, x2, x3, x4, x5⟩ := six I.out.box
        go_wp2_with fail
        rcases begins_cases HBG.out with ⟨hge, hx⟩ | ⟨hge, rfl⟩
        · have hgz : (f1.size : Int) ≤ (key.size : Int) := by omega
          cases bg
          all_goals
            go_quiet (fail)
            go_wp2_with fail
            refine (hpre.out _).mono ?_
            rintro e w' ⟨t5, ok5, rfl, hp, hb⟩
            have I' := Lib.hid (I.out.go (below_drewN_left hb.out))
            clear a0 a1 a2 a3 a4 a5 d0 d1 d2 d3 d4 d5 x0 x1 x2 x3 x4 x5 I hb
            have I := I'
            clear I'
            go_wp2_with fail
            refine (hp.out _).mono ?_
            rintro e w' ⟨rfl, hb⟩
            have I' := Lib.hid (I.out.go hb.out)
            clear I hb
            have I := I'
            clear I'
            go_wp2_with fail
            refine (hsure.out _).mono ?_
            rintro e w' ⟨rfl, hb⟩
            have I' := Lib.hid (I.out.go hb.out)
            clear I hb
            go_wp2
            go_ret
            exact ⟨rfl, Lib.hid I'.out.below⟩
        · have hgz : ¬ ((f1.size : Int) ≤ (key.size : Int)) := by omega
          go_quiet (fail)
          go_wp2_with fail
          refine (hpre.out _).mono ?_
          rintro e w' ⟨t5, ok5, rfl, hp, hb⟩
          have I' := Lib.hid (I.out.go (below_drewN_left hb.out))
          clear a0 a1 a2 a3 a4 a5 d0 d1 d2 d3 d4 d5 x0 x1 x2 x3 x4 x5 I hb
          have I := I'
          clear I'
          go_wp2_with fail
          refine (hp.out _).mono ?_
          rintro e w' ⟨rfl, hb⟩
          have I' := Lib.hid (I.out.go hb.out)
          clear I hb
          have I := I'
          clear I'
          go_wp2_with fail
          refine (hsure.out _).mono ?_
          rintro e w' ⟨rfl, hb⟩
          have I' := Lib.hid (I.out.go hb.out)
          clear I hb
          go_wp2
          go_ret
          exact ⟨rfl, Lib.hid I'.out.below⟩
      | false =>
        obtain ⟨a0, a1, a2, a3, a4, a5⟩ := six I.out.one
        obtain ⟨d0, d1, d2, d3, d4, d5⟩ := six I.out.two
        obtain ⟨x0, x1, x2, x3, x4, x5⟩ := six I.out.box
        go_wp2_with fail
        refine (hhas1.out _).mono ?_
        rintro e w' ⟨rfl, hb⟩
        have I' := Lib.hid (I.out.go hb.out)
        clear a0 a1 a2 a3 a4 a5 d0 d1 d2 d3 d4 d5 x0 x1 x2 x3 x4 x5 I hb
        have I := I'
        clear I'
        obtain ⟨a0, a1, a2, a3, a4, a5⟩ := six I.out.one
        obtain ⟨d0, d1, d2, d3, d4, d5⟩ := six I.out.two
        obtain ⟨x0, x1, x2, x3, x4, x5⟩ := six I.out.box
        go_wp2_with fail
        refine (hmeet1.out _).mono ?_
        rintro e w' ⟨f3, t3, hf3, ht3, of3, ot3, rfl, hm, hb⟩
        have I' := Lib.hid (I.out.go hb.out)
        clear a0 a1 a2 a3 a4 a5 d0 d1 d2 d3 d4 d5 x0 x1 x2 x3 x4 x5 I hb
        have I := I'
        clear I'
        obtain ⟨a0, a1, a2, a3, a4, a5⟩ := six I.out.one
        obtain ⟨d0, d1, d2, d3, d4, d5⟩ := six I.out.two
        obtain ⟨x0, x1, x2, x3, x4, x5⟩ := six I.out.box
        go_wp2_with fail
        refine (hm.out _).mono ?_
        rintro e w' ⟨rfl, hb⟩
        have I' := Lib.hid (I.out.go hb.out)
        clear a0 a1 a2 a3 a4 a5 d0 d1 d2 d3 d4 d5 x0 x1 x2 x3 x4 x5 I hb
        have I := I'
        clear I'
        obtain ⟨a0, a1, a2, a3, a4, a5⟩ := six I.out.one
        obtain ⟨d0, d1, d2, d3, d4, d5⟩ := six I.out.two
        obtain ⟨x0, x1, x2, x3, x4, x5⟩ := six I.out.box
        go_wp2_with fail
        refine (hmeet2.out _).mono ?_
        rintro e w' ⟨f4, t4, hf4, ht4, of4, ot4, rfl, hn, hb⟩
        have I' := Lib.hid (I.out.go hb.out)
        clear a0 a1 a2 a3 a4 a5 d0 d1 d2 d3 d4 d5 x0 x1 x2 x3 x4 x5 I hb
        have I := I'
        clear I'
        obtain ⟨a0, a1, a2, a3, a4, a5⟩ := six I.out.one
        obtain ⟨d0, d1, d2, d3, d4, d5⟩ := six I.out.two
        obtain ⟨x0, x1, x2, x3, x4, x5⟩ := six I.out.box
        go_wp2_with fail
        refine (hn.out _).mono ?_
        rintro e w' ⟨rfl, hb⟩
        have I' := Lib.hid (I.out.go hb.out)
        clear a0 a1 a2 a3 a4 a5 d0 d1 d2 d3 d4 d5 x0 x1 x2 x3 x4 x5 I hb
        have I := I'
        clear I'
        obtain ⟨a0, a1, a2, a3, a4, a5⟩ := six I.out.one
        obtain ⟨d0, d1, d2, d3, d4, d5⟩ := six I.out.two
        obtain ⟨x0, x1, x2, x3, x4, x5⟩ := six I.out.box
        go_wp2_with fail
        refine (hempty.out _).mono ?_
        rintro e w' ⟨rfl, hb⟩
        have I' := Lib.hid (I.out.go hb.out)
        clear a0 a1 a2 a3 a4 a5 d0 d1 d2 d3 d4 d5 x0 x1 x2 x3 x4 x5 I hb
        have I := I'
        clear I'
        obtain ⟨a0, a1, a2, a3, a4, a5⟩ := six I.out.one
        obtain ⟨d0, d1, d2, d3, d4, d5⟩ := six I.out.two
        obtain ⟨x0, x1, x2, x3, x4, x5⟩ := six I.out.box
        go_wp2_with fail
        refine (hone.out _).mono ?_
        rintro e w' ⟨rfl, hb⟩
        have I' := Lib.hid (I.out.go hb.out)
        clear a0 a1 a2 a3 a4 a5 d0 d1 d2 d3 d4 d5 x0 x1 x2 x3 x4 x5 I hb
        have I := I'
        clear I'
        obtain ⟨a0, a1, a2, a3, a4, a5⟩ := six I.out.one
        obtain ⟨d0, d1, d2, d3, d4, d5⟩ := six I.out.two
        obtain ⟨x0, x1, x2, x3, x4, x5⟩ := six I.out.box
        go_wp2_with fail
        refine (hhone.out _).mono ?_
        rintro e w' ⟨rfl, hb⟩
        have I' := Lib.hid (I.out.go hb.out)
        clear a0 a1 a2 a3 a4 a5 d0 d1 d2 d3 d4 d5 x0 x1 x2 x3 x4 x5 I hb
        have I := I'
        clear I'
        obtain ⟨a0, a1, a2, a3, a4, a5⟩ := six I.out.one
        obtain ⟨d0, d1, d2, d3, d4, d5⟩ := six I.out.two
        obtain ⟨x0, x1, x2, x3, x4, x5⟩ := six I.out.box
        go_wp2_with fail
        rcases begins_cases HBG.out with ⟨hge, hx⟩ | ⟨hge, rfl⟩
        · have hgz : (f1.size : Int) ≤ (key.size : Int) := by omega
          cases bg
          all_goals
            go_quiet (fail)
            go_wp2_with fail
            refine (hpre.out _).mono ?_
            rintro e w' ⟨t5, ok5, rfl, hp, hb⟩
            have I' := Lib.hid (I.out.go (below_drewN_left hb.out))
            clear a0 a1 a2 a3 a4 a5 d0 d1 d2 d3 d4 d5 x0 x1 x2 x3 x4 x5 I hb
            have I := I'
            clear I'
            go_wp2_with fail
            refine (hp.out _).mono ?_
            rintro e w' ⟨rfl, hb⟩
            have I' := Lib.hid (I.out.go hb.out)
            clear I hb
            have I := I'
            clear I'
            go_wp2_with fail
            refine (hsure.out _).mono ?_
            rintro e w' ⟨rfl, hb⟩
            have I' := Lib.hid (I.out.go hb.out)
            clear I hb
            go_wp2
            go_ret
            exact ⟨rfl, Lib.hid I'.out.below⟩
        · have hgz : ¬ ((f1.size : Int) ≤ (key.size : Int)) := by omega
          go_quiet (fail)
          go_wp2_with fail
          refine (hpre.out _).mono ?_
          rintro e w' ⟨t5, ok5, rfl, hp, hb⟩
          have I' := Lib.hid (I.out.go (below_drewN_left hb.out))
          clear a0 a1 a2 a3 a4 a5 d0 d1 d2 d3 d4 d5 x0 x1 x2 x3 x4 x5 I hb
          have I := I'
          clear I'
          go_wp2_with fail
          refine (hp.out _).mono ?_
          rintro e w' ⟨rfl, hb⟩
          have I' := Lib.hid (I.out.go hb.out)
          clear I hb
          have I := I'
          clear I'
          go_wp2_with fail
          refine (hsure.out _).mono ?_
          rintro e w' ⟨rfl, hb⟩
          have I' := Lib.hid (I.out.go hb.out)
          clear I hb
          go_wp2
          go_ret
          exact ⟨rfl, Lib.hid I'.out.below⟩
    | true =>
      cases ee with
      | true => exact absurd (hexc rfl) (by decide)
      | false =>
        cases b2 with
        | false =>
          obtain ⟨a0, a1, a2, a3, a4, a5⟩ := six I.out.one
          obtain ⟨d0, d1, d2, d3, d4, d5⟩ := six I.out.two
          obtain ⟨x0, x1, x2, x3, x4, x5⟩ := six I.out.box
          go_wp2_with fail
          refine (hhas1.out _).mono ?_
          rintro e w' ⟨rfl, hb⟩
          have I' := Lib.hid (I.out.go hb.out)
          clear a0 a1 a2 a3 a4 a5 d0 d1 d2 d3 d4 d5 x0 x1 x2 x3 x4 x5 I hb
          have I := I'
          clear I'
          obtain ⟨a0, a1, a2, a3, a4, a5⟩ := six I.out.one
          obtain ⟨d0, d1, d2, d3, d4, d5⟩ := six I.out.two
          obtain ⟨x0, x1, x2, x3, x4, x5⟩ := six I.out.box
          go_wp2_with fail
          refine (hhas2.out _).mono ?_
          rintro e w' ⟨rfl, hb⟩
          have I' := Lib.hid (I.out.go hb.out)
          clear a0 a1 a2 a3 a4 a5 d0 d1 d2 d3 d4 d5 x0 x1 x2 x3 x4 x5 I hb
          have I := I'
          clear I'
          obtain ⟨a0, a1, a2, a3, a4, a5⟩ := six I.out.one
          obtain ⟨d0, d1, d2, d3, d4, d5⟩ := six I.out.two
          obtain ⟨x0, x1, x2, x3, x4, x5⟩ := six I.out.box
          go_wp2_with fail
          refine (hmeet1.out _).mono ?_
          rintro e w' ⟨f3, t3, hf3, ht3, of3, ot3, rfl, hm, hb⟩
          have I' := Lib.hid (I.out.go hb.out)
          clear a0 a1 a2 a3 a4 a5 d0 d1 d2 d3 d4 d5 x0 x1 x2 x3 x4 x5 I hb
          have I := I'
          clear I'
          obtain ⟨a0, a1, a2, a3, a4, a5⟩ := six I.out.one
          obtain ⟨d0, d1, d2, d3, d4, d5⟩ := six I.out.two
          obtain ⟨x0, x1, x2, x3, x4, x5⟩ := six I.out.box
          go_wp2_with fail
          refine (hm.out _).mono ?_
          rintro e w' ⟨rfl, hb⟩
          have I' := Lib.hid (I.out.go hb.out)
          clear a0 a1 a2 a3 a4 a5 d0 d1 d2 d3 d4 d5 x0 x1 x2 x3 x4 x5 I hb
          have I := I'
          clear I'
          obtain ⟨a0, a1, a2, a3, a4, a5⟩ := six I.out.one
          obtain ⟨d0, d1, d2, d3, d4, d5⟩ := six I.out.two
          obtain ⟨x0, x1, x2, x3, x4, x5⟩ := six I.out.box
          go_wp2_with fail
          refine (hmeet2.out _).mono ?_
          rintro e w' ⟨f4, t4, hf4, ht4, of4, ot4, rfl, hn, hb⟩
          have I' := Lib.hid (I.out.go hb.out)
          clear a0 a1 a2 a3 a4 a5 d0 d1 d2 d3 d4 d5 x0 x1 x2 x3 x4 x5 I hb
          have I := I'
          clear I'
          obtain ⟨a0, a1, a2, a3, a4, a5⟩ := six I.out.one
          obtain ⟨d0, d1, d2, d3, d4, d5⟩ := six I.out.two
          obtain ⟨x0, x1, x2, x3, x4, x5⟩ := six I.out.box
          go_wp2_with fail
          refine (hn.out _).mono ?_
          rintro e w' ⟨rfl, hb⟩
          have I' := Lib.hid (I.out.go hb.out)
          clear a0 a1 a2 a3 a4 a5 d0 d1 d2 d3 d4 d5 x0 x1 x2 x3 x4 x5 I hb
          have I := I'
          clear I'
          obtain ⟨a0, a1, a2, a3, a4, a5⟩ := six I.out.one
          obtain ⟨d0, d1, d2, d3, d4, d5⟩ := six I.out.two
          obtain ⟨x0, x1, x2, x3, x4, x5⟩ := six I.out.box
          go_wp2_with fail
          refine (hempty.out _).mono ?_
          rintro e w' ⟨rfl, hb⟩
          have I' := Lib.hid (I.out.go hb.out)
          clear a0 a1 a2 a3 a4 a5 d0 d1 d2 d3 d4 d5 x0 x1 x2 x3 x4 x5 I hb
          have I := I'
          clear I'
          obtain ⟨a0, a1, a2, a3, a4, a5⟩ := six I.out.one
          obtain ⟨d0, d1, d2, d3, d4, d5⟩ := six I.out.two
          obtain ⟨x0, x1, x2, x3, x4, x5⟩ := six I.out.box
          go_wp2_with fail
          refine (hone.out _).mono ?_
          rintro e w' ⟨rfl, hb⟩
          have I' := Lib.hid (I.out.go hb.out)
          clear a0 a1 a2 a3 a4 a5 d0 d1 d2 d3 d4 d5 x0 x1 x2 x3 x4 x5 I hb
          have I := I'
          clear I'
          obtain ⟨a0, a1, a2, a3, a4, a5⟩ := six I.out.one
          obtain ⟨d0, d1, d2, d3, d4, d5⟩ := six I.out.two
          obtain ⟨x0, x1, x2, x3, x4, x5⟩ := six I.out.box
          go_wp2_with fail
          refine (hhone.out _).mono ?_
          rintro e w' ⟨rfl, hb⟩
          have I' := Lib.hid (I.out.go hb.out)
          clear a0 a1 a2 a3 a4 a5 d0 d1 d2 d3 d4 d5 x0 x1 x2 x3 x4 x5 I hb
          have I := I'
          clear I'
          obtain ⟨a0, a1, a2, a3, a4, a5⟩ := six I.out.one
          obtain ⟨d0, d1, d2, d3, d4, d5⟩ := six I.out.two
          obtain ⟨x0, x1, x2, x3, x4, x5⟩ := six I.out.box
          go_wp2_with fail
          rcases begins_cases HBG.out with ⟨hge, hx⟩ | ⟨hge, rfl⟩
          · have hgz : (f1.size : Int) ≤ (key.size : Int) := by omega
            cases bg
            all_goals
              go_quiet (fail)
              go_wp2_with fail
              refine (hpre.out _).mono ?_
              rintro e w' ⟨t5, ok5, rfl, hp, hb⟩
              have I' := Lib.hid (I.out.go (below_drewN_left hb.out))
              clear a0 a1 a2 a3 a4 a5 d0 d1 d2 d3 d4 d5 x0 x1 x2 x3 x4 x5 I hb
              have I := I'
              clear I'
              go_wp2_with fail
              refine (hp.out _).mono ?_
              rintro e w' ⟨rfl, hb⟩
              have I' := Lib.hid (I.out.go hb.out)
              clear I hb
              have I := I'
              clear I'
              go_wp2_with fail
              refine (hsure.out _).mono ?_
              rintro e w' ⟨rfl, hb⟩
              have I' := Lib.hid (I.out.go hb.out)
              clear I hb
              go_wp2
              go_ret
              exact ⟨rfl, Lib.hid I'.out.below⟩
          · have hgz : ¬ ((f1.size : Int) ≤ (key.size : Int)) := by omega
            go_quiet (fail)
            go_wp2_with fail
            refine (hpre.out _).mono ?_
            rintro e w' ⟨t5, ok5, rfl, hp, hb⟩
            have I' := Lib.hid (I.out.go (below_drewN_left hb.out))
            clear a0 a1 a2 a3 a4 a5 d0 d1 d2 d3 d4 d5 x0 x1 x2 x3 x4 x5 I hb
            have I := I'
            clear I'
            go_wp2_with fail
            refine (hp.out _).mono ?_
            rintro e w' ⟨rfl, hb⟩
            have I' := Lib.hid (I.out.go hb.out)
            clear I hb
            have I := I'
            clear I'
            go_wp2_with fail
            refine (hsure.out _).mono ?_
            rintro e w' ⟨rfl, hb⟩
            have I' := Lib.hid (I.out.go hb.out)
            clear I hb
            go_wp2
            go_ret
            exact ⟨rfl, Lib.hid I'.out.below⟩
        | true =>
          obtain ⟨a0, a1, a2, a3, a4, a5⟩ := six I.out.one
          obtain ⟨d0, d1, d2, d3, d4, d5⟩ := six I.out.two
          obtain ⟨x0, x1, x2, x3, x4, x5⟩ := six I.out.box
          go_wp2_with fail
          refine (hhas1.out _).mono ?_
          rintro e w' ⟨rfl, hb⟩
          have I' := Lib.hid (I.out.go hb.out)
          clear a0 a1 a2 a3 a4 a5 d0 d1 d2 d3 d4 d5 x0 x1 x2 x3 x4 x5 I hb
          have I := I'
          clear I'
          obtain ⟨a0, a1, a2, a3, a4, a5⟩ := six I.out.one
          obtain ⟨d0, d1, d2, d3, d4, d5⟩ := six I.out.two
          obtain ⟨x0, x1, x2, x3, x4, x5⟩ := six I.out.box
          go_wp2_with fail
          refine (hhas2.out _).mono ?_
          rintro e w' ⟨rfl, hb⟩
          have I' := Lib.hid (I.out.go hb.out)
          clear a0 a1 a2 a3 a4 a5 d0 d1 d2 d3 d4 d5 x0 x1 x2 x3 x4 x5 I hb
          have I := I'
          clear I'
          obtain ⟨a0, a1, a2, a3, a4, a5⟩ := six I.out.one
          obtain ⟨d0, d1, d2, d3, d4, d5⟩ := six I.out.two
          obtain ⟨x0, x1, x2, x3, x4, x5⟩ := six I.out.box
          go_wp2_with fail
          refine (hmeet1.out _).mono ?_
          rintro e w' ⟨f3, t3, hf3, ht3, of3, ot3, rfl, hm, hb⟩
          have I' := Lib.hid (I.out.go hb.out)
          clear a0 a1 a2 a3 a4 a5 d0 d1 d2 d3 d4 d5 x0 x1 x2 x3 x4 x5 I hb
          have I := I'
          clear I'
          obtain ⟨a0, a1, a2, a3, a4, a5⟩ := six I.out.one
          obtain ⟨d0, d1, d2, d3, d4, d5⟩ := six I.out.two
          obtain ⟨x0, x1, x2, x3, x4, x5⟩ := six I.out.box
          go_wp2_with fail
          refine (hm.out _).mono ?_
          rintro e w' ⟨rfl, hb⟩
          have I' := Lib.hid (I.out.go hb.out)
          clear a0 a1 a2 a3 a4 a5 d0 d1 d2 d3 d4 d5 x0 x1 x2 x3 x4 x5 I hb
          have I := I'
          clear I'
          obtain ⟨a0, a1, a2, a3, a4, a5⟩ := six I.out.one
          obtain ⟨d0, d1, d2, d3, d4, d5⟩ := six I.out.two
          obtain ⟨x0, x1, x2, x3, x4, x5⟩ := six I.out.box
          go_wp2_with fail
          refine (hmeet2.out _).mono ?_
          rintro e w' ⟨f4, t4, hf4, ht4, of4, ot4, rfl, hn, hb⟩
          have I' := Lib.hid (I.out.go hb.out)
          clear a0 a1 a2 a3 a4 a5 d0 d1 d2 d3 d4 d5 x0 x1 x2 x3 x4 x5 I hb
          have I := I'
          clear I'
          obtain ⟨a0, a1, a2, a3, a4, a5⟩ := six I.out.one
          obtain ⟨d0, d1, d2, d3, d4, d5⟩ := six I.out.two
          obtain ⟨x0, x1, x2, x3, x4, x5⟩ := six I.out.box
          go_wp2_with fail
          refine (hn.out _).mono ?_
          rintro e w' ⟨rfl, hb⟩
          have I' := Lib.hid (I.out.go hb.out)
          clear a0 a1 a2 a3 a4 a5 d0 d1 d2 d3 d4 d5 x0 x1 x2 x3 x4 x5 I hb
          have I := I'
          clear I'
          obtain ⟨a0, a1, a2, a3, a4, a5⟩ := six I.out.one
          obtain ⟨d0, d1, d2, d3, d4, d5⟩ := six I.out.two
          obtain ⟨x0, x1, x2, x3, x4, x5⟩ := six I.out.box
          go_wp2_with fail
          refine (hempty.out _).mono ?_
          rintro e w' ⟨rfl, hb⟩
          have I' := Lib.hid (I.out.go hb.out)
          clear a0 a1 a2 a3 a4 a5 d0 d1 d2 d3 d4 d5 x0 x1 x2 x3 x4 x5 I hb
          have I := I'
          clear I'
          obtain ⟨a0, a1, a2, a3, a4, a5⟩ := six I.out.one
          obtain ⟨d0, d1, d2, d3, d4, d5⟩ := six I.out.two
          obtain ⟨x0, x1, x2, x3, x4, x5⟩ := six I.out.box
          go_wp2_with fail
          refine (hone.out _).mono ?_
          rintro e w' ⟨rfl, hb⟩
          have I' := Lib.hid (I.out.go hb.out)
          clear a0 a1 a2 a3 a4 a5 d0 d1 d2 d3 d4 d5 x0 x1 x2 x3 x4 x5 I hb
          have I := I'
          clear I'
          obtain ⟨a0, a1, a2, a3, a4, a5⟩ := six I.out.one
          obtain ⟨d0, d1, d2, d3, d4, d5⟩ := six I.out.two
          obtain ⟨x0, x1, x2, x3, x4, x5⟩ := six I.out.box
          go_wp2_with fail
          refine (hhone.out _).mono ?_
          rintro e w' ⟨rfl, hb⟩
          have I' := Lib.hid (I.out.go hb.out)
          clear a0 a1 a2 a3 a4 a5 d0 d1 d2 d3 d4 d5 x0 x1 x2 x3 x4 x5 I hb
          have I := I'
          clear I'
          obtain ⟨a0, a1, a2, a3, a4, a5⟩ := six I.out.one
          obtain ⟨d0, d1, d2, d3, d4, d5⟩ := six I.out.two
          obtain ⟨x0, x1, x2, x3, x4, x5⟩ := six I.out.box
          go_wp2_with fail
          rcases begins_cases HBG.out with ⟨hge, hx⟩ | ⟨hge, rfl⟩
          · have hgz : (f1.size : Int) ≤ (key.size : Int) := by omega
            cases bg
            all_goals
              go_quiet (fail)
              go_wp2_with fail
              refine (hpre.out _).mono ?_
              rintro e w' ⟨t5, ok5, rfl, hp, hb⟩
              have I' := Lib.hid (I.out.go (below_drewN_left hb.out))
              clear a0 a1 a2 a3 a4 a5 d0 d1 d2 d3 d4 d5 x0 x1 x2 x3 x4 x5 I hb
              have I := I'
              clear I'
              go_wp2_with fail
              refine (hp.out _).mono ?_
              rintro e w' ⟨rfl, hb⟩
              have I' := Lib.hid (I.out.go hb.out)
              clear I hb
              have I := I'
              clear I'
              go_wp2_with fail
              refine (hsure.out _).mono ?_
              rintro e w' ⟨rfl, hb⟩
              have I' := Lib.hid (I.out.go hb.out)
              clear I hb
              go_wp2
              go_ret
              exact ⟨rfl, Lib.hid I'.out.below⟩
          · have hgz : ¬ ((f1.size : Int) ≤ (key.size : Int)) := by omega
            go_quiet (fail)
            go_wp2_with fail
            refine (hpre.out _).mono ?_
            rintro e w' ⟨t5, ok5, rfl, hp, hb⟩
            have I' := Lib.hid (I.out.go (below_drewN_left hb.out))
            clear a0 a1 a2 a3 a4 a5 d0 d1 d2 d3 d4 d5 x0 x1 x2 x3 x4 x5 I hb
            have I := I'
            clear I'
            go_wp2_with fail
            refine (hp.out _).mono ?_
            rintro e w' ⟨rfl, hb⟩
            have I' := Lib.hid (I.out.go hb.out)
            clear I hb
            have I := I'
            clear I'
            go_wp2_with fail
            refine (hsure.out _).mono ?_
            rintro e w' ⟨rfl, hb⟩
            have I' := Lib.hid (I.out.go hb.out)
            clear I hb
            go_wp2
            go_ret
            exact ⟨rfl, Lib.hid I'.out.below⟩

end Go.Proofs.Ytcidmaeclonilaa
