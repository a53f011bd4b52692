/- barbicanlaw13.CursorRanges: the walk (printed by mkranges.py). -/
import Derived.Test.YtcidmaeclonilaaRefB
import Derived.Test.YtcidmaeclonilaaRefC
import Derived.Test.YtcidmaeclonilaaRefD
import Derived.Test.YtcidmaeclonilaaSure13
import Derived.Deep.RegionHeld3
namespace Go.Proofs.Ytcidmaeclonilaa
open Go Go.RowKit

/-- the arguments' boxes in blocks n and n + 1, the two ranges in p and q -/
structure MR (w : World) (A B : Array Value) (p q : Nat) (wk : World) : Prop where
  a : Blk wk w.heap.size 23 A
  b : Blk wk (w.heap.size + 1) 23 B
  one : Blk wk p 24 A
  two : Blk wk q 24 B
  below : Below w.heap.size w wk
theorem MR.go {w wk wk' : World} {A B : Array Value} {p q : Nat} (h : MR w A B p q wk) (hb : Below wk.heap.size wk wk') : MR w A B p q wk' :=
  ⟨(hb.block _ h.a.lt).trans h.a, (hb.block _ h.b.lt).trans h.b, (hb.block _ h.one.lt).trans h.one, (hb.block _ h.two.lt).trans h.two, h.below.trans (hb.mono h.below.size)⟩
theorem MR.drew {w wk : World} {A B : Array Value} {p q : Nat} (h : MR w A B p q wk) : MR w A B p q wk.drew := ⟨h.a.drew, h.b.drew, h.one.drew, h.two.drew, by have hb := h.below; go_grown⟩
theorem mr_start (w : World) (A B : Array Value) (n m : Nat) (C D : Array Value) (hn : n = w.heap.size + 1 + 1) (hm : m = w.heap.size + 1 + 1 + 1) :
    Blk (((((w.alloc (.cells A 23)).alloc (.cells B 23)).alloc (.cells C 24)).alloc (.cells D 24)).drew) w.heap.size 23 A ∧ Blk (((((w.alloc (.cells A 23)).alloc (.cells B 23)).alloc (.cells C 24)).alloc (.cells D 24)).drew) (w.heap.size + 1) 23 B ∧
    Blk (((((w.alloc (.cells A 23)).alloc (.cells B 23)).alloc (.cells C 24)).alloc (.cells D 24)).drew) n 24 C ∧ Blk (((((w.alloc (.cells A 23)).alloc (.cells B 23)).alloc (.cells C 24)).alloc (.cells D 24)).drew) m 24 D ∧
    Below w.heap.size w (((((w.alloc (.cells A 23)).alloc (.cells B 23)).alloc (.cells C 24)).alloc (.cells D 24)).drew) := by
  subst hn hm
  have b1 := Blk.new w 23 A
  have b2 := Blk.new (w.alloc (.cells A 23)) 23 B
  have b3 := Blk.new ((w.alloc (.cells A 23)).alloc (.cells B 23)) 24 C
  have b4 := Blk.new (((w.alloc (.cells A 23)).alloc (.cells B 23)).alloc (.cells C 24)) 24 D
  simp only [World.size_alloc] at b2 b3 b4
  exact ⟨(((b1.alloc _).alloc _).alloc _).drew, ((b2.alloc _).alloc _).drew, (b3.alloc _).drew, b4.drew, (by go_grown)⟩
def SR1 (w : World) (f1 t1 : ByteArray) (hf1 ht1 of1 ot1 : Bool) (f2 t2 : ByteArray) (hf2 ht2 of2 ot2 : Bool) (p q : Nat) (w' : World) : Prop := w'.cell? ⟨w.heap.size, 0, none⟩ = some (Value.string f1) ∧ w'.cell? ⟨w.heap.size, 1, none⟩ = some (Value.string t1) ∧ w'.cell? ⟨w.heap.size, 2, none⟩ = some (Value.bool hf1) ∧ w'.cell? ⟨w.heap.size, 3, none⟩ = some (Value.bool ht1) ∧ w'.cell? ⟨w.heap.size, 4, none⟩ = some (Value.bool of1) ∧ w'.cell? ⟨w.heap.size, 5, none⟩ = some (Value.bool ot1) ∧ w'.cell? ⟨p, 0, none⟩ = some (Value.string f1) ∧ w'.cell? ⟨p, 1, none⟩ = some (Value.string t1) ∧ w'.cell? ⟨p, 2, none⟩ = some (Value.bool hf1) ∧ w'.cell? ⟨p, 3, none⟩ = some (Value.bool ht1) ∧ w'.cell? ⟨p, 4, none⟩ = some (Value.bool of1) ∧ w'.cell? ⟨p, 5, none⟩ = some (Value.bool ot1) ∧ Hid (MR w #[Value.string f1, Value.string t1, Value.bool hf1, Value.bool ht1, Value.bool of1, Value.bool ot1] #[Value.string f2, Value.string t2, Value.bool hf2, Value.bool ht2, Value.bool of2, Value.bool ot2] p q w')
def SR2 (w : World) (f1 t1 : ByteArray) (hf1 ht1 of1 ot1 : Bool) (f2 t2 : ByteArray) (hf2 ht2 of2 ot2 : Bool) (key : ByteArray) (p q k : Nat) (w' : World) : Prop := w'.cell? ⟨w.heap.size, 0, none⟩ = some (Value.string f1) ∧ w'.cell? ⟨w.heap.size, 1, none⟩ = some (Value.string t1) ∧ w'.cell? ⟨w.heap.size, 2, none⟩ = some (Value.bool hf1) ∧ w'.cell? ⟨w.heap.size, 3, none⟩ = some (Value.bool ht1) ∧ w'.cell? ⟨w.heap.size, 4, none⟩ = some (Value.bool of1) ∧ w'.cell? ⟨w.heap.size, 5, none⟩ = some (Value.bool ot1) ∧ w'.cell? ⟨w.heap.size + 1, 0, none⟩ = some (Value.string f2) ∧ w'.cell? ⟨w.heap.size + 1, 1, none⟩ = some (Value.string t2) ∧ w'.cell? ⟨w.heap.size + 1, 2, none⟩ = some (Value.bool hf2) ∧ w'.cell? ⟨w.heap.size + 1, 3, none⟩ = some (Value.bool ht2) ∧ w'.cell? ⟨w.heap.size + 1, 4, none⟩ = some (Value.bool of2) ∧ w'.cell? ⟨w.heap.size + 1, 5, none⟩ = some (Value.bool ot2) ∧ w'.cell? ⟨p, 0, none⟩ = some (Value.string f1) ∧ w'.cell? ⟨p, 1, none⟩ = some (Value.string t1) ∧ w'.cell? ⟨p, 2, none⟩ = some (Value.bool hf1) ∧ w'.cell? ⟨p, 3, none⟩ = some (Value.bool ht1) ∧ w'.cell? ⟨p, 4, none⟩ = some (Value.bool of1) ∧ w'.cell? ⟨p, 5, none⟩ = some (Value.bool ot1) ∧ w'.cell? ⟨q, 0, none⟩ = some (Value.string f2) ∧ w'.cell? ⟨q, 1, none⟩ = some (Value.string t2) ∧ w'.cell? ⟨q, 2, none⟩ = some (Value.bool hf2) ∧ w'.cell? ⟨q, 3, none⟩ = some (Value.bool ht2) ∧ w'.cell? ⟨q, 4, none⟩ = some (Value.bool of2) ∧ w'.cell? ⟨q, 5, none⟩ = some (Value.bool ot2) ∧ w'.cell? ⟨k, 0, none⟩ = some (Value.string key) ∧ w'.cell? ⟨k, 1, none⟩ = some (Value.string key) ∧ w'.cell? ⟨k, 2, none⟩ = some (Value.bool true) ∧ w'.cell? ⟨k, 3, none⟩ = some (Value.bool true) ∧ w'.cell? ⟨k, 4, none⟩ = some (Value.bool false) ∧ w'.cell? ⟨k, 5, none⟩ = some (Value.bool false) ∧ Hid (MR w #[Value.string f1, Value.string t1, Value.bool hf1, Value.bool ht1, Value.bool of1, Value.bool ot1] #[Value.string f2, Value.string t2, Value.bool hf2, Value.bool ht2, Value.bool of2, Value.bool ot2] p q w' ∧ Blk w' k 23 #[Value.string key, Value.string key, Value.bool true, Value.bool true, Value.bool false, Value.bool false])
theorem sr1 {w : World} {f1 t1 : ByteArray} {hf1 ht1 of1 ot1 : Bool} {f2 t2 : ByteArray} {hf2 ht2 of2 ot2 : Bool} {p q : Nat} {w' : World} (h : MR w #[Value.string f1, Value.string t1, Value.bool hf1, Value.bool ht1, Value.bool of1, Value.bool ot1] #[Value.string f2, Value.string t2, Value.bool hf2, Value.bool ht2, Value.bool of2, Value.bool ot2] p q w') : SR1 w f1 t1 hf1 ht1 of1 ot1 f2 t2 hf2 ht2 of2 ot2 p q w' :=
  ⟨h.a.cell 0, h.a.cell 1, h.a.cell 2, h.a.cell 3, h.a.cell 4, h.a.cell 5, h.one.cell 0, h.one.cell 1, h.one.cell 2, h.one.cell 3, h.one.cell 4, h.one.cell 5, Lib.hid h⟩
theorem sr2 {w : World} {f1 t1 : ByteArray} {hf1 ht1 of1 ot1 : Bool} {f2 t2 : ByteArray} {hf2 ht2 of2 ot2 : Bool} {key : ByteArray} {p q k : Nat} {w' : World} (h : MR w #[Value.string f1, Value.string t1, Value.bool hf1, Value.bool ht1, Value.bool of1, Value.bool ot1] #[Value.string f2, Value.string t2, Value.bool hf2, Value.bool ht2, Value.bool of2, Value.bool ot2] p q w') (hk : Blk w' k 23 #[Value.string key, Value.string key, Value.bool true, Value.bool true, Value.bool false, Value.bool false]) : SR2 w f1 t1 hf1 ht1 of1 ot1 f2 t2 hf2 ht2 of2 ot2 key p q k w' :=
  ⟨h.a.cell 0, h.a.cell 1, h.a.cell 2, h.a.cell 3, h.a.cell 4, h.a.cell 5, h.b.cell 0, h.b.cell 1, h.b.cell 2, h.b.cell 3, h.b.cell 4, h.b.cell 5, h.one.cell 0, h.one.cell 1, h.one.cell 2, h.one.cell 3, h.one.cell 4, h.one.cell 5, h.two.cell 0, h.two.cell 1, h.two.cell 2, h.two.cell 3, h.two.cell 4, h.two.cell 5, hk.cell 0, hk.cell 1, hk.cell 2, hk.cell 3, hk.cell 4, hk.cell 5, Lib.hid ⟨h, hk⟩⟩
theorem sr1_go {w : World} {f1 t1 : ByteArray} {hf1 ht1 of1 ot1 : Bool} {f2 t2 : ByteArray} {hf2 ht2 of2 ot2 : Bool} {p q : Nat} {w1 w' : World} (h : SR1 w f1 t1 hf1 ht1 of1 ot1 f2 t2 hf2 ht2 of2 ot2 p q w1) (hb : Hid (Below w1.heap.size w1 w')) : SR1 w f1 t1 hf1 ht1 of1 ot1 f2 t2 hf2 ht2 of2 ot2 p q w' := by
  obtain ⟨-, -, -, -, -, -, -, -, -, -, -, -, H⟩ := h
  exact sr1 (H.out.go hb.out)
theorem sr2_go {w : World} {f1 t1 : ByteArray} {hf1 ht1 of1 ot1 : Bool} {f2 t2 : ByteArray} {hf2 ht2 of2 ot2 : Bool} {key : ByteArray} {p q k : Nat} {w1 w' : World} (h : SR2 w f1 t1 hf1 ht1 of1 ot1 f2 t2 hf2 ht2 of2 ot2 key p q k w1) (hb : Hid (Below w1.heap.size w1 w')) : SR2 w f1 t1 hf1 ht1 of1 ot1 f2 t2 hf2 ht2 of2 ot2 key p q k w' := by
  obtain ⟨-, -, -, -, -, -, -, -, -, -, -, -, -, -, -, -, -, -, -, -, -, -, -, -, -, -, -, -, -, -, H⟩ := h
  exact sr2 (H.out.1.go hb.out) ((hb.out.block _ H.out.2.lt).trans H.out.2)

theorem sr1_end {w : World} {f1 t1 : ByteArray} {hf1 ht1 of1 ot1 : Bool} {f2 t2 : ByteArray} {hf2 ht2 of2 ot2 : Bool} {p q : Nat} {w1 : World} (h : SR1 w f1 t1 hf1 ht1 of1 ot1 f2 t2 hf2 ht2 of2 ot2 p q w1) : Hid (MR w #[Value.string f1, Value.string t1, Value.bool hf1, Value.bool ht1, Value.bool of1, Value.bool ot1] #[Value.string f2, Value.string t2, Value.bool hf2, Value.bool ht2, Value.bool of2, Value.bool ot2] p q w1) := by
  obtain ⟨-, -, -, -, -, -, -, -, -, -, -, -, H⟩ := h
  exact H
theorem sr2_end {w : World} {f1 t1 : ByteArray} {hf1 ht1 of1 ot1 : Bool} {f2 t2 : ByteArray} {hf2 ht2 of2 ot2 : Bool} {key : ByteArray} {p q k : Nat} {w1 : World} (h : SR2 w f1 t1 hf1 ht1 of1 ot1 f2 t2 hf2 ht2 of2 ot2 key p q k w1) : Hid (Below w.heap.size w w1) := by
  obtain ⟨-, -, -, -, -, -, -, -, -, -, -, -, -, -, -, -, -, -, -, -, -, -, -, -, -, -, -, -, -, -, H⟩ := h
  exact Lib.hid H.out.1.below

theorem nextP_ex (l : List UInt8) : ∃ t ok, NextP l t ok := by
  have key : (∀ x ∈ l, x = 255) ∨ ∃ a x r, l = a ++ x :: r ∧ x ≠ 255 ∧ ∀ y ∈ r, y = 255 := by
    induction l with
    | nil => exact .inl fun x hx => by cases hx
    | cons y l ih =>
      rcases ih with h | ⟨a, x, r, rfl, hx, hr⟩
      · by_cases hy : y = 255
        · exact .inl fun x hx => by
            rcases List.mem_cons.1 hx with rfl | hx
            · exact hy
            · exact h x hx
        · exact .inr ⟨[], y, l, rfl, hy, h⟩
      · exact .inr ⟨y :: a, x, r, rfl, hx, hr⟩
  rcases key with h | ⟨a, x, r, h, hx, hr⟩
  · exact ⟨[], false, .inl ⟨rfl, rfl, h⟩⟩
  · exact ⟨a ++ [x + 1], true, .inr ⟨rfl, a, x, r, h, hx, hr, rfl⟩⟩

set_option maxRecDepth 100000 in
set_option maxHeartbeats 16000000 in
theorem ranges3 (w : World) (f1 t1 : ByteArray) (hf1 ht1 of1 ot1 : Bool) (f2 t2 : ByteArray) (hf2 ht2 of2 ot2 : Bool) (key : ByteArray) (hs1 : f1.size ≤ 1048576) (hs2 : t1.size ≤ 1048576) (hs3 : key.size ≤ 1048576) :
    Calls Try.prog 3 #[.agg #[Value.string f1, Value.string t1, Value.bool hf1, Value.bool ht1, Value.bool of1, Value.bool ot1], .agg #[Value.string f2, Value.string t2, Value.bool hf2, Value.bool ht2, Value.bool of2, Value.bool ot2], .string key] w fun e w' => e = .returned (.bool true) ∧ Hid (Below w.heap.size w w') := by
  obtain ⟨b1, hb1⟩ : ∃ b, b = hasB f1 t1 hf1 ht1 of1 ot1 key := ⟨_, rfl⟩
  obtain ⟨b2, hb2⟩ : ∃ b, b = emptyB f1 t1 hf1 ht1 of1 ot1 := ⟨_, rfl⟩
  obtain ⟨T, hT⟩ : ∃ T : ByteArray, T = ⟨(textL f1 t1 hf1 ht1 of1 ot1).toArray⟩ := ⟨_, rfl⟩
  obtain ⟨⟨f, hf, of⟩, hn1⟩ : ∃ x, x = narB true f1 hf1 of1 f2 hf2 of2 := ⟨_, rfl⟩
  obtain ⟨⟨t, ht, ot⟩, hn2⟩ : ∃ x, x = narB false t1 ht1 ot1 t2 ht2 ot2 := ⟨_, rfl⟩
  obtain ⟨u, ok, hu⟩ := nextP_ex key.data.toList
  obtain ⟨U, hU⟩ : ∃ U : ByteArray, U = ⟨u.toArray⟩ := ⟨_, rfl⟩
  have c12 := Lib.hid (fun (w1 : World) => has12 w1 f1 t1 key hf1 ht1 of1 ot1)
  have c13 := Lib.hid (fun (w1 : World) => has13 w1 f1 t1 key hf1 ht1 of1 ot1)
  have c14 := Lib.hid (fun (w1 : World) => empty14 w1 f1 t1 hf1 ht1 of1 ot1)
  have c15 := Lib.hid (fun (w1 : World) => empty15 w1 f1 t1 hf1 ht1 of1 ot1)
  have c16 := Lib.hid (fun (w1 : World) => text16 w1 f1 t1 hf1 ht1 of1 ot1 (by omega) (by omega))
  have c17 := Lib.hid (fun (w1 : World) => text17 w1 f1 t1 hf1 ht1 of1 ot1 (by omega) (by omega))
  rw [← hb1] at c12 c13
  rw [← hb2] at c14 c15
  rw [← hT] at c16 c17
  have c18 := Lib.hid (fun (w1 : World) => show Calls Try.prog 18 #[.agg #[Value.string f1, Value.string t1, Value.bool hf1, Value.bool ht1, Value.bool of1, Value.bool ot1], .agg #[Value.string f2, Value.string t2, Value.bool hf2, Value.bool ht2, Value.bool of2, Value.bool ot2]] w1 fun e w' => e = .returned (.agg #[.string f, .string t, .bool hf, .bool ht, .bool of, .bool ot]) ∧ Hid (Below w1.heap.size w1 w') from
    (meet18 w1 f1 t1 hf1 ht1 of1 ot1 f2 t2 hf2 ht2 of2 ot2).mono fun e w' ⟨f', t', hf', ht', of', ot', he, h, hb⟩ => by
      have h1 := hn1.trans h.out.1
      have h2 := hn2.trans h.out.2
      simp only [Prod.mk.injEq] at h1 h2
      obtain ⟨rfl, rfl, rfl⟩ := h1
      obtain ⟨rfl, rfl, rfl⟩ := h2
      exact ⟨he, hb⟩)
  have c19 := Lib.hid (fun (w1 : World) => show Calls Try.prog 19 #[.agg #[Value.string f1, Value.string t1, Value.bool hf1, Value.bool ht1, Value.bool of1, Value.bool ot1], .agg #[Value.string f2, Value.string t2, Value.bool hf2, Value.bool ht2, Value.bool of2, Value.bool ot2]] w1 fun e w' => e = .returned (.agg #[.string f, .string t, .bool hf, .bool ht, .bool of, .bool ot]) ∧ Hid (Below w1.heap.size w1 w') from
    (meet19 w1 f1 t1 hf1 ht1 of1 ot1 f2 t2 hf2 ht2 of2 ot2).mono fun e w' ⟨f', t', hf', ht', of', ot', he, h, hb⟩ => by
      have h1 := hn1.trans h.out.1
      have h2 := hn2.trans h.out.2
      simp only [Prod.mk.injEq] at h1 h2
      obtain ⟨rfl, rfl, rfl⟩ := h1
      obtain ⟨rfl, rfl, rfl⟩ := h2
      exact ⟨he, hb⟩)
  have c20 := Lib.hid (fun (w1 : World) => show Calls Try.prog 20 #[.string key] w1 fun e w' => e = .returned (.agg #[.string key, .string U, .bool true, .bool ok, .bool false, .bool ok]) ∧ Hid (Below w1.heap.size w1 w') from
    (prefix20 w1 key (by omega)).mono fun e w' ⟨t', ok', he, h, hb⟩ => by
      obtain ⟨rfl, rfl⟩ := h.out.uniq hu
      rw [hU]; exact ⟨he, hb⟩)
  have c21 := Lib.hid (fun (w1 : World) => show Calls Try.prog 21 #[.string key] w1 fun e w' => e = .returned (.agg #[.string key, .string U, .bool true, .bool ok, .bool false, .bool ok]) ∧ Hid (Below w1.heap.size w1 w') from
    (prefix21 w1 key (by omega)).mono fun e w' ⟨t', ok', he, h, hb⟩ => by
      obtain ⟨rfl, rfl⟩ := h.out.uniq hu
      rw [hU]; exact ⟨he, hb⟩)
  have c22 := Lib.hid (fun (w1 : World) => one22 w1 key)
  have c23 := Lib.hid sure23
  clear hb1 hb2 hT hn1 hn2 hu hU hs1 hs2 hs3
  go_enter Try.func3, Try.ntmps3
  go_upto_region 1 with fail
  go_cut [7, 8] from 11 (fun s7 s8 wc => ∃ (p q : Nat), s7 = .pointer (some ⟨p, 0, none⟩) ∧ s8 = .pointer (some ⟨q, 0, none⟩) ∧ Hid (MR w #[Value.string f1, Value.string t1, Value.bool hf1, Value.bool ht1, Value.bool of1, Value.bool ot1] #[Value.string f2, Value.string t2, Value.bool hf2, Value.bool ht2, Value.bool of2, Value.bool ot2] p q wc))
  case first =>
    go_region
    · go_wp2_with fail
      go_meet
      case rel =>
        obtain ⟨x1, x2, x3, x4, x5⟩ := mr_start w #[Value.string f1, Value.string t1, Value.bool hf1, Value.bool ht1, Value.bool of1, Value.bool ot1] #[Value.string f2, Value.string t2, Value.bool hf2, Value.bool ht2, Value.bool of2, Value.bool ot2] _ _ #[Value.string f1, Value.string t1, Value.bool hf1, Value.bool ht1, Value.bool of1, Value.bool ot1] #[Value.string f2, Value.string t2, Value.bool hf2, Value.bool ht2, Value.bool of2, Value.bool ot2] rfl rfl
        exact ⟨_, _, rfl, rfl, Lib.hid ⟨x1, x2, x3, x4, x5⟩⟩
    · go_wp2_with fail
      go_meet
      case rel =>
        obtain ⟨x1, x2, x3, x4, x5⟩ := mr_start w #[Value.string f1, Value.string t1, Value.bool hf1, Value.bool ht1, Value.bool of1, Value.bool ot1] #[Value.string f2, Value.string t2, Value.bool hf2, Value.bool ht2, Value.bool of2, Value.bool ot2] _ _ #[Value.string f2, Value.string t2, Value.bool hf2, Value.bool ht2, Value.bool of2, Value.bool ot2] #[Value.string f1, Value.string t1, Value.bool hf1, Value.bool ht1, Value.bool of1, Value.bool ot1] rfl rfl
        exact ⟨_, _, rfl, rfl, Lib.hid ⟨x1, x2, x4, x3, x5⟩⟩
  case rest =>
    obtain ⟨p, q, rfl, rfl, I⟩ := hcut
    have I0 := Lib.hid (sr1 I.out.drew)
    go_upto_region 2 with fail
    go_cut [9] from 11 (fun s9 wc => s9 = .bool true ∧ Hid (MR w #[Value.string f1, Value.string t1, Value.bool hf1, Value.bool ht1, Value.bool of1, Value.bool ot1] #[Value.string f2, Value.string t2, Value.bool hf2, Value.bool ht2, Value.bool of2, Value.bool ot2] p q wc))
    case first =>
      go_region_held3 (fun w' => w'.cell? ⟨w.heap.size, 0, none⟩ = some (Value.string f1) ∧ w'.cell? ⟨w.heap.size, 1, none⟩ = some (Value.string t1) ∧ w'.cell? ⟨w.heap.size, 2, none⟩ = some (Value.bool hf1) ∧ w'.cell? ⟨w.heap.size, 3, none⟩ = some (Value.bool ht1) ∧ w'.cell? ⟨w.heap.size, 4, none⟩ = some (Value.bool of1) ∧ w'.cell? ⟨w.heap.size, 5, none⟩ = some (Value.bool ot1) ∧ w'.cell? ⟨p, 0, none⟩ = some (Value.string f1) ∧ w'.cell? ⟨p, 1, none⟩ = some (Value.string t1) ∧ w'.cell? ⟨p, 2, none⟩ = some (Value.bool hf1) ∧ w'.cell? ⟨p, 3, none⟩ = some (Value.bool ht1) ∧ w'.cell? ⟨p, 4, none⟩ = some (Value.bool of1) ∧ w'.cell? ⟨p, 5, none⟩ = some (Value.bool ot1) ∧ Hid (MR w #[Value.string f1, Value.string t1, Value.bool hf1, Value.bool ht1, Value.bool of1, Value.bool ot1] #[Value.string f2, Value.string t2, Value.bool hf2, Value.bool ht2, Value.bool of2, Value.bool ot2] p q w')) (first | exact I0.out | exact (sr1_go (f1 := f1) (t1 := t1) (hf1 := hf1) (ht1 := ht1) (of1 := of1) (ot1 := ot1) (f2 := f2) (t2 := t2) (hf2 := hf2) (ht2 := ht2) (of2 := of2) (ot2 := ot2) (by assumption) (by assumption)))
        (first
          | (go_at_call 12; refine (c12.out _).mono ?_; rintro e w1 ⟨rfl, hb⟩)
          | (go_at_call 13; refine (c13.out _).mono ?_; rintro e w1 ⟨rfl, hb⟩)
          | (go_at_call 14; refine (c14.out _).mono ?_; rintro e w1 ⟨rfl, hb⟩)
          | (go_at_call 15; refine (c15.out _).mono ?_; rintro e w1 ⟨rfl, hb⟩)
          | (go_at_call 16; refine (c16.out _).mono ?_; rintro e w1 ⟨rfl, hb⟩)
          | (go_at_call 17; refine (c17.out _).mono ?_; rintro e w1 ⟨rfl, hb⟩))
      all_goals
        go_wp2_with fail
        go_meet
        case rel => exact ⟨rfl, sr1_end (f1 := f1) (t1 := t1) (hf1 := hf1) (ht1 := ht1) (of1 := of1) (ot1 := ot1) (f2 := f2) (t2 := t2) (hf2 := hf2) (ht2 := ht2) (of2 := of2) (ot2 := ot2) (by assumption)⟩
    case rest =>
      obtain ⟨rfl, J⟩ := hcut
      clear I I0
      obtain ⟨k, hk⟩ : ∃ k, k = wc.heap.size := ⟨_, rfl⟩
      have J0 := Lib.hid (sr2 (key := key) (k := wc.heap.size) (J.out.go ((Below.refl wc.heap.size wc).alloc (Nat.le_refl _) (.cells #[Value.string key, Value.string key, Value.bool true, Value.bool true, Value.bool false, Value.bool false] 23))).drew (Blk.new wc 23 #[Value.string key, Value.string key, Value.bool true, Value.bool true, Value.bool false, Value.bool false]).drew)
      clear J
      go_upto_region 4 with fail
      rw [← hk] at J0 ⊢
      clear hk
      go_region_held3 (fun w' => w'.cell? ⟨w.heap.size, 0, none⟩ = some (Value.string f1) ∧ w'.cell? ⟨w.heap.size, 1, none⟩ = some (Value.string t1) ∧ w'.cell? ⟨w.heap.size, 2, none⟩ = some (Value.bool hf1) ∧ w'.cell? ⟨w.heap.size, 3, none⟩ = some (Value.bool ht1) ∧ w'.cell? ⟨w.heap.size, 4, none⟩ = some (Value.bool of1) ∧ w'.cell? ⟨w.heap.size, 5, none⟩ = some (Value.bool ot1) ∧ w'.cell? ⟨w.heap.size + 1, 0, none⟩ = some (Value.string f2) ∧ w'.cell? ⟨w.heap.size + 1, 1, none⟩ = some (Value.string t2) ∧ w'.cell? ⟨w.heap.size + 1, 2, none⟩ = some (Value.bool hf2) ∧ w'.cell? ⟨w.heap.size + 1, 3, none⟩ = some (Value.bool ht2) ∧ w'.cell? ⟨w.heap.size + 1, 4, none⟩ = some (Value.bool of2) ∧ w'.cell? ⟨w.heap.size + 1, 5, none⟩ = some (Value.bool ot2) ∧ w'.cell? ⟨p, 0, none⟩ = some (Value.string f1) ∧ w'.cell? ⟨p, 1, none⟩ = some (Value.string t1) ∧ w'.cell? ⟨p, 2, none⟩ = some (Value.bool hf1) ∧ w'.cell? ⟨p, 3, none⟩ = some (Value.bool ht1) ∧ w'.cell? ⟨p, 4, none⟩ = some (Value.bool of1) ∧ w'.cell? ⟨p, 5, none⟩ = some (Value.bool ot1) ∧ w'.cell? ⟨q, 0, none⟩ = some (Value.string f2) ∧ w'.cell? ⟨q, 1, none⟩ = some (Value.string t2) ∧ w'.cell? ⟨q, 2, none⟩ = some (Value.bool hf2) ∧ w'.cell? ⟨q, 3, none⟩ = some (Value.bool ht2) ∧ w'.cell? ⟨q, 4, none⟩ = some (Value.bool of2) ∧ w'.cell? ⟨q, 5, none⟩ = some (Value.bool ot2) ∧ w'.cell? ⟨k, 0, none⟩ = some (Value.string key) ∧ w'.cell? ⟨k, 1, none⟩ = some (Value.string key) ∧ w'.cell? ⟨k, 2, none⟩ = some (Value.bool true) ∧ w'.cell? ⟨k, 3, none⟩ = some (Value.bool true) ∧ w'.cell? ⟨k, 4, none⟩ = some (Value.bool false) ∧ w'.cell? ⟨k, 5, none⟩ = some (Value.bool false) ∧ Hid (MR w #[Value.string f1, Value.string t1, Value.bool hf1, Value.bool ht1, Value.bool of1, Value.bool ot1] #[Value.string f2, Value.string t2, Value.bool hf2, Value.bool ht2, Value.bool of2, Value.bool ot2] p q w' ∧ Blk w' k 23 #[Value.string key, Value.string key, Value.bool true, Value.bool true, Value.bool false, Value.bool false])) (first | exact J0.out | exact (sr2_go (f1 := f1) (t1 := t1) (hf1 := hf1) (ht1 := ht1) (of1 := of1) (ot1 := ot1) (f2 := f2) (t2 := t2) (hf2 := hf2) (ht2 := ht2) (of2 := of2) (ot2 := ot2) (key := key) (by assumption) (by assumption)))
        (first
          | (go_at_call 18; refine (c18.out _).mono ?_; rintro e w1 ⟨rfl, hb⟩)
          | (go_at_call 19; refine (c19.out _).mono ?_; rintro e w1 ⟨rfl, hb⟩)
          | (go_at_call 20; refine (c20.out _).mono ?_; rintro e w1 ⟨rfl, hb⟩)
          | (go_at_call 21; refine (c21.out _).mono ?_; rintro e w1 ⟨rfl, hb⟩)
          | (go_at_call 22; refine (c22.out _).mono ?_; rintro e w1 ⟨rfl, hb⟩)
          | (go_at_call 23; refine (c23.out _).mono ?_; rintro e w1 ⟨rfl, hb⟩))
      all_goals
        go_wp2
        go_ret
        exact ⟨rfl, sr2_end (p := p) (q := q) (k := k) (f1 := f1) (t1 := t1) (hf1 := hf1) (ht1 := ht1) (of1 := of1) (ot1 := ot1) (f2 := f2) (t2 := t2) (hf2 := hf2) (ht2 := ht2) (of2 := of2) (ot2 := ot2) (key := key) (by assumption)⟩

end Go.Proofs.Ytcidmaeclonilaa
