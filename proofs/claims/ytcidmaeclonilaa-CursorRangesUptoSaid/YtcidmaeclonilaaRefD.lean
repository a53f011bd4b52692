/- barbicanref13.Meet: the walk (printed by mkrefd.py). -/
import Derived.Test.YtcidmaeclonilaaText2
import Derived.Handy
import Derived.BigRegion
import Derived.Deep.LoopGhost
import Derived.Deep.CutRange
namespace Go.Proofs.Ytcidmaeclonilaa
open Go Go.RowKit

/-- one end, narrowed by another range's -/
def stepLo (f : ByteArray) (hf of : Bool) (xf : ByteArray) (xhf xof : Bool) : ByteArray × Bool × Bool :=
  if (xhf && (!hf || klt f xf || (decide (xf = f) && xof))) = true then (xf, true, xof) else (f, hf, of)
def stepHi (f : ByteArray) (hf of : Bool) (xf : ByteArray) (xhf xof : Bool) : ByteArray × Bool × Bool :=
  if (xhf && (!hf || klt xf f || (decide (xf = f) && xof))) = true then (xf, true, xof) else (f, hf, of)
theorem steps_lo (f1 : ByteArray) (h1 o1 : Bool) (f2 : ByteArray) (h2 o2 : Bool) :
    stepLo (stepLo ⟨#[]⟩ false false f1 h1 o1).1 (stepLo ⟨#[]⟩ false false f1 h1 o1).2.1 (stepLo ⟨#[]⟩ false false f1 h1 o1).2.2 f2 h2 o2 = narB true f1 h1 o1 f2 h2 o2 := by
  cases h1
  · cases h2 <;> simp [stepLo, narB]
  · cases h2
    · simp [stepLo, narB]
    · rcases klt_tri f1 f2 with h | h | h
      · simp [stepLo, narB, h, klt_ne h]
      · subst h; cases o2 <;> simp [stepLo, narB, klt_irrefl]
      · simp [stepLo, narB, klt_asymm h, klt_ne h, klt_ne' h]
theorem steps_hi (f1 : ByteArray) (h1 o1 : Bool) (f2 : ByteArray) (h2 o2 : Bool) :
    stepHi (stepHi ⟨#[]⟩ false false f1 h1 o1).1 (stepHi ⟨#[]⟩ false false f1 h1 o1).2.1 (stepHi ⟨#[]⟩ false false f1 h1 o1).2.2 f2 h2 o2 = narB false f1 h1 o1 f2 h2 o2 := by
  cases h1
  · cases h2 <;> simp [stepHi, narB]
  · cases h2
    · simp [stepHi, narB]
    · rcases klt_tri f1 f2 with h | h | h
      · simp [stepHi, narB, h, klt_asymm h, klt_ne h, klt_ne' h]
      · subst h; cases o2 <;> simp [stepHi, narB, klt_irrefl]
      · simp [stepHi, narB, h, klt_asymm h, klt_ne h, klt_ne' h]

theorem end_cases (f : ByteArray) (hf : Bool) (xf : ByteArray) (xhf xof : Bool) :
    (xhf = false) ∨ (xhf = true ∧ hf = false) ∨ (xhf = true ∧ hf = true ∧ klt f xf = true ∧ klt xf f = false ∧ decide (xf = f) = false) ∨
    (xhf = true ∧ hf = true ∧ klt f xf = false ∧ klt xf f = false ∧ decide (xf = f) = true ∧ xof = true) ∨ (xhf = true ∧ hf = true ∧ klt f xf = false ∧ klt xf f = false ∧ decide (xf = f) = true ∧ xof = false) ∨
    (xhf = true ∧ hf = true ∧ klt f xf = false ∧ klt xf f = true ∧ decide (xf = f) = false) := by
  cases xhf
  · exact .inl rfl
  · cases hf
    · exact .inr (.inl ⟨rfl, rfl⟩)
    · rcases klt_tri f xf with h | h | h
      · exact .inr (.inr (.inl ⟨rfl, rfl, h, klt_asymm h, by simpa using klt_ne' h⟩))
      · subst h
        cases xof
        · exact .inr (.inr (.inr (.inr (.inl ⟨rfl, rfl, klt_irrefl _, klt_irrefl _, by simp, rfl⟩))))
        · exact .inr (.inr (.inr (.inl ⟨rfl, rfl, klt_irrefl _, klt_irrefl _, by simp, rfl⟩)))
      · exact .inr (.inr (.inr (.inr (.inr ⟨rfl, rfl, klt_asymm h, h, by simpa using klt_ne h⟩))))

/-- the six cells of a range -/
theorem six6 {w : World} {g : Nat} {t : TypeId} {a b c d e f : Value} (h : Blk w g t #[a, b, c, d, e, f]) : w.cell? ⟨g, 0, none⟩ = some a ∧ w.cell? ⟨g, 1, none⟩ = some b ∧ w.cell? ⟨g, 2, none⟩ = some c ∧ w.cell? ⟨g, 3, none⟩ = some d ∧ w.cell? ⟨g, 4, none⟩ = some e ∧ w.cell? ⟨g, 5, none⟩ = some f :=
  ⟨h.cell 0, h.cell 1, h.cell 2, h.cell 3, h.cell 4, h.cell 5⟩
/-- a range's six cells -/
abbrev rcells (f t : ByteArray) (hf ht of ot : Bool) : Array Value := #[.string f, .string t, .bool hf, .bool ht, .bool of, .bool ot]
/-- the arguments' boxes, the result's cell and r's block, from block n on -/
structure M19 (w : World) (A B C : Array Value) (wk : World) : Prop where
  a : Blk wk w.heap.size 23 A
  b : Blk wk (w.heap.size + 1) 23 B
  z : Blk wk (w.heap.size + 1 + 1) 23 (rcells ⟨#[]⟩ ⟨#[]⟩ false false false false)
  r : Blk wk (w.heap.size + 1 + 1 + 1) 23 C
  below : Below w.heap.size w wk
  more : w.heap.size + 1 + 1 + 1 + 1 ≤ wk.heap.size


theorem M19.alloc {w wk : World} {A B C : Array Value} (h : M19 w A B C wk) (o : Obj) : M19 w A B C (wk.alloc o) :=
  ⟨h.a.alloc _, h.b.alloc _, h.z.alloc _, h.r.alloc _, h.below.alloc (by have := h.more; omega) _, by have := h.more; rw [World.size_alloc]; omega⟩
theorem M19.far {w wk : World} {A B C : Array Value} (h : M19 w A B C wk) {p : Addr} (hp : w.heap.size + 1 + 1 + 1 + 1 ≤ p.block) (u : Value) : M19 w A B C (wk.setCell p u) :=
  ⟨h.a.far (by omega) _, h.b.far (by omega) _, h.z.far (by omega) _, h.r.far (by omega) _, h.below.setCell (by omega) _, by have := h.more; simp [World.setCell]; omega⟩
theorem M19.set {w wk : World} {A B C : Array Value} (h : M19 w A B C wk) (i : Nat) (u : Value) : M19 w A B (C.setIfInBounds i u) (wk.setCell ⟨w.heap.size + 1 + 1 + 1, i, none⟩ u) :=
  ⟨h.a.far (by show w.heap.size ≠ w.heap.size + 1 + 1 + 1; omega) _, h.b.far (by show w.heap.size + 1 ≠ w.heap.size + 1 + 1 + 1; omega) _, h.z.far (by show w.heap.size + 1 + 1 ≠ w.heap.size + 1 + 1 + 1; omega) _, h.r.set_ i u,
    h.below.setCell (p := ⟨w.heap.size + 1 + 1 + 1, i, none⟩) (by show w.heap.size ≤ w.heap.size + 1 + 1 + 1; omega) _, by have := h.more; simp [World.setCell]; omega⟩
theorem M19.drew {w wk : World} {A B C : Array Value} (h : M19 w A B C wk) : M19 w A B C wk.drew := ⟨h.a.drew, h.b.drew, h.z.drew, h.r.drew, by have hb := h.below; go_grown, h.more⟩
theorem stepLo_true {f : ByteArray} {hf of : Bool} {xf : ByteArray} {xhf xof : Bool} (h : true = (xhf && (!hf || klt f xf || (decide (xf = f) && xof)))) : (xf, true, xof) = stepLo f hf of xf xhf xof := by unfold stepLo; rw [if_pos h.symm]
theorem stepLo_false {f : ByteArray} {hf of : Bool} {xf : ByteArray} {xhf xof : Bool} (h : false = (xhf && (!hf || klt f xf || (decide (xf = f) && xof)))) : (f, hf, of) = stepLo f hf of xf xhf xof := by unfold stepLo; rw [← h, if_neg (by decide)]
theorem stepHi_true {f : ByteArray} {hf of : Bool} {xf : ByteArray} {xhf xof : Bool} (h : true = (xhf && (!hf || klt xf f || (decide (xf = f) && xof)))) : (xf, true, xof) = stepHi f hf of xf xhf xof := by unfold stepHi; rw [if_pos h.symm]
theorem stepHi_false {f : ByteArray} {hf of : Bool} {xf : ByteArray} {xhf xof : Bool} (h : false = (xhf && (!hf || klt xf f || (decide (xf = f) && xof)))) : (f, hf, of) = stepHi f hf of xf xhf xof := by unfold stepHi; rw [← h, if_neg (by decide)]

set_option maxRecDepth 100000 in
set_option maxHeartbeats 8000000 in
theorem meet19 (w : World) (f1 t1 : ByteArray) (hf1 ht1 of1 ot1 : Bool) (f2 t2 : ByteArray) (hf2 ht2 of2 ot2 : Bool) :
    Calls Try.prog 19 #[.agg #[.string f1, .string t1, .bool hf1, .bool ht1, .bool of1, .bool ot1], .agg #[.string f2, .string t2, .bool hf2, .bool ht2, .bool of2, .bool ot2]] w fun e w' =>
      ∃ (f t : ByteArray) (hf ht of ot : Bool), e = .returned (.agg #[.string f, .string t, .bool hf, .bool ht, .bool of, .bool ot]) ∧ Hid (narB true f1 hf1 of1 f2 hf2 of2 = (f, hf, of) ∧ narB false t1 ht1 ot1 t2 ht2 ot2 = (t, ht, ot)) ∧ Hid (Below w.heap.size w w') := by
  have start := Lib.hid (show M19 w (rcells f1 t1 hf1 ht1 of1 ot1) (rcells f2 t2 hf2 ht2 of2 ot2) (rcells ⟨#[]⟩ ⟨#[]⟩ false false false false) ((((w.alloc (.cells (rcells f1 t1 hf1 ht1 of1 ot1) 23)).alloc (.cells (rcells f2 t2 hf2 ht2 of2 ot2) 23)).alloc (.cells (rcells ⟨#[]⟩ ⟨#[]⟩ false false false false) 23)).alloc (.cells (rcells ⟨#[]⟩ ⟨#[]⟩ false false false false) 23)) from by
    have b1 := Blk.new w 23 (rcells f1 t1 hf1 ht1 of1 ot1)
    have b2 := Blk.new (w.alloc (.cells (rcells f1 t1 hf1 ht1 of1 ot1) 23)) 23 (rcells f2 t2 hf2 ht2 of2 ot2)
    have b3 := Blk.new ((w.alloc (.cells (rcells f1 t1 hf1 ht1 of1 ot1) 23)).alloc (.cells (rcells f2 t2 hf2 ht2 of2 ot2) 23)) 23 (rcells ⟨#[]⟩ ⟨#[]⟩ false false false false)
    have b4 := Blk.new (((w.alloc (.cells (rcells f1 t1 hf1 ht1 of1 ot1) 23)).alloc (.cells (rcells f2 t2 hf2 ht2 of2 ot2) 23)).alloc (.cells (rcells ⟨#[]⟩ ⟨#[]⟩ false false false false) 23)) 23 (rcells ⟨#[]⟩ ⟨#[]⟩ false false false false)
    simp only [World.size_alloc] at b2 b3 b4
    exact ⟨((b1.alloc _).alloc _).alloc _, (b2.alloc _).alloc _, b3.alloc _, b4, by go_grown, by simp only [World.size_alloc]; omega⟩)
  go_enter Try.func19, Try.ntmps19
  go_wp2_with fail
  go_loopg [6] 2 (fun kx s6 wr => ∃ (i : Nat) (f t : ByteArray) (hf ht of ot : Bool), s6 = .int .i64 i ∧ kx + i = 2 ∧ Hid (M19 w (rcells f1 t1 hf1 ht1 of1 ot1) (rcells f2 t2 hf2 ht2 of2 ot2) (rcells f t hf ht of ot) wr) ∧
    Hid ((i = 0 → (f, hf, of) = (⟨#[]⟩, false, false) ∧ (t, ht, ot) = (⟨#[]⟩, false, false)) ∧ (i = 1 → (f, hf, of) = stepLo ⟨#[]⟩ false false f1 hf1 of1 ∧ (t, ht, ot) = stepHi ⟨#[]⟩ false false t1 ht1 ot1) ∧
      (i = 2 → (f, hf, of) = narB true f1 hf1 of1 f2 hf2 of2 ∧ (t, ht, ot) = narB false t1 ht1 ot1 t2 ht2 ot2)))
  case atStart => exact ⟨0, ⟨#[]⟩, ⟨#[]⟩, false, false, false, false, rfl, rfl, start, Lib.hid ⟨fun _ => ⟨rfl, rfl⟩, fun h => by omega, fun h => by omega⟩⟩
  case round =>
    obtain ⟨i, f, t, hf, ht, of, ot, rfl, hk, I, K⟩ := hrel
    clear start
    by_cases hi : i < 2
    · have hi2 : i = 0 ∨ i = 1 := by omega
      rcases hi2 with rfl | rfl
      · obtain ⟨a0, a1, a2, a3, a4, a5⟩ := six6 I.out.a
        obtain ⟨r0, r1, r2, r3, r4, r5⟩ := six6 I.out.r
        obtain ⟨p, hp⟩ : ∃ p, p = wr.heap.size := ⟨_, rfl⟩
        have hpm : w.heap.size + 1 + 1 + 1 + 1 ≤ p := by rw [hp]; exact I.out.more
        have n3 : w.heap.size + 1 + 1 + 1 ≠ p := by omega
        have n3' : p ≠ w.heap.size + 1 + 1 + 1 := by omega
        have HP := Lib.hid hp
        clear hp
        have HJ0 := Lib.hid (show ∀ E : World, E = (wr.alloc (.cells #[.string f1, .string t1, .bool hf1, .bool ht1, .bool of1, .bool ot1] 23)) → M19 w (rcells f1 t1 hf1 ht1 of1 ot1) (rcells f2 t2 hf2 ht2 of2 ot2) (rcells f t hf ht of ot) E ∧ Blk E wr.heap.size 23 (rcells f1 t1 hf1 ht1 of1 ot1) from fun E hE => by rw [hE]; exact ⟨I.out.alloc _, Blk.new wr 23 _⟩)
        go_upto_region 8 with fail
        generalize hW : (wr.alloc (.cells #[.string f1, .string t1, .bool hf1, .bool ht1, .bool of1, .bool ot1] 23)) = W
        have J := Lib.hid (HJ0.out W hW.symm)
        clear hW HJ0 I a0 a1 a2 a3 a4 a5 r0 r1 r2 r3 r4 r5
        rw [← HP.out] at J ⊢
        obtain ⟨x0, x1, x2, x3, x4, x5⟩ := six6 J.out.2
        obtain ⟨r0, r1, r2, r3, r4, r5⟩ := six6 J.out.1.r
        go_cut [41] from 17 to 40 (fun sb wc => ∃ b : Bool, sb = .bool b ∧ Hid (b = (hf1 && (!hf || klt f f1 || (decide (f1 = f) && of1)))) ∧ wc = W)
        case first =>
          rcases end_cases f hf f1 hf1 of1 with rfl | ⟨rfl, rfl⟩ | ⟨rfl, rfl, h1, h2, h3⟩ | ⟨rfl, rfl, h1, h2, h3, rfl⟩ | ⟨rfl, rfl, h1, h2, h3, rfl⟩ | ⟨rfl, rfl, h1, h2, h3⟩
          · go_wp2_with fail
            go_meet
            case rel => exact ⟨_, rfl, Lib.hid (by simp), rfl⟩
          · go_wp2_with fail
            go_meet
            case rel => exact ⟨_, rfl, Lib.hid (by simp), rfl⟩
          · have q1 : Op.bytesLess f.toList f1.toList = true := h1
            have q2 : Op.bytesLess f1.toList f.toList = false := h2
            have q3 : (f1.toList == f.toList) = false := by rw [beq_toList]; exact h3
            have E := Lib.hid (And.intro h1 (And.intro h2 h3))
            clear h1 h2 h3
            go_wp2_with fail
            go_meet
            case rel => exact ⟨_, rfl, Lib.hid (by have h1 := E.out.1; have h2 := E.out.2.1; have h3 := E.out.2.2; simp [h1, h2, h3]), rfl⟩
          · have q1 : Op.bytesLess f.toList f1.toList = false := h1
            have q2 : Op.bytesLess f1.toList f.toList = false := h2
            have q3 : (f1.toList == f.toList) = true := by rw [beq_toList]; exact h3
            have E := Lib.hid (And.intro h1 (And.intro h2 h3))
            clear h1 h2 h3
            go_wp2_with fail
            go_meet
            case rel => exact ⟨_, rfl, Lib.hid (by have h1 := E.out.1; have h2 := E.out.2.1; have h3 := E.out.2.2; simp [h1, h2, h3]), rfl⟩
          · have q1 : Op.bytesLess f.toList f1.toList = false := h1
            have q2 : Op.bytesLess f1.toList f.toList = false := h2
            have q3 : (f1.toList == f.toList) = true := by rw [beq_toList]; exact h3
            have E := Lib.hid (And.intro h1 (And.intro h2 h3))
            clear h1 h2 h3
            go_wp2_with fail
            go_meet
            case rel => exact ⟨_, rfl, Lib.hid (by have h1 := E.out.1; have h2 := E.out.2.1; have h3 := E.out.2.2; simp [h1, h2, h3]), rfl⟩
          · have q1 : Op.bytesLess f.toList f1.toList = false := h1
            have q2 : Op.bytesLess f1.toList f.toList = true := h2
            have q3 : (f1.toList == f.toList) = false := by rw [beq_toList]; exact h3
            have E := Lib.hid (And.intro h1 (And.intro h2 h3))
            clear h1 h2 h3
            go_wp2_with fail
            go_meet
            case rel => exact ⟨_, rfl, Lib.hid (by have h1 := E.out.1; have h2 := E.out.2.1; have h3 := E.out.2.2; simp [h1, h2, h3]), rfl⟩
        case rest =>
          obtain ⟨b, rfl, K1, rfl⟩ := hcut
          cases b
          · go_upto_region 10 with fail
            have J0 := Lib.hid (And.intro J.out (Eq.refl wc))
            clear x0 x1 x2 x3 x4 x5 r0 r1 r2 r3 r4 r5
            clear J
            have J := Lib.hid J0.out.1
            clear J0
            obtain ⟨W, hW⟩ : ∃ W, W = wc := ⟨_, rfl⟩
            rw [← hW] at J ⊢
            clear hW
            obtain ⟨x0, x1, x2, x3, x4, x5⟩ := six6 J.out.2
            obtain ⟨r0, r1, r2, r3, r4, r5⟩ := six6 J.out.1.r
            go_cut [73] from 49 to 72 (fun sb wc => ∃ b : Bool, sb = .bool b ∧ Hid (b = (ht1 && (!ht || klt t1 t || (decide (t1 = t) && ot1)))) ∧ wc = W)
            case first =>
              rcases end_cases t ht t1 ht1 ot1 with rfl | ⟨rfl, rfl⟩ | ⟨rfl, rfl, h1, h2, h3⟩ | ⟨rfl, rfl, h1, h2, h3, rfl⟩ | ⟨rfl, rfl, h1, h2, h3, rfl⟩ | ⟨rfl, rfl, h1, h2, h3⟩
              · go_wp2_with fail
                go_meet
                case rel => exact ⟨_, rfl, Lib.hid (by simp), rfl⟩
              · go_wp2_with fail
                go_meet
                case rel => exact ⟨_, rfl, Lib.hid (by simp), rfl⟩
              · have q1 : Op.bytesLess t.toList t1.toList = true := h1
                have q2 : Op.bytesLess t1.toList t.toList = false := h2
                have q3 : (t1.toList == t.toList) = false := by rw [beq_toList]; exact h3
                have E := Lib.hid (And.intro h1 (And.intro h2 h3))
                clear h1 h2 h3
                go_wp2_with fail
                go_meet
                case rel => exact ⟨_, rfl, Lib.hid (by have h1 := E.out.1; have h2 := E.out.2.1; have h3 := E.out.2.2; simp [h1, h2, h3]), rfl⟩
              · have q1 : Op.bytesLess t.toList t1.toList = false := h1
                have q2 : Op.bytesLess t1.toList t.toList = false := h2
                have q3 : (t1.toList == t.toList) = true := by rw [beq_toList]; exact h3
                have E := Lib.hid (And.intro h1 (And.intro h2 h3))
                clear h1 h2 h3
                go_wp2_with fail
                go_meet
                case rel => exact ⟨_, rfl, Lib.hid (by have h1 := E.out.1; have h2 := E.out.2.1; have h3 := E.out.2.2; simp [h1, h2, h3]), rfl⟩
              · have q1 : Op.bytesLess t.toList t1.toList = false := h1
                have q2 : Op.bytesLess t1.toList t.toList = false := h2
                have q3 : (t1.toList == t.toList) = true := by rw [beq_toList]; exact h3
                have E := Lib.hid (And.intro h1 (And.intro h2 h3))
                clear h1 h2 h3
                go_wp2_with fail
                go_meet
                case rel => exact ⟨_, rfl, Lib.hid (by have h1 := E.out.1; have h2 := E.out.2.1; have h3 := E.out.2.2; simp [h1, h2, h3]), rfl⟩
              · have q1 : Op.bytesLess t.toList t1.toList = false := h1
                have q2 : Op.bytesLess t1.toList t.toList = true := h2
                have q3 : (t1.toList == t.toList) = false := by rw [beq_toList]; exact h3
                have E := Lib.hid (And.intro h1 (And.intro h2 h3))
                clear h1 h2 h3
                go_wp2_with fail
                go_meet
                case rel => exact ⟨_, rfl, Lib.hid (by have h1 := E.out.1; have h2 := E.out.2.1; have h3 := E.out.2.2; simp [h1, h2, h3]), rfl⟩
            case rest =>
              obtain ⟨b, rfl, K2, rfl⟩ := hcut
              cases b
              · go_wp2_with fail
                go_roundg (gk - 1)
                case measure => omega
                case rel =>
                  refine ⟨1, f, t, hf, ht, of, ot, rfl, by omega, Lib.hid J.out.1, Lib.hid ?_⟩
                  have l1 := stepLo_false (of := of) K1.out
                  have l2 := stepHi_false (of := ot) K2.out
                  obtain ⟨e1, e2⟩ := K.out.1 (by simp)
                  simp only [Prod.mk.injEq] at e1 e2
                  obtain ⟨q1, q2, q3⟩ := e1
                  obtain ⟨q4, q5, q6⟩ := e2
                  rw [q1, q2, q3] at l1
                  rw [q4, q5, q6] at l2
                  exact ⟨fun h => by omega, fun _ => ⟨by first | exact l1 | (rw [q1, q2, q3]; exact l1), by first | exact l2 | (rw [q4, q5, q6]; exact l2)⟩, fun h => by omega⟩
              · skip
                have g0 : wc.frozen? ⟨w.heap.size + 1 + 1 + 1, 0, none⟩ = false := J.out.1.r.frozen 0
                have g1 : wc.frozen? ⟨w.heap.size + 1 + 1 + 1, 1, none⟩ = false := J.out.1.r.frozen 1
                have g2 : wc.frozen? ⟨w.heap.size + 1 + 1 + 1, 2, none⟩ = false := J.out.1.r.frozen 2
                have g3 : wc.frozen? ⟨w.heap.size + 1 + 1 + 1, 3, none⟩ = false := J.out.1.r.frozen 3
                have g4 : wc.frozen? ⟨w.heap.size + 1 + 1 + 1, 4, none⟩ = false := J.out.1.r.frozen 4
                have g5 : wc.frozen? ⟨w.heap.size + 1 + 1 + 1, 5, none⟩ = false := J.out.1.r.frozen 5
                go_wp2_with fail
                go_region
                go_wp2_with fail
                have J1 := Lib.hid (show M19 w (rcells f1 t1 hf1 ht1 of1 ot1) (rcells f2 t2 hf2 ht2 of2 ot2) (rcells f t1 hf true of ot1) ((((wc.setCell ⟨w.heap.size + 1 + 1 + 1, 1, none⟩ (.string t1)).setCell ⟨w.heap.size + 1 + 1 + 1, 3, none⟩ (.bool true)).setCell ⟨w.heap.size + 1 + 1 + 1, 5, none⟩ (.bool ot1)).drew) ∧ Blk ((((wc.setCell ⟨w.heap.size + 1 + 1 + 1, 1, none⟩ (.string t1)).setCell ⟨w.heap.size + 1 + 1 + 1, 3, none⟩ (.bool true)).setCell ⟨w.heap.size + 1 + 1 + 1, 5, none⟩ (.bool ot1)).drew) p 23 (rcells f1 t1 hf1 ht1 of1 ot1) from ⟨(((J.out.1.set 1 _).set 3 _).set 5 _).drew, (((J.out.2.far n3' _).far n3' _).far n3' _).drew⟩)
                clear x0 x1 x2 x3 x4 x5 r0 r1 r2 r3 r4 r5 g0 g1 g2 g3 g4 g5 J
                have J := J1
                clear J1
                go_roundg (gk - 1)
                case measure => omega
                case rel =>
                  refine ⟨1, f, t1, hf, true, of, ot1, rfl, by omega, Lib.hid J.out.1, Lib.hid ?_⟩
                  have l1 := stepLo_false (of := of) K1.out
                  have l2 := stepHi_true (of := ot) K2.out
                  obtain ⟨e1, e2⟩ := K.out.1 (by simp)
                  simp only [Prod.mk.injEq] at e1 e2
                  obtain ⟨q1, q2, q3⟩ := e1
                  obtain ⟨q4, q5, q6⟩ := e2
                  rw [q1, q2, q3] at l1
                  rw [q4, q5, q6] at l2
                  exact ⟨fun h => by omega, fun _ => ⟨by first | exact l1 | (rw [q1, q2, q3]; exact l1), by first | exact l2 | (rw [q4, q5, q6]; exact l2)⟩, fun h => by omega⟩
          · skip
            have g0 : wc.frozen? ⟨w.heap.size + 1 + 1 + 1, 0, none⟩ = false := J.out.1.r.frozen 0
            have g1 : wc.frozen? ⟨w.heap.size + 1 + 1 + 1, 1, none⟩ = false := J.out.1.r.frozen 1
            have g2 : wc.frozen? ⟨w.heap.size + 1 + 1 + 1, 2, none⟩ = false := J.out.1.r.frozen 2
            have g3 : wc.frozen? ⟨w.heap.size + 1 + 1 + 1, 3, none⟩ = false := J.out.1.r.frozen 3
            have g4 : wc.frozen? ⟨w.heap.size + 1 + 1 + 1, 4, none⟩ = false := J.out.1.r.frozen 4
            have g5 : wc.frozen? ⟨w.heap.size + 1 + 1 + 1, 5, none⟩ = false := J.out.1.r.frozen 5
            go_wp2_with fail
            go_region
            go_upto_region 10 with fail
            have J1 := Lib.hid (show M19 w (rcells f1 t1 hf1 ht1 of1 ot1) (rcells f2 t2 hf2 ht2 of2 ot2) (rcells f1 t true ht of1 ot) ((((wc.setCell ⟨w.heap.size + 1 + 1 + 1, 0, none⟩ (.string f1)).setCell ⟨w.heap.size + 1 + 1 + 1, 2, none⟩ (.bool true)).setCell ⟨w.heap.size + 1 + 1 + 1, 4, none⟩ (.bool of1)).drew) ∧ Blk ((((wc.setCell ⟨w.heap.size + 1 + 1 + 1, 0, none⟩ (.string f1)).setCell ⟨w.heap.size + 1 + 1 + 1, 2, none⟩ (.bool true)).setCell ⟨w.heap.size + 1 + 1 + 1, 4, none⟩ (.bool of1)).drew) p 23 (rcells f1 t1 hf1 ht1 of1 ot1) from ⟨(((J.out.1.set 0 _).set 2 _).set 4 _).drew, (((J.out.2.far n3' _).far n3' _).far n3' _).drew⟩)
            clear x0 x1 x2 x3 x4 x5 r0 r1 r2 r3 r4 r5 g0 g1 g2 g3 g4 g5 J
            generalize ((((wc.setCell ⟨w.heap.size + 1 + 1 + 1, 0, none⟩ (.string f1)).setCell ⟨w.heap.size + 1 + 1 + 1, 2, none⟩ (.bool true)).setCell ⟨w.heap.size + 1 + 1 + 1, 4, none⟩ (.bool of1)).drew) = W at J1 ⊢
            have J := J1
            clear J1
            obtain ⟨x0, x1, x2, x3, x4, x5⟩ := six6 J.out.2
            obtain ⟨r0, r1, r2, r3, r4, r5⟩ := six6 J.out.1.r
            go_cut [73] from 49 to 72 (fun sb wc => ∃ b : Bool, sb = .bool b ∧ Hid (b = (ht1 && (!ht || klt t1 t || (decide (t1 = t) && ot1)))) ∧ wc = W)
            case first =>
              rcases end_cases t ht t1 ht1 ot1 with rfl | ⟨rfl, rfl⟩ | ⟨rfl, rfl, h1, h2, h3⟩ | ⟨rfl, rfl, h1, h2, h3, rfl⟩ | ⟨rfl, rfl, h1, h2, h3, rfl⟩ | ⟨rfl, rfl, h1, h2, h3⟩
              · go_wp2_with fail
                go_meet
                case rel => exact ⟨_, rfl, Lib.hid (by simp), rfl⟩
              · go_wp2_with fail
                go_meet
                case rel => exact ⟨_, rfl, Lib.hid (by simp), rfl⟩
              · have q1 : Op.bytesLess t.toList t1.toList = true := h1
                have q2 : Op.bytesLess t1.toList t.toList = false := h2
                have q3 : (t1.toList == t.toList) = false := by rw [beq_toList]; exact h3
                have E := Lib.hid (And.intro h1 (And.intro h2 h3))
                clear h1 h2 h3
                go_wp2_with fail
                go_meet
                case rel => exact ⟨_, rfl, Lib.hid (by have h1 := E.out.1; have h2 := E.out.2.1; have h3 := E.out.2.2; simp [h1, h2, h3]), rfl⟩
              · have q1 : Op.bytesLess t.toList t1.toList = false := h1
                have q2 : Op.bytesLess t1.toList t.toList = false := h2
                have q3 : (t1.toList == t.toList) = true := by rw [beq_toList]; exact h3
                have E := Lib.hid (And.intro h1 (And.intro h2 h3))
                clear h1 h2 h3
                go_wp2_with fail
                go_meet
                case rel => exact ⟨_, rfl, Lib.hid (by have h1 := E.out.1; have h2 := E.out.2.1; have h3 := E.out.2.2; simp [h1, h2, h3]), rfl⟩
              · have q1 : Op.bytesLess t.toList t1.toList = false := h1
                have q2 : Op.bytesLess t1.toList t.toList = false := h2
                have q3 : (t1.toList == t.toList) = true := by rw [beq_toList]; exact h3
                have E := Lib.hid (And.intro h1 (And.intro h2 h3))
                clear h1 h2 h3
                go_wp2_with fail
                go_meet
                case rel => exact ⟨_, rfl, Lib.hid (by have h1 := E.out.1; have h2 := E.out.2.1; have h3 := E.out.2.2; simp [h1, h2, h3]), rfl⟩
              · have q1 : Op.bytesLess t.toList t1.toList = false := h1
                have q2 : Op.bytesLess t1.toList t.toList = true := h2
                have q3 : (t1.toList == t.toList) = false := by rw [beq_toList]; exact h3
                have E := Lib.hid (And.intro h1 (And.intro h2 h3))
                clear h1 h2 h3
                go_wp2_with fail
                go_meet
                case rel => exact ⟨_, rfl, Lib.hid (by have h1 := E.out.1; have h2 := E.out.2.1; have h3 := E.out.2.2; simp [h1, h2, h3]), rfl⟩
            case rest =>
              obtain ⟨b, rfl, K2, rfl⟩ := hcut
              cases b
              · go_wp2_with fail
                go_roundg (gk - 1)
                case measure => omega
                case rel =>
                  refine ⟨1, f1, t, true, ht, of1, ot, rfl, by omega, Lib.hid J.out.1, Lib.hid ?_⟩
                  have l1 := stepLo_true (of := of) K1.out
                  have l2 := stepHi_false (of := ot) K2.out
                  obtain ⟨e1, e2⟩ := K.out.1 (by simp)
                  simp only [Prod.mk.injEq] at e1 e2
                  obtain ⟨q1, q2, q3⟩ := e1
                  obtain ⟨q4, q5, q6⟩ := e2
                  rw [q1, q2, q3] at l1
                  rw [q4, q5, q6] at l2
                  exact ⟨fun h => by omega, fun _ => ⟨by first | exact l1 | (rw [q1, q2, q3]; exact l1), by first | exact l2 | (rw [q4, q5, q6]; exact l2)⟩, fun h => by omega⟩
              · skip
                have g0 : wc.frozen? ⟨w.heap.size + 1 + 1 + 1, 0, none⟩ = false := J.out.1.r.frozen 0
                have g1 : wc.frozen? ⟨w.heap.size + 1 + 1 + 1, 1, none⟩ = false := J.out.1.r.frozen 1
                have g2 : wc.frozen? ⟨w.heap.size + 1 + 1 + 1, 2, none⟩ = false := J.out.1.r.frozen 2
                have g3 : wc.frozen? ⟨w.heap.size + 1 + 1 + 1, 3, none⟩ = false := J.out.1.r.frozen 3
                have g4 : wc.frozen? ⟨w.heap.size + 1 + 1 + 1, 4, none⟩ = false := J.out.1.r.frozen 4
                have g5 : wc.frozen? ⟨w.heap.size + 1 + 1 + 1, 5, none⟩ = false := J.out.1.r.frozen 5
                go_wp2_with fail
                go_region
                go_wp2_with fail
                have J1 := Lib.hid (show M19 w (rcells f1 t1 hf1 ht1 of1 ot1) (rcells f2 t2 hf2 ht2 of2 ot2) (rcells f1 t1 true true of1 ot1) ((((wc.setCell ⟨w.heap.size + 1 + 1 + 1, 1, none⟩ (.string t1)).setCell ⟨w.heap.size + 1 + 1 + 1, 3, none⟩ (.bool true)).setCell ⟨w.heap.size + 1 + 1 + 1, 5, none⟩ (.bool ot1)).drew) ∧ Blk ((((wc.setCell ⟨w.heap.size + 1 + 1 + 1, 1, none⟩ (.string t1)).setCell ⟨w.heap.size + 1 + 1 + 1, 3, none⟩ (.bool true)).setCell ⟨w.heap.size + 1 + 1 + 1, 5, none⟩ (.bool ot1)).drew) p 23 (rcells f1 t1 hf1 ht1 of1 ot1) from ⟨(((J.out.1.set 1 _).set 3 _).set 5 _).drew, (((J.out.2.far n3' _).far n3' _).far n3' _).drew⟩)
                clear x0 x1 x2 x3 x4 x5 r0 r1 r2 r3 r4 r5 g0 g1 g2 g3 g4 g5 J
                have J := J1
                clear J1
                go_roundg (gk - 1)
                case measure => omega
                case rel =>
                  refine ⟨1, f1, t1, true, true, of1, ot1, rfl, by omega, Lib.hid J.out.1, Lib.hid ?_⟩
                  have l1 := stepLo_true (of := of) K1.out
                  have l2 := stepHi_true (of := ot) K2.out
                  obtain ⟨e1, e2⟩ := K.out.1 (by simp)
                  simp only [Prod.mk.injEq] at e1 e2
                  obtain ⟨q1, q2, q3⟩ := e1
                  obtain ⟨q4, q5, q6⟩ := e2
                  rw [q1, q2, q3] at l1
                  rw [q4, q5, q6] at l2
                  exact ⟨fun h => by omega, fun _ => ⟨by first | exact l1 | (rw [q1, q2, q3]; exact l1), by first | exact l2 | (rw [q4, q5, q6]; exact l2)⟩, fun h => by omega⟩
      · obtain ⟨a0, a1, a2, a3, a4, a5⟩ := six6 I.out.a
        obtain ⟨b0, b1, b2, b3, b4, b5⟩ := six6 I.out.b
        obtain ⟨r0, r1, r2, r3, r4, r5⟩ := six6 I.out.r
        obtain ⟨p, hp⟩ : ∃ p, p = wr.heap.size := ⟨_, rfl⟩
        have hpm : w.heap.size + 1 + 1 + 1 + 1 ≤ p := by rw [hp]; exact I.out.more
        have n3 : w.heap.size + 1 + 1 + 1 ≠ p := by omega
        have n3' : p ≠ w.heap.size + 1 + 1 + 1 := by omega
        have l1 : w.heap.size + 1 < wr.heap.size := by omega
        have HP := Lib.hid hp
        clear hp
        have HJ0 := Lib.hid (show ∀ E : World, E = (wr.alloc (.cells #[.string f2, .string t2, .bool hf2, .bool ht2, .bool of2, .bool ot2] 23)) → M19 w (rcells f1 t1 hf1 ht1 of1 ot1) (rcells f2 t2 hf2 ht2 of2 ot2) (rcells f t hf ht of ot) E ∧ Blk E wr.heap.size 23 (rcells f2 t2 hf2 ht2 of2 ot2) from fun E hE => by rw [hE]; exact ⟨I.out.alloc _, Blk.new wr 23 _⟩)
        go_upto_region 8 with fail
        generalize hW : (wr.alloc (.cells #[.string f2, .string t2, .bool hf2, .bool ht2, .bool of2, .bool ot2] 23)) = W
        have J := Lib.hid (HJ0.out W hW.symm)
        clear l1 hW HJ0 I a0 a1 a2 a3 a4 a5 r0 r1 r2 r3 r4 r5 b0 b1 b2 b3 b4 b5
        rw [← HP.out] at J ⊢
        obtain ⟨x0, x1, x2, x3, x4, x5⟩ := six6 J.out.2
        obtain ⟨r0, r1, r2, r3, r4, r5⟩ := six6 J.out.1.r
        go_cut [41] from 17 to 40 (fun sb wc => ∃ b : Bool, sb = .bool b ∧ Hid (b = (hf2 && (!hf || klt f f2 || (decide (f2 = f) && of2)))) ∧ wc = W)
        case first =>
          rcases end_cases f hf f2 hf2 of2 with rfl | ⟨rfl, rfl⟩ | ⟨rfl, rfl, h1, h2, h3⟩ | ⟨rfl, rfl, h1, h2, h3, rfl⟩ | ⟨rfl, rfl, h1, h2, h3, rfl⟩ | ⟨rfl, rfl, h1, h2, h3⟩
          · go_wp2_with fail
            go_meet
            case rel => exact ⟨_, rfl, Lib.hid (by simp), rfl⟩
          · go_wp2_with fail
            go_meet
            case rel => exact ⟨_, rfl, Lib.hid (by simp), rfl⟩
          · have q1 : Op.bytesLess f.toList f2.toList = true := h1
            have q2 : Op.bytesLess f2.toList f.toList = false := h2
            have q3 : (f2.toList == f.toList) = false := by rw [beq_toList]; exact h3
            have E := Lib.hid (And.intro h1 (And.intro h2 h3))
            clear h1 h2 h3
            go_wp2_with fail
            go_meet
            case rel => exact ⟨_, rfl, Lib.hid (by have h1 := E.out.1; have h2 := E.out.2.1; have h3 := E.out.2.2; simp [h1, h2, h3]), rfl⟩
          · have q1 : Op.bytesLess f.toList f2.toList = false := h1
            have q2 : Op.bytesLess f2.toList f.toList = false := h2
            have q3 : (f2.toList == f.toList) = true := by rw [beq_toList]; exact h3
            have E := Lib.hid (And.intro h1 (And.intro h2 h3))
            clear h1 h2 h3
            go_wp2_with fail
            go_meet
            case rel => exact ⟨_, rfl, Lib.hid (by have h1 := E.out.1; have h2 := E.out.2.1; have h3 := E.out.2.2; simp [h1, h2, h3]), rfl⟩
          · have q1 : Op.bytesLess f.toList f2.toList = false := h1
            have q2 : Op.bytesLess f2.toList f.toList = false := h2
            have q3 : (f2.toList == f.toList) = true := by rw [beq_toList]; exact h3
            have E := Lib.hid (And.intro h1 (And.intro h2 h3))
            clear h1 h2 h3
            go_wp2_with fail
            go_meet
            case rel => exact ⟨_, rfl, Lib.hid (by have h1 := E.out.1; have h2 := E.out.2.1; have h3 := E.out.2.2; simp [h1, h2, h3]), rfl⟩
          · have q1 : Op.bytesLess f.toList f2.toList = false := h1
            have q2 : Op.bytesLess f2.toList f.toList = true := h2
            have q3 : (f2.toList == f.toList) = false := by rw [beq_toList]; exact h3
            have E := Lib.hid (And.intro h1 (And.intro h2 h3))
            clear h1 h2 h3
            go_wp2_with fail
            go_meet
            case rel => exact ⟨_, rfl, Lib.hid (by have h1 := E.out.1; have h2 := E.out.2.1; have h3 := E.out.2.2; simp [h1, h2, h3]), rfl⟩
        case rest =>
          obtain ⟨b, rfl, K1, rfl⟩ := hcut
          cases b
          · go_upto_region 10 with fail
            have J0 := Lib.hid (And.intro J.out (Eq.refl wc))
            clear x0 x1 x2 x3 x4 x5 r0 r1 r2 r3 r4 r5
            clear J
            have J := Lib.hid J0.out.1
            clear J0
            obtain ⟨W, hW⟩ : ∃ W, W = wc := ⟨_, rfl⟩
            rw [← hW] at J ⊢
            clear hW
            obtain ⟨x0, x1, x2, x3, x4, x5⟩ := six6 J.out.2
            obtain ⟨r0, r1, r2, r3, r4, r5⟩ := six6 J.out.1.r
            go_cut [73] from 49 to 72 (fun sb wc => ∃ b : Bool, sb = .bool b ∧ Hid (b = (ht2 && (!ht || klt t2 t || (decide (t2 = t) && ot2)))) ∧ wc = W)
            case first =>
              rcases end_cases t ht t2 ht2 ot2 with rfl | ⟨rfl, rfl⟩ | ⟨rfl, rfl, h1, h2, h3⟩ | ⟨rfl, rfl, h1, h2, h3, rfl⟩ | ⟨rfl, rfl, h1, h2, h3, rfl⟩ | ⟨rfl, rfl, h1, h2, h3⟩
              · go_wp2_with fail
                go_meet
                case rel => exact ⟨_, rfl, Lib.hid (by simp), rfl⟩
              · go_wp2_with fail
                go_meet
                case rel => exact ⟨_, rfl, Lib.hid (by simp), rfl⟩
              · have q1 : Op.bytesLess t.toList t2.toList = true := h1
                have q2 : Op.bytesLess t2.toList t.toList = false := h2
                have q3 : (t2.toList == t.toList) = false := by rw [beq_toList]; exact h3
                have E := Lib.hid (And.intro h1 (And.intro h2 h3))
                clear h1 h2 h3
                go_wp2_with fail
                go_meet
                case rel => exact ⟨_, rfl, Lib.hid (by have h1 := E.out.1; have h2 := E.out.2.1; have h3 := E.out.2.2; simp [h1, h2, h3]), rfl⟩
              · have q1 : Op.bytesLess t.toList t2.toList = false := h1
                have q2 : Op.bytesLess t2.toList t.toList = false := h2
                have q3 : (t2.toList == t.toList) = true := by rw [beq_toList]; exact h3
                have E := Lib.hid (And.intro h1 (And.intro h2 h3))
                clear h1 h2 h3
                go_wp2_with fail
                go_meet
                case rel => exact ⟨_, rfl, Lib.hid (by have h1 := E.out.1; have h2 := E.out.2.1; have h3 := E.out.2.2; simp [h1, h2, h3]), rfl⟩
              · have q1 : Op.bytesLess t.toList t2.toList = false := h1
                have q2 : Op.bytesLess t2.toList t.toList = false := h2
                have q3 : (t2.toList == t.toList) = true := by rw [beq_toList]; exact h3
                have E := Lib.hid (And.intro h1 (And.intro h2 h3))
                clear h1 h2 h3
                go_wp2_with fail
                go_meet
                case rel => exact ⟨_, rfl, Lib.hid (by have h1 := E.out.1; have h2 := E.out.2.1; have h3 := E.out.2.2; simp [h1, h2, h3]), rfl⟩
              · have q1 : Op.bytesLess t.toList t2.toList = false := h1
                have q2 : Op.bytesLess t2.toList t.toList = true := h2
                have q3 : (t2.toList == t.toList) = false := by rw [beq_toList]; exact h3
                have E := Lib.hid (And.intro h1 (And.intro h2 h3))
                clear h1 h2 h3
                go_wp2_with fail
                go_meet
                case rel => exact ⟨_, rfl, Lib.hid (by have h1 := E.out.1; have h2 := E.out.2.1; have h3 := E.out.2.2; simp [h1, h2, h3]), rfl⟩
            case rest =>
              obtain ⟨b, rfl, K2, rfl⟩ := hcut
              cases b
              · go_wp2_with fail
                go_roundg (gk - 1)
                case measure => omega
                case rel =>
                  refine ⟨2, f, t, hf, ht, of, ot, rfl, by omega, Lib.hid J.out.1, Lib.hid ?_⟩
                  have l1 := stepLo_false (of := of) K1.out
                  have l2 := stepHi_false (of := ot) K2.out
                  obtain ⟨e1, e2⟩ := K.out.2.1 (by simp)
                  have s1 := steps_lo f1 hf1 of1 f2 hf2 of2
                  have s2 := steps_hi t1 ht1 ot1 t2 ht2 ot2
                  rw [← e1] at s1
                  rw [← e2] at s2
                  exact ⟨fun h => by omega, fun h => by omega, fun _ => ⟨l1.trans s1, l2.trans s2⟩⟩
              · skip
                have g0 : wc.frozen? ⟨w.heap.size + 1 + 1 + 1, 0, none⟩ = false := J.out.1.r.frozen 0
                have g1 : wc.frozen? ⟨w.heap.size + 1 + 1 + 1, 1, none⟩ = false := J.out.1.r.frozen 1
                have g2 : wc.frozen? ⟨w.heap.size + 1 + 1 + 1, 2, none⟩ = false := J.out.1.r.frozen 2
                have g3 : wc.frozen? ⟨w.heap.size + 1 + 1 + 1, 3, none⟩ = false := J.out.1.r.frozen 3
                have g4 : wc.frozen? ⟨w.heap.size + 1 + 1 + 1, 4, none⟩ = false := J.out.1.r.frozen 4
                have g5 : wc.frozen? ⟨w.heap.size + 1 + 1 + 1, 5, none⟩ = false := J.out.1.r.frozen 5
                go_wp2_with fail
                go_region
                go_wp2_with fail
                have J1 := Lib.hid (show M19 w (rcells f1 t1 hf1 ht1 of1 ot1) (rcells f2 t2 hf2 ht2 of2 ot2) (rcells f t2 hf true of ot2) ((((wc.setCell ⟨w.heap.size + 1 + 1 + 1, 1, none⟩ (.string t2)).setCell ⟨w.heap.size + 1 + 1 + 1, 3, none⟩ (.bool true)).setCell ⟨w.heap.size + 1 + 1 + 1, 5, none⟩ (.bool ot2)).drew) ∧ Blk ((((wc.setCell ⟨w.heap.size + 1 + 1 + 1, 1, none⟩ (.string t2)).setCell ⟨w.heap.size + 1 + 1 + 1, 3, none⟩ (.bool true)).setCell ⟨w.heap.size + 1 + 1 + 1, 5, none⟩ (.bool ot2)).drew) p 23 (rcells f2 t2 hf2 ht2 of2 ot2) from ⟨(((J.out.1.set 1 _).set 3 _).set 5 _).drew, (((J.out.2.far n3' _).far n3' _).far n3' _).drew⟩)
                clear x0 x1 x2 x3 x4 x5 r0 r1 r2 r3 r4 r5 g0 g1 g2 g3 g4 g5 J
                have J := J1
                clear J1
                go_roundg (gk - 1)
                case measure => omega
                case rel =>
                  refine ⟨2, f, t2, hf, true, of, ot2, rfl, by omega, Lib.hid J.out.1, Lib.hid ?_⟩
                  have l1 := stepLo_false (of := of) K1.out
                  have l2 := stepHi_true (of := ot) K2.out
                  obtain ⟨e1, e2⟩ := K.out.2.1 (by simp)
                  have s1 := steps_lo f1 hf1 of1 f2 hf2 of2
                  have s2 := steps_hi t1 ht1 ot1 t2 ht2 ot2
                  rw [← e1] at s1
                  rw [← e2] at s2
                  exact ⟨fun h => by omega, fun h => by omega, fun _ => ⟨l1.trans s1, l2.trans s2⟩⟩
          · skip
            have g0 : wc.frozen? ⟨w.heap.size + 1 + 1 + 1, 0, none⟩ = false := J.out.1.r.frozen 0
            have g1 : wc.frozen? ⟨w.heap.size + 1 + 1 + 1, 1, none⟩ = false := J.out.1.r.frozen 1
            have g2 : wc.frozen? ⟨w.heap.size + 1 + 1 + 1, 2, none⟩ = false := J.out.1.r.frozen 2
            have g3 : wc.frozen? ⟨w.heap.size + 1 + 1 + 1, 3, none⟩ = false := J.out.1.r.frozen 3
            have g4 : wc.frozen? ⟨w.heap.size + 1 + 1 + 1, 4, none⟩ = false := J.out.1.r.frozen 4
            have g5 : wc.frozen? ⟨w.heap.size + 1 + 1 + 1, 5, none⟩ = false := J.out.1.r.frozen 5
            go_wp2_with fail
            go_region
            go_upto_region 10 with fail
            have J1 := Lib.hid (show M19 w (rcells f1 t1 hf1 ht1 of1 ot1) (rcells f2 t2 hf2 ht2 of2 ot2) (rcells f2 t true ht of2 ot) ((((wc.setCell ⟨w.heap.size + 1 + 1 + 1, 0, none⟩ (.string f2)).setCell ⟨w.heap.size + 1 + 1 + 1, 2, none⟩ (.bool true)).setCell ⟨w.heap.size + 1 + 1 + 1, 4, none⟩ (.bool of2)).drew) ∧ Blk ((((wc.setCell ⟨w.heap.size + 1 + 1 + 1, 0, none⟩ (.string f2)).setCell ⟨w.heap.size + 1 + 1 + 1, 2, none⟩ (.bool true)).setCell ⟨w.heap.size + 1 + 1 + 1, 4, none⟩ (.bool of2)).drew) p 23 (rcells f2 t2 hf2 ht2 of2 ot2) from ⟨(((J.out.1.set 0 _).set 2 _).set 4 _).drew, (((J.out.2.far n3' _).far n3' _).far n3' _).drew⟩)
            clear x0 x1 x2 x3 x4 x5 r0 r1 r2 r3 r4 r5 g0 g1 g2 g3 g4 g5 J
            generalize ((((wc.setCell ⟨w.heap.size + 1 + 1 + 1, 0, none⟩ (.string f2)).setCell ⟨w.heap.size + 1 + 1 + 1, 2, none⟩ (.bool true)).setCell ⟨w.heap.size + 1 + 1 + 1, 4, none⟩ (.bool of2)).drew) = W at J1 ⊢
            have J := J1
            clear J1
            obtain ⟨x0, x1, x2, x3, x4, x5⟩ := six6 J.out.2
            obtain ⟨r0, r1, r2, r3, r4, r5⟩ := six6 J.out.1.r
            go_cut [73] from 49 to 72 (fun sb wc => ∃ b : Bool, sb = .bool b ∧ Hid (b = (ht2 && (!ht || klt t2 t || (decide (t2 = t) && ot2)))) ∧ wc = W)
            case first =>
              rcases end_cases t ht t2 ht2 ot2 with rfl | ⟨rfl, rfl⟩ | ⟨rfl, rfl, h1, h2, h3⟩ | ⟨rfl, rfl, h1, h2, h3, rfl⟩ | ⟨rfl, rfl, h1, h2, h3, rfl⟩ | ⟨rfl, rfl, h1, h2, h3⟩
              · go_wp2_with fail
                go_meet
                case rel => exact ⟨_, rfl, Lib.hid (by simp), rfl⟩
              · go_wp2_with fail
                go_meet
                case rel => exact ⟨_, rfl, Lib.hid (by simp), rfl⟩
              · have q1 : Op.bytesLess t.toList t2.toList = true := h1
                have q2 : Op.bytesLess t2.toList t.toList = false := h2
                have q3 : (t2.toList == t.toList) = false := by rw [beq_toList]; exact h3
                have E := Lib.hid (And.intro h1 (And.intro h2 h3))
                clear h1 h2 h3
                go_wp2_with fail
                go_meet
                case rel => exact ⟨_, rfl, Lib.hid (by have h1 := E.out.1; have h2 := E.out.2.1; have h3 := E.out.2.2; simp [h1, h2, h3]), rfl⟩
              · have q1 : Op.bytesLess t.toList t2.toList = false := h1
                have q2 : Op.bytesLess t2.toList t.toList = false := h2
                have q3 : (t2.toList == t.toList) = true := by rw [beq_toList]; exact h3
                have E := Lib.hid (And.intro h1 (And.intro h2 h3))
                clear h1 h2 h3
                go_wp2_with fail
                go_meet
                case rel => exact ⟨_, rfl, Lib.hid (by have h1 := E.out.1; have h2 := E.out.2.1; have h3 := E.out.2.2; simp [h1, h2, h3]), rfl⟩
              · have q1 : Op.bytesLess t.toList t2.toList = false := h1
                have q2 : Op.bytesLess t2.toList t.toList = false := h2
                have q3 : (t2.toList == t.toList) = true := by rw [beq_toList]; exact h3
                have E := Lib.hid (And.intro h1 (And.intro h2 h3))
                clear h1 h2 h3
                go_wp2_with fail
                go_meet
                case rel => exact ⟨_, rfl, Lib.hid (by have h1 := E.out.1; have h2 := E.out.2.1; have h3 := E.out.2.2; simp [h1, h2, h3]), rfl⟩
              · have q1 : Op.bytesLess t.toList t2.toList = false := h1
                have q2 : Op.bytesLess t2.toList t.toList = true := h2
                have q3 : (t2.toList == t.toList) = false := by rw [beq_toList]; exact h3
                have E := Lib.hid (And.intro h1 (And.intro h2 h3))
                clear h1 h2 h3
                go_wp2_with fail
                go_meet
                case rel => exact ⟨_, rfl, Lib.hid (by have h1 := E.out.1; have h2 := E.out.2.1; have h3 := E.out.2.2; simp [h1, h2, h3]), rfl⟩
            case rest =>
              obtain ⟨b, rfl, K2, rfl⟩ := hcut
              cases b
              · go_wp2_with fail
                go_roundg (gk - 1)
                case measure => omega
                case rel =>
                  refine ⟨2, f2, t, true, ht, of2, ot, rfl, by omega, Lib.hid J.out.1, Lib.hid ?_⟩
                  have l1 := stepLo_true (of := of) K1.out
                  have l2 := stepHi_false (of := ot) K2.out
                  obtain ⟨e1, e2⟩ := K.out.2.1 (by simp)
                  have s1 := steps_lo f1 hf1 of1 f2 hf2 of2
                  have s2 := steps_hi t1 ht1 ot1 t2 ht2 ot2
                  rw [← e1] at s1
                  rw [← e2] at s2
                  exact ⟨fun h => by omega, fun h => by omega, fun _ => ⟨l1.trans s1, l2.trans s2⟩⟩
              · skip
                have g0 : wc.frozen? ⟨w.heap.size + 1 + 1 + 1, 0, none⟩ = false := J.out.1.r.frozen 0
                have g1 : wc.frozen? ⟨w.heap.size + 1 + 1 + 1, 1, none⟩ = false := J.out.1.r.frozen 1
                have g2 : wc.frozen? ⟨w.heap.size + 1 + 1 + 1, 2, none⟩ = false := J.out.1.r.frozen 2
                have g3 : wc.frozen? ⟨w.heap.size + 1 + 1 + 1, 3, none⟩ = false := J.out.1.r.frozen 3
                have g4 : wc.frozen? ⟨w.heap.size + 1 + 1 + 1, 4, none⟩ = false := J.out.1.r.frozen 4
                have g5 : wc.frozen? ⟨w.heap.size + 1 + 1 + 1, 5, none⟩ = false := J.out.1.r.frozen 5
                go_wp2_with fail
                go_region
                go_wp2_with fail
                have J1 := Lib.hid (show M19 w (rcells f1 t1 hf1 ht1 of1 ot1) (rcells f2 t2 hf2 ht2 of2 ot2) (rcells f2 t2 true true of2 ot2) ((((wc.setCell ⟨w.heap.size + 1 + 1 + 1, 1, none⟩ (.string t2)).setCell ⟨w.heap.size + 1 + 1 + 1, 3, none⟩ (.bool true)).setCell ⟨w.heap.size + 1 + 1 + 1, 5, none⟩ (.bool ot2)).drew) ∧ Blk ((((wc.setCell ⟨w.heap.size + 1 + 1 + 1, 1, none⟩ (.string t2)).setCell ⟨w.heap.size + 1 + 1 + 1, 3, none⟩ (.bool true)).setCell ⟨w.heap.size + 1 + 1 + 1, 5, none⟩ (.bool ot2)).drew) p 23 (rcells f2 t2 hf2 ht2 of2 ot2) from ⟨(((J.out.1.set 1 _).set 3 _).set 5 _).drew, (((J.out.2.far n3' _).far n3' _).far n3' _).drew⟩)
                clear x0 x1 x2 x3 x4 x5 r0 r1 r2 r3 r4 r5 g0 g1 g2 g3 g4 g5 J
                have J := J1
                clear J1
                go_roundg (gk - 1)
                case measure => omega
                case rel =>
                  refine ⟨2, f2, t2, true, true, of2, ot2, rfl, by omega, Lib.hid J.out.1, Lib.hid ?_⟩
                  have l1 := stepLo_true (of := of) K1.out
                  have l2 := stepHi_true (of := ot) K2.out
                  obtain ⟨e1, e2⟩ := K.out.2.1 (by simp)
                  have s1 := steps_lo f1 hf1 of1 f2 hf2 of2
                  have s2 := steps_hi t1 ht1 ot1 t2 ht2 ot2
                  rw [← e1] at s1
                  rw [← e2] at s2
                  exact ⟨fun h => by omega, fun h => by omega, fun _ => ⟨l1.trans s1, l2.trans s2⟩⟩
    · have hi2 : i = 2 := by omega
      subst hi2
      obtain ⟨r0, r1, r2, r3, r4, r5⟩ := six6 I.out.r
      obtain ⟨z0, z1, z2, z3, z4, z5⟩ := six6 I.out.z
      have g0 := I.out.z.frozen 0
      have g1 := I.out.z.frozen 1
      have g2 := I.out.z.frozen 2
      have g3 := I.out.z.frozen 3
      have g4 := I.out.z.frozen 4
      have g5 := I.out.z.frozen 5
      have HB := Lib.hid I.out.below
      have HK := Lib.hid (K.out.2.2 (by simp))
      clear I K
      go_wp2_with fail
      (try simp only [Exit.inBlock, Exit.then])
      refine bodyPost_ret (by simp [results, Try.results19, go_sem, z0, z1, z2, z3, z4, z5]; try rfl) rfl ?_
      exact ⟨f, t, hf, ht, of, ot, rfl, Lib.hid ⟨HK.out.1.symm, HK.out.2.symm⟩, Lib.hid (by have hb := HB.out; go_grown)⟩

end Go.Proofs.Ytcidmaeclonilaa
