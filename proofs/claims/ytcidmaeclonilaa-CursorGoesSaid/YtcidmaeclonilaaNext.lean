/- order.Next, cursor.Prefix: walks. -/
import Derived.Test.YtcidmaeclonilaaCur2
import Derived.Lib.ConvBytes
import Derived.Lib.AtoiErrMem
import Derived.Laws.IdiomStrings
import Derived.Deep.LoopGhost
namespace Go.Proofs.Ytcidmaeclonilaa
open Go Go.RowKit

/-- t is the text behind all that begin with l, or there is none -/
def NextP (l t : List UInt8) (ok : Bool) : Prop :=
  (ok = false ∧ t = [] ∧ ∀ x ∈ l, x = 255) ∨ (ok = true ∧ ∃ a x r, l = a ++ x :: r ∧ x ≠ 255 ∧ (∀ y ∈ r, y = 255) ∧ t = a ++ [x + 1])

theorem bytesWorld_frozen (w : World) (e : TypeId) (s : ByteArray) (j : Nat) (hj : j < s.size) : (Lib.bytesWorld w e s).frozen? ⟨w.heap.size, j, none⟩ = false := by
  have h := Lib.bytesWorld_at_new w e s
  have hs : s.size ≤ (Lib.bytesCells w e s).size := by simp [Lib.bytesCells]
  simp [World.frozen?, h]
  omega

set_option maxHeartbeats 2000000 in
set_option maxRecDepth 100000 in
theorem next59 (w : World) (s : ByteArray) (hs : s.size ≤ 9223372036854775807) :
    Calls Try.prog 59 #[.string s] w fun e w' => ∃ (t : List UInt8) (ok : Bool), e = .returned (.tuple #[.string ⟨t.toArray⟩, .bool ok]) ∧ Hid (NextP s.data.toList t ok) ∧ Hid (Below w.heap.size w w') := by
  obtain ⟨c, hc⟩ : ∃ c, c = grownCap w s.size 0 5 := ⟨_, rfl⟩
  obtain ⟨w1, hw1⟩ : ∃ w1, w1 = Lib.bytesWorld w 5 s := ⟨_, rfl⟩
  have hconv := Lib.run_convert_string_bytes (P := Try.prog) w 9 53 5 s Try.underlying9 Try.underlying53 Try.underlying5
  rw [← hc, ← hw1] at hconv
  obtain ⟨l, hl⟩ : ∃ l, l = s.data.toList := ⟨_, rfl⟩
  have hlen : l.length = s.size := by rw [hl]; simp
  obtain ⟨H, hH⟩ : ∃ H, H = w.heap.size := ⟨_, rfl⟩
  have C := Lib.hid (show ∀ j, j < s.size → w1.cell? ⟨H, j, none⟩ = some (.int .u8 (l.getD j 0).toNat) ∧ w1.frozen? ⟨H, j, none⟩ = false from fun j hj => by
    rw [hw1, hH, hl]; exact ⟨Lib.bytesWorld_cell w 5 s j hj, bytesWorld_frozen w 5 s j hj⟩)
  have hcap : s.size ≤ c := by rw [hc]; exact grownCap_ge _ _ _ _
  have hcap2 : c ≤ 9223372036854775807 := by
    have := grownCap_le_maxLen w s.size 0 5 (by unfold maxLen; omega)
    unfold maxLen at this; omega
  have B := Lib.hid (show Below w.heap.size w w1 from by rw [hw1]; exact Lib.bytesWorld_below w 5 s)
  rw [← hH] at hconv ⊢
  rw [← hl]
  have HL := Lib.hid hlen
  have HH := Lib.hid hH
  clear hw1 hc hl hH hlen
  obtain ⟨N, hN⟩ : ∃ N, N = s.size := ⟨_, rfl⟩
  rw [← hN] at hconv C HL hcap hs
  clear hN
  go_enter Try.func59, Try.ntmps59
  go_wp2
  go_loopg [4] N (fun kx s4 wr => ∃ (n : Nat), s4 = .slice (some ⟨H, 0, none⟩) n c ∧ n = kx ∧ n ≤ N ∧ wr = w1 ∧ Hid (∀ j x, n ≤ j → l[j]? = some x → x = 255))
  case atStart => exact ⟨N, rfl, rfl, Nat.le_refl _, rfl, Lib.hid fun j x hj hx => by have := (List.getElem?_eq_some_iff.1 hx).1; rw [HL.out] at this; omega⟩
  case round =>
    obtain ⟨n, rfl, hn, hnN, rfl, I⟩ := hrel
    subst hn
    cases n with
    | zero =>
      have F := Lib.hid (show NextP l [] false from .inl ⟨rfl, rfl, fun x hx => by
        obtain ⟨j, hj⟩ := List.mem_iff_getElem?.1 hx
        exact I.out j x (Nat.zero_le _) hj⟩)
      clear I
      go_wp2
      go_ret2
      exact ⟨[], false, rfl, F, by rw [HH.out]; exact B⟩
    | succ m =>
      obtain ⟨x, hx⟩ : ∃ x, l[m]? = some x := ⟨_, List.getElem?_eq_getElem (by rw [HL.out]; omega)⟩
      have d0 : wr.cell? ⟨H, m, none⟩ = some (.int .u8 x.toNat) := by
        have := (C.out m (by omega)).1
        rw [List.getD_eq_getElem?_getD, hx] at this; exact this
      have f0 : wr.frozen? ⟨H, m, none⟩ = false := (C.out m (by omega)).2
      have hmb : (m : Int) < (m : Int) + 1 := by omega
      have hmc : (m : Int) + 1 ≤ 9223372036854775807 := by omega
      have hmd : m ≤ c := by omega
      by_cases h255 : x = 255
      · have hz : (((x.toNat : Nat) : Int) == 255) = true := by rw [h255]; rfl
        have I2 := Lib.hid (show ∀ j y, m ≤ j → l[j]? = some y → y = 255 from fun j y hj hy => by
          rcases Nat.eq_or_lt_of_le hj with rfl | h
          · rw [hx] at hy; rw [← Option.some.inj hy]; exact h255
          · exact I.out j y h hy)
        clear I h255 hx
        go_wp2
        go_roundg m
        case measure => omega
        case rel => exact ⟨m, rfl, rfl, by omega, rfl, I2⟩
      · have hx254 : x.toNat ≤ 254 := by
          have h1 := x.toNat_lt
          rcases Nat.lt_or_ge x.toNat 255 with h | h
          · omega
          · exfalso; apply h255
            apply UInt8.toNat_inj.1
            show x.toNat = 255
            omega
        have hz : (((x.toNat : Nat) : Int) == 255) = false := by rw [beq_eq_false_iff_ne]; omega
        have hxb : (x.toNat : Int) + 1 ≤ 255 := by omega
        have hx0 : (0 : Int) ≤ (x.toNat : Int) := by omega
        obtain ⟨t, ht⟩ : ∃ t, t = l.take m ++ [x + 1] := ⟨_, rfl⟩
        have htl : t.length = m + 1 := by rw [ht]; simp [HL.out]; omega
        have hx1 : ((x + 1).toNat : Int) = (x.toNat : Int) + 1 := by
          have : (x + 1).toNat = x.toNat + 1 := by
            rw [UInt8.toNat_add]
            show (x.toNat + 1) % 256 = _
            omega
          omega
        have hback := run_convert_bytes_back (P := Try.prog) (wr.setCell ⟨H, m, none⟩ (.int .u8 ((x.toNat : Int) + 1))) 53 9 5 ⟨H, 0, none⟩ c t Try.underlying53 Try.underlying5 Try.underlying9 (fun j hj => by
          rw [add_lit0]
          rcases Nat.lt_or_ge j m with h | h
          · obtain ⟨y, hy⟩ : ∃ y, l[j]? = some y := ⟨_, List.getElem?_eq_getElem (by rw [HL.out]; omega)⟩
            have e1 : t[j]? = some y := by rw [ht, List.getElem?_append_left (by simp [HL.out]; omega), List.getElem?_take_of_lt h]; exact hy
            have e2 := (C.out j (by omega)).1
            rw [List.getD_eq_getElem?_getD, hy] at e2
            rw [(List.getElem?_eq_some_iff.1 e1).2]
            rw [World.cell?_setCell_other (h := fun h => by injection h; omega)]
            exact e2
          · obtain rfl : j = m := by omega
            have hjl : (l.take j).length = j := by rw [List.length_take, HL.out]; omega
            have e1 : t[j]? = some (x + 1) := by rw [ht, List.getElem?_append_right (by omega), hjl, Nat.sub_self]; rfl
            rw [(List.getElem?_eq_some_iff.1 e1).2, hx1]
            exact World.cell?_setCell_same _ _ _ d0)
        rw [htl] at hback
        have F := Lib.hid (show NextP l t true from .inr ⟨rfl, l.take m, x, l.drop (m + 1), split_at hx, h255, fun y hy => by
          obtain ⟨j, hj⟩ := List.mem_iff_getElem?.1 hy
          rw [List.getElem?_drop] at hj
          exact I.out _ y (by omega) hj, ht⟩)
        clear I h255 hx ht htl hx1 hmc
        go_wp2
        go_ret2
        exact ⟨t, true, rfl, F, Lib.hid (by have hb := B.out; rw [← HH.out] at hb; exact hb.setCell (p := ⟨H, m, none⟩) (Nat.le_refl _) _)⟩

set_option maxHeartbeats 1000000 in
theorem prefix20 (w : World) (s : ByteArray) (hs : s.size ≤ 9223372036854775807) :
    Calls Try.prog 20 #[.string s] w fun e w' => ∃ (t : List UInt8) (ok : Bool), e = .returned (.agg #[.string s, .string ⟨t.toArray⟩, .bool true, .bool ok, .bool false, .bool ok]) ∧ Hid (NextP s.data.toList t ok) ∧ Hid (Below w.heap.size w w') := by
  have hn := Lib.hid (fun w1 => next59 w1 s hs)
  clear hs
  go_enter Try.func20, Try.ntmps20
  go_wp2_with fail
  refine (hn.out _).mono ?_
  rintro e w1 ⟨t, ok, rfl, h1, h2⟩
  have hb := h2.out
  have hW : ∀ c d : Array Value, Below ((w.alloc (.cells c 24)).alloc (.cells d 24)).heap.size ((w.alloc (.cells c 24)).alloc (.cells d 24)) w1 → Blk w1 w.heap.size 24 c ∧ Blk w1 (w.heap.size + 1) 24 d ∧ Below w.heap.size w w1 := fun c d hb => by
    have b1 := (Blk.new w 24 c).alloc (.cells d 24)
    have b2 := Blk.new (w.alloc (.cells c 24)) 24 d
    rw [World.size_alloc] at b2
    exact ⟨(hb.block _ b1.lt).trans b1, (hb.block _ b2.lt).trans b2, (((Below.refl _ w).alloc (Nat.le_refl _) _).alloc (by simp) _).trans (hb.mono (by simp only [World.size_alloc]; omega))⟩
  obtain ⟨b1, b2, hbw⟩ := hW _ _ hb
  have c0 := b2.cell 0
  have c1 := b2.cell 1
  have c2 := b2.cell 2
  have c3 := b2.cell 3
  have c4 := b2.cell 4
  have c5 := b2.cell 5
  have f1 := b2.frozen 1
  have f3 := b2.frozen 3
  have f5 := b2.frozen 5
  have r0 := b1.cell 0
  have r1 := b1.cell 1
  have r2 := b1.cell 2
  have r3 := b1.cell 3
  have r4 := b1.cell 4
  have r5 := b1.cell 5
  have g0 := b1.frozen 0
  have g1 := b1.frozen 1
  have g2 := b1.frozen 2
  have g3 := b1.frozen 3
  have g4 := b1.frozen 4
  have g5 := b1.frozen 5
  have HB := Lib.hid hbw
  clear hW hb b1 b2 hbw h2 hn
  simp only [List.getElem?_toArray, List.getElem?_cons_zero, List.getElem?_cons_succ] at c0 c1 c2 c3 c4 c5 r0 r1 r2 r3 r4 r5
  cases ok
  all_goals
    go_wp2_with fail
    (try simp only [Exit.inBlock, Exit.then])
    refine bodyPost_ret (by simp [results, Try.results20, go_sem, r0, r1, r2, r3, r4, r5]; try rfl) rfl ?_
    exact ⟨t, _, rfl, h1, Lib.hid (by have hb := HB.out; go_grown)⟩

end Go.Proofs.Ytcidmaeclonilaa
