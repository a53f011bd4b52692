/- barbicanref06.Next, barbicanref13.Prefix: walks. -/
import Derived.Test.YtcidmaeclonilaaText2
import Derived.Handy
namespace Go.Proofs.Ytcidmaeclonilaa
open Go Go.RowKit

theorem last_uniq {a a' r r' : List UInt8} {x x' : UInt8} (h : a ++ x :: r = a' ++ x' :: r') (hx : x ≠ 255) (hx' : x' ≠ 255) (hr : ∀ y ∈ r, y = 255) (hr' : ∀ y ∈ r', y = 255) : a = a' ∧ x = x' := by
  rcases List.append_eq_append_iff.1 h with ⟨c, h1, h2⟩ | ⟨c, h1, h2⟩
  · cases c with
    | nil => simp at h1 h2; exact ⟨h1.symm, h2.1⟩
    | cons y c =>
      simp at h2
      exact absurd (hr x' (by rw [h2.2]; simp)) hx'
  · cases c with
    | nil => simp at h1 h2; exact ⟨h1, h2.1.symm⟩
    | cons y c =>
      simp at h2
      exact absurd (hr' x (by rw [h2.2]; simp)) hx
theorem NextP.uniq {l t t' : List UInt8} {ok ok' : Bool} (h : NextP l t ok) (h' : NextP l t' ok') : t = t' ∧ ok = ok' := by
  rcases h with ⟨rfl, rfl, h⟩ | ⟨rfl, a, x, r, hl, hx, hr, rfl⟩
  · rcases h' with ⟨rfl, rfl, h'⟩ | ⟨rfl, a, x, r, hl, hx, hr, rfl⟩
    · exact ⟨rfl, rfl⟩
    · exact absurd (h x (by rw [hl]; simp)) hx
  · rcases h' with ⟨rfl, rfl, h'⟩ | ⟨rfl, a', x', r', hl', hx', hr', rfl⟩
    · exact absurd (h' x (by rw [hl]; simp)) hx
    · obtain ⟨rfl, rfl⟩ := last_uniq (hl.symm.trans hl') hx hx' hr hr'
      exact ⟨rfl, rfl⟩

theorem one_byte_back (k : Int) (x : UInt8) (hk : k = (x.toNat : Int)) (w : World) (b : Nat) (hc : w.cell? ⟨b, 0, none⟩ = some (.int .u8 k)) : (convert 53 9 (.slice (some ⟨b, 0, none⟩) 1 1)).run Try.prog w = .ok (.string ⟨#[x]⟩) w := by
  subst hk
  exact run_convert_bytes_back (P := Try.prog) w 53 9 5 ⟨b, 0, none⟩ 1 [x] Try.underlying53 Try.underlying5 Try.underlying9 (fun j hj => by
    obtain rfl : j = 0 := by simpa using hj
    rw [add_lit0]
    exact hc)

set_option maxHeartbeats 4000000 in
set_option maxRecDepth 100000 in
theorem next60 (w : World) (s : ByteArray) (hs : s.size ≤ 9223372036854775000) :
    Calls Try.prog 60 #[.string s] w fun e w' => ∃ (t : List UInt8) (ok : Bool), e = .returned (.tuple #[.string ⟨t.toArray⟩, .bool ok]) ∧ Hid (NextP s.data.toList t ok) ∧ Hid (Below w.heap.size w w') := by
  have hNb : (s.size : Int) ≤ 9223372036854775000 := by omega
  have hlen : s.data.toList.length = s.size := by simp
  have HL := Lib.hid hlen
  have HB0 := Lib.hid (Below.refl w.heap.size w)
  have HB1 := Lib.hid (fun (n : Nat) (o : Obj) => show Below w.heap.size w ((w.drewN n).alloc o) from (below_drewN (Below.refl w.heap.size w) n).alloc (Nat.le_refl _) o)
  clear hs hlen
  go_enter Try.func60, Try.ntmps60
  go_wp2
  go_loopg [4] s.size (fun kx s4 wr => ∃ z : Int, s4 = .int .i64 z ∧ z + 1 = kx ∧ kx ≤ s.size ∧ wr = w ∧ Hid (∀ j x, kx ≤ j → s.data.toList[j]? = some x → x = 255))
  case atStart => exact ⟨_, rfl, by omega, Nat.le_refl _, rfl, Lib.hid fun j x hj hx => by have := (List.getElem?_eq_some_iff.1 hx).1; rw [HL.out] at this; omega⟩
  case round =>
    obtain ⟨z, rfl, hz, hk, rfl, I⟩ := hrel
    cases gk with
    | zero =>
      obtain rfl : z = -1 := by omega
      have F := Lib.hid (show NextP s.data.toList [] false from .inl ⟨rfl, rfl, fun x hx => by
        obtain ⟨j, hj⟩ := List.mem_iff_getElem?.1 hx
        exact I.out j x (Nat.zero_le _) hj⟩)
      clear I hz
      go_wp2
      go_ret2
      exact ⟨[], false, rfl, F, HB0⟩
    | succ m =>
      obtain rfl : z = (m : Int) := by omega
      have hm : m < s.size := by omega
      have hmz : (m : Int) < (s.size : Int) := by omega
      obtain ⟨x, hxx⟩ : ∃ x, s[m] = x := ⟨_, rfl⟩
      have hx : s.data.toList[m]? = some x := by
        rw [List.getElem?_eq_getElem (by rw [HL.out]; exact hm), ← hxx]; rfl
      have HX := Lib.hid hx
      clear hz
      by_cases h255 : x = 255
      · have I2 := Lib.hid (show ∀ j y, m ≤ j → s.data.toList[j]? = some y → y = 255 from fun j y hj hy => by
          rcases Nat.eq_or_lt_of_le hj with rfl | h
          · rw [HX.out] at hy; rw [← Option.some.inj hy]; exact h255
          · exact I.out j y h hy)
        have hz : ¬ ((x.toNat : Int) < 255) := by subst h255; decide
        clear I h255 hx HX
        go_wp2
        go_roundg m
        case measure => omega
        case rel => exact ⟨_, rfl, by omega, by omega, rfl, I2⟩
      · have hx254 : x.toNat ≤ 254 := by
          have h1 := x.toNat_lt
          rcases Nat.lt_or_ge x.toNat 255 with h | h
          · omega
          · exfalso; apply h255
            apply UInt8.toNat_inj.1
            show x.toNat = 255
            omega
        have hz : (x.toNat : Int) < 255 := by omega
        have e1 : IntKind.u8.wrap ((x.toNat : Int) + 1) = (x.toNat : Int) + 1 := by rw [IntKind.wrap_u8]; omega
        have hx1 : (x.toNat : Int) + 1 = ((x + 1).toNat : Int) := by
          have : (x + 1).toNat = x.toNat + 1 := by
            rw [UInt8.toNat_add]
            show (x.toNat + 1) % 256 = _
            omega
          omega
        have hcv := one_byte_back ((x.toNat : Int) + 1) (x + 1) hx1
        have hmn : m ≤ s.size := by omega
        have F := Lib.hid (show NextP s.data.toList (s.data.toList.take m ++ [x + 1]) true from .inr ⟨rfl, s.data.toList.take m, x, s.data.toList.drop (m + 1), split_at HX.out, h255, fun y hy => by
          obtain ⟨j, hj⟩ := List.mem_iff_getElem?.1 hy
          rw [List.getElem?_drop] at hj
          exact I.out _ y (by omega) hj, rfl⟩)
        clear I h255 hx HX hx1
        go_wp2_with fail
        go_region
        all_goals
          go_wp2_with fail
          go_ret2
          refine ⟨s.data.toList.take m ++ [x + 1], true, ?_, F, Lib.hid ?_⟩
          · show Ending.returned (.tuple #[.string (s.extract 0 m ++ ⟨#[x + 1]⟩), .bool true]) = _
            have he : s.extract 0 m ++ ⟨#[x + 1]⟩ = ⟨(s.data.toList.take m ++ [x + 1]).toArray⟩ := by
              apply ByteArray.ext
              apply Array.toList_inj.1
              rw [ByteArray.data_append, Array.toList_append, ByteArray.data_extract, Array.toList_extract]
              simp [List.extract]
            rw [he]
          · have hb := HB0.out
            go_grown

theorem prefix21 (w : World) (s : ByteArray) (hs : s.size ≤ 9223372036854775000) :
    Calls Try.prog 21 #[.string s] w fun e w' => ∃ (t : List UInt8) (ok : Bool), e = .returned (.agg #[.string s, .string ⟨t.toArray⟩, .bool true, .bool ok, .bool false, .bool ok]) ∧ Hid (NextP s.data.toList t ok) ∧ Hid (Below w.heap.size w w') := by
  have hn := Lib.hid (fun w1 => next60 w1 s hs)
  clear hs
  go_enter Try.func21, Try.ntmps21
  go_wp2_with fail
  refine (hn.out _).mono ?_
  rintro e w1 ⟨t, ok, rfl, h1, h2⟩
  have hW : ∀ c : Array Value, Below (w.alloc (.cells c 23)).heap.size (w.alloc (.cells c 23)) w1 → Blk w1 w.heap.size 23 c ∧ Below w.heap.size w w1 := fun c hb => by
    have b1 := Blk.new w 23 c
    exact ⟨(hb.block _ b1.lt).trans b1, ((Below.refl _ w).alloc (Nat.le_refl _) _).trans (hb.mono (by simp only [World.size_alloc]; omega))⟩
  obtain ⟨b1, hbw⟩ := hW _ h2.out
  have c0 := b1.cell 0
  have c1 := b1.cell 1
  have c2 := b1.cell 2
  have c3 := b1.cell 3
  have c4 := b1.cell 4
  have c5 := b1.cell 5
  have g0 := b1.frozen 0
  have g1 := b1.frozen 1
  have g2 := b1.frozen 2
  have g3 := b1.frozen 3
  have g4 := b1.frozen 4
  have g5 := b1.frozen 5
  have HB := Lib.hid hbw
  clear hW b1 hbw h2 hn
  simp only [List.getElem?_toArray, List.getElem?_cons_zero, List.getElem?_cons_succ] at c0 c1 c2 c3 c4 c5
  go_wp2_with fail
  (try simp only [Exit.inBlock, Exit.then])
  refine bodyPost_ret (by simp [results, Try.results21, go_sem, c0, c1, c2, c3, c4, c5]; try rfl) rfl ?_
  exact ⟨t, _, rfl, h1, Lib.hid (by have hb := HB.out; go_grown)⟩

end Go.Proofs.Ytcidmaeclonilaa
