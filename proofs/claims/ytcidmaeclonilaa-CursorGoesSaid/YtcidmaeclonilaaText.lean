/- cursor.Empty, digits, Text: walks. -/
import Derived.Test.YtcidmaeclonilaaNext
import Derived.Test.YtcidmaeclonilaaBld
namespace Go.Proofs.Ytcidmaeclonilaa
open Go Go.RowKit

def emptyB (fr to : ByteArray) (hf ht of ot : Bool) : Bool := hf && ht && (klt to fr || (decide (fr = to) && (of || ot)))

set_option maxHeartbeats 4000000 in
theorem empty14 (w : World) (fr to : ByteArray) (hf ht of ot : Bool) :
    Calls Try.prog 14 #[.agg #[.string fr, .string to, .bool hf, .bool ht, .bool of, .bool ot]] w fun e w' => e = .returned (.bool (emptyB fr to hf ht of ot)) ∧ Hid (Below w.heap.size w w') := by
  have HB := Lib.hid ((Below.refl w.heap.size w).alloc (Nat.le_refl _) (.cells #[.string fr, .string to, .bool hf, .bool ht, .bool of, .bool ot] 24))
  cases hf with
  | false =>
    go_enter Try.func14, Try.ntmps14
    go_wp2
    go_ret
    exact ⟨by simp [emptyB], HB⟩
  | true =>
    cases ht with
    | false =>
      go_enter Try.func14, Try.ntmps14
      go_wp2
      go_ret
      exact ⟨by simp [emptyB], HB⟩
    | true =>
      rcases klt_tri fr to with h | h | h
      · have h1 : Op.bytesLess to.toList fr.toList = false := klt_asymm h
        have h2 : (fr.toList == to.toList) = false := by rw [beq_toList]; simpa using klt_ne h
        have h3 : Op.bytesLess fr.toList to.toList = true := h
        have R : emptyB fr to true true of ot = false := by simp [emptyB, klt_asymm h, klt_ne h]
        rw [R]
        clear R h
        go_enter Try.func14, Try.ntmps14
        go_wp2
        go_ret
        exact ⟨rfl, HB⟩
      · subst h
        have h1 : Op.bytesLess fr.toList fr.toList = false := klt_irrefl fr
        have R : emptyB fr fr true true of ot = (of || ot) := by simp [emptyB, klt_irrefl]
        rw [R]
        clear R
        cases of
        all_goals
          go_enter Try.func14, Try.ntmps14
          go_wp2
          go_ret
          exact ⟨by simp, HB⟩
      · have h1 : Op.bytesLess to.toList fr.toList = true := h
        have h2 : (fr.toList == to.toList) = false := by rw [beq_toList]; simpa using klt_ne' h
        have h3 : Op.bytesLess fr.toList to.toList = false := klt_asymm h
        have R : emptyB fr to true true of ot = true := by simp [emptyB, h]
        rw [R]
        clear R h
        go_enter Try.func14, Try.ntmps14
        go_wp2
        go_ret
        exact ⟨rfl, HB⟩

/-- a byte's two digits -/
def hexC (n : Nat) : UInt8 := [48, 49, 50, 51, 52, 53, 54, 55, 56, 57, 97, 98, 99, 100, 101, 102].getD n 48
def hexL (l : List UInt8) : List UInt8 := l.flatMap fun x => [hexC (x.toNat / 16), hexC (x.toNat % 16)]
theorem hexL_take {l : List UInt8} {i : Nat} {x : UInt8} (h : l[i]? = some x) : hexL (l.take (i + 1)) = hexL (l.take i) ++ [hexC (x.toNat / 16)] ++ [hexC (x.toNat % 16)] := by
  unfold hexL; rw [List.take_add_one, h]; simp
theorem hexL_len (l : List UInt8) : (hexL l).length = 2 * l.length := by
  induction l with
  | nil => rfl
  | cons x l ih => simp [hexL] at ih ⊢; omega

theorem digit_eq (n : Nat) (h : n < 16) : (⟨#[48, 49, 50, 51, 52, 53, 54, 55, 56, 57, 97, 98, 99, 100, 101, 102]⟩ : ByteArray)[n]'h = hexC n := by
  have : ∀ m : Fin 16, (⟨#[48, 49, 50, 51, 52, 53, 54, 55, 56, 57, 97, 98, 99, 100, 101, 102]⟩ : ByteArray)[m.1]'m.2 = hexC m.1 := by decide
  exact this ⟨n, h⟩

set_option maxRecDepth 100000 in
set_option maxHeartbeats 4000000 in
theorem digits55 (w : World) (s : ByteArray) (hs : 2 * s.size ≤ 140737488355000) :
    Calls Try.prog 55 #[.string s] w fun e w' => e = .returned (.string ⟨(hexL s.data.toList).toArray⟩) ∧ Hid (Below w.heap.size w w') := by
  have hbyte := Lib.hid (fun (w1 : World) (bs : List UInt8) (c : UInt8) (h : Lib.IsBuilder 90 5 w.heap.size w.heap.size (Lib.byteCells bs) w1) (hl : bs.length + 1 ≤ 140737488355328) (hB : w.heap.size ≤ w1.heap.size) => by
    have := bByte53 w.heap.size w.heap.size (Lib.byteCells bs) c.toNat w1 h (by simpa [Lib.byteCells_length] using hl) hB
    rw [show Lib.byteCells bs ++ [Value.int .u8 c.toNat] = Lib.byteCells (bs ++ [c]) by simp [Lib.byteCells]] at this
    exact this)
  have hstr := Lib.hid (fun (w1 : World) (bs : List UInt8) (h : Lib.IsBuilder 90 5 w.heap.size w.heap.size (Lib.byteCells bs) w1) (hB : w.heap.size ≤ w1.heap.size) => bString56 w.heap.size w.heap.size bs w1 h hB)
  have start := Lib.hid (show Lib.IsBuilder 90 5 w.heap.size w.heap.size (Lib.byteCells []) (w.alloc (.cells #[.pointer none, .slice none 0 0] 90)) from
    .inl ⟨Nat.le_refl _, .slice none 0 0, Blk.new w 90 #[.pointer none, .slice none 0 0], ⟨rfl, .inl ⟨rfl, rfl⟩⟩, by simp [Value.ownBlock]⟩)
  have startB := Lib.hid ((Below.refl w.heap.size w).alloc (Nat.le_refl _) (.cells #[.pointer none, .slice none 0 0] 90))
  have hlen : s.data.toList.length = s.size := by simp
  have HL := Lib.hid hlen
  have hNb : (s.size : Int) ≤ 70368744177664 := by omega
  have HS := Lib.hid hs
  clear hlen hs
  go_enter Try.func55, Try.ntmps55
  go_wp2
  go_loopg [7] s.size (fun kx s7 wr => ∃ (i : Nat), s7 = .int .i64 i ∧ kx + i = s.size ∧ Hid (Lib.IsBuilder 90 5 w.heap.size w.heap.size (Lib.byteCells (hexL (s.data.toList.take i))) wr) ∧ Hid (Below w.heap.size w wr))
  case atStart => exact ⟨0, rfl, rfl, start, startB⟩
  case round =>
    obtain ⟨i, rfl, hk, I, hb⟩ := hrel
    by_cases hi : i < s.size
    · have hiz : (i : Int) < (s.size : Int) := by omega
      have hx : s.data.toList[i]? = some s[i] := by
        rw [List.getElem?_eq_getElem (by rw [HL.out]; exact hi)]; rfl
      have HX := Lib.hid hx
      have k1 : (0 : Int) ≤ (s[i].toNat : Int) / 16 := by omega
      have k2 : (s[i].toNat : Int) / 16 < 16 := by have := s[i].toNat_lt; omega
      have k3 : (0 : Int) ≤ (s[i].toNat : Int) % 16 := by omega
      have k4 : (s[i].toNat : Int) % 16 < 16 := by omega
      have hlen : (hexL (s.data.toList.take i)).length ≤ 2 * s.size := by rw [hexL_len, List.length_take, HL.out]; omega
      have HLN := Lib.hid hlen
      clear start startB hx hlen
      go_wp2_with fail
      refine (hbyte.out wr _ _ I.out (by have := HLN.out; have := HS.out; omega) hb.out.size).mono ?_
      rintro e w1 ⟨rfl, h1, hb1⟩
      have I1 := Lib.hid h1
      have B1 := Lib.hid (hb.out.trans hb1)
      clear h1 hb1 I hb
      go_wp2_with fail
      refine (hbyte.out w1 _ _ I1.out (by have := HLN.out; have := HS.out; simp only [List.length_append, List.length_cons, List.length_nil]; omega) B1.out.size).mono ?_
      rintro e w2 ⟨rfl, h1, hb1⟩
      have I2 := Lib.hid (show Lib.IsBuilder 90 5 w.heap.size w.heap.size (Lib.byteCells (hexL (s.data.toList.take (i + 1)))) w2 from by
        rw [digit_eq, digit_eq] at h1
        rw [hexL_take HX.out]
        exact h1)
      have B2 := Lib.hid (B1.out.trans hb1)
      clear h1 hb1 I1 B1 HX
      go_wp2_with fail
      go_roundg (gk - 1)
      case measure => omega
      case rel => exact ⟨i + 1, rfl, by omega, I2, B2⟩
    · have hiz : ¬ ((i : Int) < (s.size : Int)) := by omega
      have hi2 : s.data.toList.take i = s.data.toList := List.take_of_length_le (by rw [HL.out]; omega)
      rw [hi2] at I
      have hc := Lib.hid (hstr.out wr _ I.out hb.out.size)
      clear start startB I hi2
      go_wp2_with fail
      refine hc.out.mono ?_
      rintro e w1 ⟨rfl, hb1⟩
      have B1 := Lib.hid (hb.out.trans hb1)
      clear hc hb1 hb
      go_wp2
      go_ret
      exact ⟨rfl, B1⟩

end Go.Proofs.Ytcidmaeclonilaa
