/- cursor.Text: the walk (printed by mktext.py). -/
import Derived.Test.YtcidmaeclonilaaText
namespace Go.Proofs.Ytcidmaeclonilaa
open Go Go.RowKit

/-- a range's text -/
def textL (fr to : ByteArray) (hf ht of ot : Bool) : List UInt8 :=
  (if (hf && !of) = true then [91] else [40]) ++ (if hf = true then hexL fr.data.toList else []) ++ [44] ++ (if ht = true then hexL to.data.toList else []) ++ (if (ht && !ot) = true then [93] else [41])
theorem txt_eq {S : ByteArray} {l m k : List UInt8} (hS : S = ⟨l.toArray⟩) (h : l ++ m = k) : S ++ ⟨m.toArray⟩ = ⟨k.toArray⟩ := by
  subst h hS; apply ByteArray.ext; simp
theorem szL (s : ByteArray) : s.data.toList.length = s.size := by simp
theorem isb_below {B b : Nat} {bs : List Value} {w w' : World} (h : Lib.IsBuilder 90 5 B b bs w) (hb : Below w.heap.size w w') : Lib.IsBuilder 90 5 B b bs w' := by
  have key : ∀ p, Lib.BuilderAt 90 5 B b p bs w → Lib.BuilderAt 90 5 B b p bs w' := by
    rintro p ⟨h1, v, h2, h3, h4⟩
    have hlt : b < w.heap.size := (Array.getElem?_eq_some_iff.1 h2).1
    refine ⟨h1, v, (hb.block b hlt).trans h2, ⟨h3.1, ?_⟩, h4⟩
    rcases h3.2 with h | ⟨g, cap, cur, e1, e2, e3, e4⟩
    · exact .inl h
    · have hg : g < w.heap.size := (Array.getElem?_eq_some_iff.1 e3).1
      exact .inr ⟨g, cap, cur, e1, e2, (hb.block g hg).trans e3, e4⟩
  rcases h with h | h
  · exact .inl (key _ h)
  · exact .inr (key _ h)
/-- a builder in block n + 1 that holds bs; what lay below is as in W -/
def SB (n : Nat) (W : World) (wk : World) (bs : List UInt8) : Prop := Lib.IsBuilder 90 5 (n + 1) (n + 1) (Lib.byteCells bs) wk ∧ Below (n + 1) W wk

set_option maxRecDepth 100000 in
set_option maxHeartbeats 16000000 in
theorem text16 (w : World) (fr to : ByteArray) (hf ht of ot : Bool) (hs : 2 * fr.size ≤ 60000000000000) (hs2 : 2 * to.size ≤ 60000000000000) :
    Calls Try.prog 16 #[.agg #[.string fr, .string to, .bool hf, .bool ht, .bool of, .bool ot]] w fun e w' => e = .returned (.string ⟨(textL fr to hf ht of ot).toArray⟩) ∧ Hid (Below w.heap.size w w') := by
  obtain ⟨W, hW⟩ : ∃ W, W = (w.alloc (.cells #[.string fr, .string to, .bool hf, .bool ht, .bool of, .bool ot] 24)).alloc (.cells #[.pointer none, .slice none 0 0] 90) := ⟨_, rfl⟩
  have hWs : W.heap.size = w.heap.size + 2 := by rw [hW]; simp
  have hbyte := Lib.hid (fun (w1 : World) (bs : List UInt8) (c : UInt8) (h : SB w.heap.size W w1 bs) (hl : bs.length + 1 ≤ 140737488355328) => show Calls Try.prog 53 #[.pointer (some ⟨w.heap.size + 1, 0, none⟩), .int .u8 c.toNat] w1 fun e w' => e = .returned .nilIface ∧ SB w.heap.size W w' (bs ++ [c]) from by
    have h2 := h.2.size
    refine (bByte53 (w.heap.size + 1) (w.heap.size + 1) (Lib.byteCells bs) c.toNat w1 h.1 (by simpa [Lib.byteCells_length] using hl) (by omega)).mono fun e w' hh => ⟨hh.1, ?_, h.2.trans hh.2.2⟩
    have := hh.2.1
    rwa [show Lib.byteCells bs ++ [Value.int .u8 c.toNat] = Lib.byteCells (bs ++ [c]) by simp [Lib.byteCells]] at this)
  have htext := Lib.hid (fun (w1 : World) (bs : List UInt8) (l : List UInt8) (h : SB w.heap.size W w1 bs) (hl : bs.length + l.length ≤ 140737488355328) => show Calls Try.prog 54 #[.pointer (some ⟨w.heap.size + 1, 0, none⟩), .string ⟨l.toArray⟩] w1 fun e w' => (∃ n, e = .returned (.tuple #[.int .i64 n, .nilIface])) ∧ SB w.heap.size W w' (bs ++ l) from by
    have h2 := h.2.size
    refine (bText54 (w.heap.size + 1) (w.heap.size + 1) (Lib.byteCells bs) ⟨l.toArray⟩ w1 h.1 (by simpa [Lib.byteCells_length, ByteArray.size] using hl) (by omega)).mono fun e w' hh => ⟨⟨_, hh.1⟩, ?_, h.2.trans hh.2.2⟩
    have := hh.2.1
    rwa [show Lib.byteCells bs ++ Lib.strCells ⟨l.toArray⟩ = Lib.byteCells (bs ++ l) by rw [Lib.strCells_eq]; simp [Lib.byteCells]] at this)
  have hstr := Lib.hid (fun (w1 : World) (bs : List UInt8) (h : SB w.heap.size W w1 bs) (hl : bs.length ≤ 140737488355328) => show Calls Try.prog 56 #[.pointer (some ⟨w.heap.size + 1, 0, none⟩)] w1 fun e w' => ∃ S : ByteArray, e = .returned (.string S) ∧ Hid (S = ⟨bs.toArray⟩) ∧ (S.size : Int) ≤ 140737488355328 ∧ Below (w.heap.size + 1) W w' from by
    have h2 := h.2.size
    exact (bString56 (w.heap.size + 1) (w.heap.size + 1) bs w1 h.1 (by omega)).mono fun e w' hh => ⟨_, hh.1, Lib.hid rfl, by show ((bs.toArray.size : Nat) : Int) ≤ _; rw [List.size_toArray]; omega, h.2.trans hh.2⟩)
  have hdig := Lib.hid (fun (w1 : World) (s : ByteArray) (bs : List UInt8) (hs : 2 * s.size ≤ 60000000000000) (h : SB w.heap.size W w1 bs) => show Calls Try.prog 55 #[.string s] w1 fun e w' => e = .returned (.string ⟨(hexL s.data.toList).toArray⟩) ∧ SB w.heap.size W w' bs from by
    have h2 := h.2.size
    exact (digits55 w1 s (by omega)).mono fun e w' hh => ⟨hh.1, isb_below h.1 hh.2.out, h.2.trans (hh.2.out.mono (by omega))⟩)
  have b0 : Blk W w.heap.size 24 #[.string fr, .string to, .bool hf, .bool ht, .bool of, .bool ot] := by rw [hW]; exact (Blk.new w 24 _).alloc _
  have b1 : Blk W (w.heap.size + 1) 90 #[.pointer none, .slice none 0 0] := by
    have := Blk.new (w.alloc (.cells #[.string fr, .string to, .bool hf, .bool ht, .bool of, .bool ot] 24)) 90 #[.pointer none, .slice none 0 0]
    rw [World.size_alloc] at this
    rw [hW]; exact this
  have box := Lib.hid (fun (w1 : World) (bs : List UInt8) (h : SB w.heap.size W w1 bs) => show w1.cell? ⟨w.heap.size, 0, none⟩ = some (.string fr) ∧ w1.cell? ⟨w.heap.size, 1, none⟩ = some (.string to) ∧ w1.cell? ⟨w.heap.size, 2, none⟩ = some (.bool hf) ∧ w1.cell? ⟨w.heap.size, 3, none⟩ = some (.bool ht) ∧ w1.cell? ⟨w.heap.size, 4, none⟩ = some (.bool of) ∧ w1.cell? ⟨w.heap.size, 5, none⟩ = some (.bool ot) from by
    have hb : Blk w1 w.heap.size 24 #[.string fr, .string to, .bool hf, .bool ht, .bool of, .bool ot] := (h.2.block _ (by omega)).trans b0
    exact ⟨hb.cell 0, hb.cell 1, hb.cell 2, hb.cell 3, hb.cell 4, hb.cell 5⟩)
  have I0 := Lib.hid (show SB w.heap.size W W [] from ⟨.inl ⟨Nat.le_refl _, .slice none 0 0, b1, ⟨rfl, .inl ⟨rfl, rfl⟩⟩, by simp [Value.ownBlock]⟩, Below.refl _ _⟩)
  have BW := Lib.hid (fun (w' : World) (h : Below (w.heap.size + 1) W w') => show Below w.heap.size w w' from by
    have h0 : Below w.heap.size w W := by rw [hW]; exact ((Below.refl _ w).alloc (Nat.le_refl _) _).alloc (by simp) _
    exact h0.trans (h.mono (by omega)))
  have HF := Lib.hid hs
  have HT := Lib.hid hs2
  clear hs hs2 b0 b1 hWs
  subst hW
  cases hf with
  | false =>
    cases ht with
    | false =>
      go_enter Try.func16, Try.ntmps16
      go_wp2_with fail
      refine (hbyte.out _ _ 40 I0.out (by have := HF.out; have := HT.out; simp only [hexL_len, List.length_append, List.length_cons, List.length_nil, szL]; omega)).mono ?_
      rintro e w1 ⟨rfl, h1⟩
      have I1 := Lib.hid h1
      clear h1
      obtain ⟨c0, c1, c2, c3, c4, c5⟩ := box.out _ _ I1.out
      go_wp2_with fail
      refine (hbyte.out _ _ 44 I1.out (by have := HF.out; have := HT.out; simp only [hexL_len, List.length_append, List.length_cons, List.length_nil, szL]; omega)).mono ?_
      rintro e w2 ⟨rfl, h1⟩
      have I2 := Lib.hid h1
      clear c0 c1 c2 c3 c4 c5
      clear h1
      obtain ⟨c0, c1, c2, c3, c4, c5⟩ := box.out _ _ I2.out
      go_wp2_with fail
      refine (hstr.out _ _ I2.out (by have := HF.out; have := HT.out; simp only [hexL_len, List.length_append, List.length_cons, List.length_nil, szL]; omega)).mono ?_
      rintro e wz ⟨S, rfl, hS, hsz, hb1⟩
      have IZ := Lib.hid hb1
      clear hb1 c0 c1 c2 c3 c4 c5
      go_wp2
      go_ret
      refine ⟨?_, Lib.hid (BW.out _ IZ.out)⟩
      exact congrArg (fun b => Ending.returned (.string b)) (txt_eq (m := [41]) hS.out (by simp [textL]))
    | true =>
      cases ot with
      | false =>
        go_enter Try.func16, Try.ntmps16
        go_wp2_with fail
        refine (hbyte.out _ _ 40 I0.out (by have := HF.out; have := HT.out; simp only [hexL_len, List.length_append, List.length_cons, List.length_nil, szL]; omega)).mono ?_
        rintro e w1 ⟨rfl, h1⟩
        have I1 := Lib.hid h1
        clear h1
        obtain ⟨c0, c1, c2, c3, c4, c5⟩ := box.out _ _ I1.out
        go_wp2_with fail
        refine (hbyte.out _ _ 44 I1.out (by have := HF.out; have := HT.out; simp only [hexL_len, List.length_append, List.length_cons, List.length_nil, szL]; omega)).mono ?_
        rintro e w2 ⟨rfl, h1⟩
        have I2 := Lib.hid h1
        clear c0 c1 c2 c3 c4 c5
        clear h1
        obtain ⟨c0, c1, c2, c3, c4, c5⟩ := box.out _ _ I2.out
        go_wp2_with fail
        refine (hdig.out _ to _ HT.out I2.out).mono ?_
        rintro e w3 ⟨rfl, h1⟩
        have I3 := Lib.hid h1
        clear h1 c0 c1 c2 c3 c4 c5
        obtain ⟨c0, c1, c2, c3, c4, c5⟩ := box.out _ _ I3.out
        go_wp2_with fail
        refine (htext.out _ _ (hexL to.data.toList) I3.out (by have := HF.out; have := HT.out; simp only [hexL_len, List.length_append, List.length_cons, List.length_nil, szL]; omega)).mono ?_
        rintro e w4 ⟨⟨nn, rfl⟩, h1⟩
        have I4 := Lib.hid h1
        clear h1 c0 c1 c2 c3 c4 c5
        obtain ⟨c0, c1, c2, c3, c4, c5⟩ := box.out _ _ I4.out
        go_wp2_with fail
        refine (hstr.out _ _ I4.out (by have := HF.out; have := HT.out; simp only [hexL_len, List.length_append, List.length_cons, List.length_nil, szL]; omega)).mono ?_
        rintro e wz ⟨S, rfl, hS, hsz, hb1⟩
        have IZ := Lib.hid hb1
        clear hb1 c0 c1 c2 c3 c4 c5
        go_wp2
        go_ret
        refine ⟨?_, Lib.hid (BW.out _ IZ.out)⟩
        exact congrArg (fun b => Ending.returned (.string b)) (txt_eq (m := [93]) hS.out (by simp [textL]))
      | true =>
        go_enter Try.func16, Try.ntmps16
        go_wp2_with fail
        refine (hbyte.out _ _ 40 I0.out (by have := HF.out; have := HT.out; simp only [hexL_len, List.length_append, List.length_cons, List.length_nil, szL]; omega)).mono ?_
        rintro e w1 ⟨rfl, h1⟩
        have I1 := Lib.hid h1
        clear h1
        obtain ⟨c0, c1, c2, c3, c4, c5⟩ := box.out _ _ I1.out
        go_wp2_with fail
        refine (hbyte.out _ _ 44 I1.out (by have := HF.out; have := HT.out; simp only [hexL_len, List.length_append, List.length_cons, List.length_nil, szL]; omega)).mono ?_
        rintro e w2 ⟨rfl, h1⟩
        have I2 := Lib.hid h1
        clear c0 c1 c2 c3 c4 c5
        clear h1
        obtain ⟨c0, c1, c2, c3, c4, c5⟩ := box.out _ _ I2.out
        go_wp2_with fail
        refine (hdig.out _ to _ HT.out I2.out).mono ?_
        rintro e w3 ⟨rfl, h1⟩
        have I3 := Lib.hid h1
        clear h1 c0 c1 c2 c3 c4 c5
        obtain ⟨c0, c1, c2, c3, c4, c5⟩ := box.out _ _ I3.out
        go_wp2_with fail
        refine (htext.out _ _ (hexL to.data.toList) I3.out (by have := HF.out; have := HT.out; simp only [hexL_len, List.length_append, List.length_cons, List.length_nil, szL]; omega)).mono ?_
        rintro e w4 ⟨⟨nn, rfl⟩, h1⟩
        have I4 := Lib.hid h1
        clear h1 c0 c1 c2 c3 c4 c5
        obtain ⟨c0, c1, c2, c3, c4, c5⟩ := box.out _ _ I4.out
        go_wp2_with fail
        refine (hstr.out _ _ I4.out (by have := HF.out; have := HT.out; simp only [hexL_len, List.length_append, List.length_cons, List.length_nil, szL]; omega)).mono ?_
        rintro e wz ⟨S, rfl, hS, hsz, hb1⟩
        have IZ := Lib.hid hb1
        clear hb1 c0 c1 c2 c3 c4 c5
        go_wp2
        go_ret
        refine ⟨?_, Lib.hid (BW.out _ IZ.out)⟩
        exact congrArg (fun b => Ending.returned (.string b)) (txt_eq (m := [41]) hS.out (by simp [textL]))
  | true =>
    cases of with
    | false =>
      cases ht with
      | false =>
        go_enter Try.func16, Try.ntmps16
        go_wp2_with fail
        refine (hbyte.out _ _ 91 I0.out (by have := HF.out; have := HT.out; simp only [hexL_len, List.length_append, List.length_cons, List.length_nil, szL]; omega)).mono ?_
        rintro e w1 ⟨rfl, h1⟩
        have I1 := Lib.hid h1
        clear h1
        obtain ⟨c0, c1, c2, c3, c4, c5⟩ := box.out _ _ I1.out
        go_wp2_with fail
        refine (hdig.out _ fr _ HF.out I1.out).mono ?_
        rintro e w2 ⟨rfl, h1⟩
        have I2 := Lib.hid h1
        clear h1 c0 c1 c2 c3 c4 c5
        obtain ⟨c0, c1, c2, c3, c4, c5⟩ := box.out _ _ I2.out
        go_wp2_with fail
        refine (htext.out _ _ (hexL fr.data.toList) I2.out (by have := HF.out; have := HT.out; simp only [hexL_len, List.length_append, List.length_cons, List.length_nil, szL]; omega)).mono ?_
        rintro e w3 ⟨⟨nn, rfl⟩, h1⟩
        have I3 := Lib.hid h1
        clear h1 c0 c1 c2 c3 c4 c5
        obtain ⟨c0, c1, c2, c3, c4, c5⟩ := box.out _ _ I3.out
        go_wp2_with fail
        refine (hbyte.out _ _ 44 I3.out (by have := HF.out; have := HT.out; simp only [hexL_len, List.length_append, List.length_cons, List.length_nil, szL]; omega)).mono ?_
        rintro e w4 ⟨rfl, h1⟩
        have I4 := Lib.hid h1
        clear c0 c1 c2 c3 c4 c5
        clear h1
        obtain ⟨c0, c1, c2, c3, c4, c5⟩ := box.out _ _ I4.out
        go_wp2_with fail
        refine (hstr.out _ _ I4.out (by have := HF.out; have := HT.out; simp only [hexL_len, List.length_append, List.length_cons, List.length_nil, szL]; omega)).mono ?_
        rintro e wz ⟨S, rfl, hS, hsz, hb1⟩
        have IZ := Lib.hid hb1
        clear hb1 c0 c1 c2 c3 c4 c5
        go_wp2
        go_ret
        refine ⟨?_, Lib.hid (BW.out _ IZ.out)⟩
        exact congrArg (fun b => Ending.returned (.string b)) (txt_eq (m := [41]) hS.out (by simp [textL]))
      | true =>
        cases ot with
        | false =>
          go_enter Try.func16, Try.ntmps16
          go_wp2_with fail
          refine (hbyte.out _ _ 91 I0.out (by have := HF.out; have := HT.out; simp only [hexL_len, List.length_append, List.length_cons, List.length_nil, szL]; omega)).mono ?_
          rintro e w1 ⟨rfl, h1⟩
          have I1 := Lib.hid h1
          clear h1
          obtain ⟨c0, c1, c2, c3, c4, c5⟩ := box.out _ _ I1.out
          go_wp2_with fail
          refine (hdig.out _ fr _ HF.out I1.out).mono ?_
          rintro e w2 ⟨rfl, h1⟩
          have I2 := Lib.hid h1
          clear h1 c0 c1 c2 c3 c4 c5
          obtain ⟨c0, c1, c2, c3, c4, c5⟩ := box.out _ _ I2.out
          go_wp2_with fail
          refine (htext.out _ _ (hexL fr.data.toList) I2.out (by have := HF.out; have := HT.out; simp only [hexL_len, List.length_append, List.length_cons, List.length_nil, szL]; omega)).mono ?_
          rintro e w3 ⟨⟨nn, rfl⟩, h1⟩
          have I3 := Lib.hid h1
          clear h1 c0 c1 c2 c3 c4 c5
          obtain ⟨c0, c1, c2, c3, c4, c5⟩ := box.out _ _ I3.out
          go_wp2_with fail
          refine (hbyte.out _ _ 44 I3.out (by have := HF.out; have := HT.out; simp only [hexL_len, List.length_append, List.length_cons, List.length_nil, szL]; omega)).mono ?_
          rintro e w4 ⟨rfl, h1⟩
          have I4 := Lib.hid h1
          clear c0 c1 c2 c3 c4 c5
          clear h1
          obtain ⟨c0, c1, c2, c3, c4, c5⟩ := box.out _ _ I4.out
          go_wp2_with fail
          refine (hdig.out _ to _ HT.out I4.out).mono ?_
          rintro e w5 ⟨rfl, h1⟩
          have I5 := Lib.hid h1
          clear h1 c0 c1 c2 c3 c4 c5
          obtain ⟨c0, c1, c2, c3, c4, c5⟩ := box.out _ _ I5.out
          go_wp2_with fail
          refine (htext.out _ _ (hexL to.data.toList) I5.out (by have := HF.out; have := HT.out; simp only [hexL_len, List.length_append, List.length_cons, List.length_nil, szL]; omega)).mono ?_
          rintro e w6 ⟨⟨nn, rfl⟩, h1⟩
          have I6 := Lib.hid h1
          clear h1 c0 c1 c2 c3 c4 c5
          obtain ⟨c0, c1, c2, c3, c4, c5⟩ := box.out _ _ I6.out
          go_wp2_with fail
          refine (hstr.out _ _ I6.out (by have := HF.out; have := HT.out; simp only [hexL_len, List.length_append, List.length_cons, List.length_nil, szL]; omega)).mono ?_
          rintro e wz ⟨S, rfl, hS, hsz, hb1⟩
          have IZ := Lib.hid hb1
          clear hb1 c0 c1 c2 c3 c4 c5
          go_wp2
          go_ret
          refine ⟨?_, Lib.hid (BW.out _ IZ.out)⟩
          exact congrArg (fun b => Ending.returned (.string b)) (txt_eq (m := [93]) hS.out (by simp [textL]))
        | true =>
          go_enter Try.func16, Try.ntmps16
          go_wp2_with fail
          refine (hbyte.out _ _ 91 I0.out (by have := HF.out; have := HT.out; simp only [hexL_len, List.length_append, List.length_cons, List.length_nil, szL]; omega)).mono ?_
          rintro e w1 ⟨rfl, h1⟩
          have I1 := Lib.hid h1
          clear h1
          obtain ⟨c0, c1, c2, c3, c4, c5⟩ := box.out _ _ I1.out
          go_wp2_with fail
          refine (hdig.out _ fr _ HF.out I1.out).mono ?_
          rintro e w2 ⟨rfl, h1⟩
          have I2 := Lib.hid h1
          clear h1 c0 c1 c2 c3 c4 c5
          obtain ⟨c0, c1, c2, c3, c4, c5⟩ := box.out _ _ I2.out
          go_wp2_with fail
          refine (htext.out _ _ (hexL fr.data.toList) I2.out (by have := HF.out; have := HT.out; simp only [hexL_len, List.length_append, List.length_cons, List.length_nil, szL]; omega)).mono ?_
          rintro e w3 ⟨⟨nn, rfl⟩, h1⟩
          have I3 := Lib.hid h1
          clear h1 c0 c1 c2 c3 c4 c5
          obtain ⟨c0, c1, c2, c3, c4, c5⟩ := box.out _ _ I3.out
          go_wp2_with fail
          refine (hbyte.out _ _ 44 I3.out (by have := HF.out; have := HT.out; simp only [hexL_len, List.length_append, List.length_cons, List.length_nil, szL]; omega)).mono ?_
          rintro e w4 ⟨rfl, h1⟩
          have I4 := Lib.hid h1
          clear c0 c1 c2 c3 c4 c5
          clear h1
          obtain ⟨c0, c1, c2, c3, c4, c5⟩ := box.out _ _ I4.out
          go_wp2_with fail
          refine (hdig.out _ to _ HT.out I4.out).mono ?_
          rintro e w5 ⟨rfl, h1⟩
          have I5 := Lib.hid h1
          clear h1 c0 c1 c2 c3 c4 c5
          obtain ⟨c0, c1, c2, c3, c4, c5⟩ := box.out _ _ I5.out
          go_wp2_with fail
          refine (htext.out _ _ (hexL to.data.toList) I5.out (by have := HF.out; have := HT.out; simp only [hexL_len, List.length_append, List.length_cons, List.length_nil, szL]; omega)).mono ?_
          rintro e w6 ⟨⟨nn, rfl⟩, h1⟩
          have I6 := Lib.hid h1
          clear h1 c0 c1 c2 c3 c4 c5
          obtain ⟨c0, c1, c2, c3, c4, c5⟩ := box.out _ _ I6.out
          go_wp2_with fail
          refine (hstr.out _ _ I6.out (by have := HF.out; have := HT.out; simp only [hexL_len, List.length_append, List.length_cons, List.length_nil, szL]; omega)).mono ?_
          rintro e wz ⟨S, rfl, hS, hsz, hb1⟩
          have IZ := Lib.hid hb1
          clear hb1 c0 c1 c2 c3 c4 c5
          go_wp2
          go_ret
          refine ⟨?_, Lib.hid (BW.out _ IZ.out)⟩
          exact congrArg (fun b => Ending.returned (.string b)) (txt_eq (m := [41]) hS.out (by simp [textL]))
    | true =>
      cases ht with
      | false =>
        go_enter Try.func16, Try.ntmps16
        go_wp2_with fail
        refine (hbyte.out _ _ 40 I0.out (by have := HF.out; have := HT.out; simp only [hexL_len, List.length_append, List.length_cons, List.length_nil, szL]; omega)).mono ?_
        rintro e w1 ⟨rfl, h1⟩
        have I1 := Lib.hid h1
        clear h1
        obtain ⟨c0, c1, c2, c3, c4, c5⟩ := box.out _ _ I1.out
        go_wp2_with fail
        refine (hdig.out _ fr _ HF.out I1.out).mono ?_
        rintro e w2 ⟨rfl, h1⟩
        have I2 := Lib.hid h1
        clear h1 c0 c1 c2 c3 c4 c5
        obtain ⟨c0, c1, c2, c3, c4, c5⟩ := box.out _ _ I2.out
        go_wp2_with fail
        refine (htext.out _ _ (hexL fr.data.toList) I2.out (by have := HF.out; have := HT.out; simp only [hexL_len, List.length_append, List.length_cons, List.length_nil, szL]; omega)).mono ?_
        rintro e w3 ⟨⟨nn, rfl⟩, h1⟩
        have I3 := Lib.hid h1
        clear h1 c0 c1 c2 c3 c4 c5
        obtain ⟨c0, c1, c2, c3, c4, c5⟩ := box.out _ _ I3.out
        go_wp2_with fail
        refine (hbyte.out _ _ 44 I3.out (by have := HF.out; have := HT.out; simp only [hexL_len, List.length_append, List.length_cons, List.length_nil, szL]; omega)).mono ?_
        rintro e w4 ⟨rfl, h1⟩
        have I4 := Lib.hid h1
        clear c0 c1 c2 c3 c4 c5
        clear h1
        obtain ⟨c0, c1, c2, c3, c4, c5⟩ := box.out _ _ I4.out
        go_wp2_with fail
        refine (hstr.out _ _ I4.out (by have := HF.out; have := HT.out; simp only [hexL_len, List.length_append, List.length_cons, List.length_nil, szL]; omega)).mono ?_
        rintro e wz ⟨S, rfl, hS, hsz, hb1⟩
        have IZ := Lib.hid hb1
        clear hb1 c0 c1 c2 c3 c4 c5
        go_wp2
        go_ret
        refine ⟨?_, Lib.hid (BW.out _ IZ.out)⟩
        exact congrArg (fun b => Ending.returned (.string b)) (txt_eq (m := [41]) hS.out (by simp [textL]))
      | true =>
        cases ot with
        | false =>
          go_enter Try.func16, Try.ntmps16
          go_wp2_with fail
          refine (hbyte.out _ _ 40 I0.out (by have := HF.out; have := HT.out; simp only [hexL_len, List.length_append, List.length_cons, List.length_nil, szL]; omega)).mono ?_
          rintro e w1 ⟨rfl, h1⟩
          have I1 := Lib.hid h1
          clear h1
          obtain ⟨c0, c1, c2, c3, c4, c5⟩ := box.out _ _ I1.out
          go_wp2_with fail
          refine (hdig.out _ fr _ HF.out I1.out).mono ?_
          rintro e w2 ⟨rfl, h1⟩
          have I2 := Lib.hid h1
          clear h1 c0 c1 c2 c3 c4 c5
          obtain ⟨c0, c1, c2, c3, c4, c5⟩ := box.out _ _ I2.out
          go_wp2_with fail
          refine (htext.out _ _ (hexL fr.data.toList) I2.out (by have := HF.out; have := HT.out; simp only [hexL_len, List.length_append, List.length_cons, List.length_nil, szL]; omega)).mono ?_
          rintro e w3 ⟨⟨nn, rfl⟩, h1⟩
          have I3 := Lib.hid h1
          clear h1 c0 c1 c2 c3 c4 c5
          obtain ⟨c0, c1, c2, c3, c4, c5⟩ := box.out _ _ I3.out
          go_wp2_with fail
          refine (hbyte.out _ _ 44 I3.out (by have := HF.out; have := HT.out; simp only [hexL_len, List.length_append, List.length_cons, List.length_nil, szL]; omega)).mono ?_
          rintro e w4 ⟨rfl, h1⟩
          have I4 := Lib.hid h1
          clear c0 c1 c2 c3 c4 c5
          clear h1
          obtain ⟨c0, c1, c2, c3, c4, c5⟩ := box.out _ _ I4.out
          go_wp2_with fail
          refine (hdig.out _ to _ HT.out I4.out).mono ?_
          rintro e w5 ⟨rfl, h1⟩
          have I5 := Lib.hid h1
          clear h1 c0 c1 c2 c3 c4 c5
          obtain ⟨c0, c1, c2, c3, c4, c5⟩ := box.out _ _ I5.out
          go_wp2_with fail
          refine (htext.out _ _ (hexL to.data.toList) I5.out (by have := HF.out; have := HT.out; simp only [hexL_len, List.length_append, List.length_cons, List.length_nil, szL]; omega)).mono ?_
          rintro e w6 ⟨⟨nn, rfl⟩, h1⟩
          have I6 := Lib.hid h1
          clear h1 c0 c1 c2 c3 c4 c5
          obtain ⟨c0, c1, c2, c3, c4, c5⟩ := box.out _ _ I6.out
          go_wp2_with fail
          refine (hstr.out _ _ I6.out (by have := HF.out; have := HT.out; simp only [hexL_len, List.length_append, List.length_cons, List.length_nil, szL]; omega)).mono ?_
          rintro e wz ⟨S, rfl, hS, hsz, hb1⟩
          have IZ := Lib.hid hb1
          clear hb1 c0 c1 c2 c3 c4 c5
          go_wp2
          go_ret
          refine ⟨?_, Lib.hid (BW.out _ IZ.out)⟩
          exact congrArg (fun b => Ending.returned (.string b)) (txt_eq (m := [93]) hS.out (by simp [textL]))
        | true =>
          go_enter Try.func16, Try.ntmps16
          go_wp2_with fail
          refine (hbyte.out _ _ 40 I0.out (by have := HF.out; have := HT.out; simp only [hexL_len, List.length_append, List.length_cons, List.length_nil, szL]; omega)).mono ?_
          rintro e w1 ⟨rfl, h1⟩
          have I1 := Lib.hid h1
          clear h1
          obtain ⟨c0, c1, c2, c3, c4, c5⟩ := box.out _ _ I1.out
          go_wp2_with fail
          refine (hdig.out _ fr _ HF.out I1.out).mono ?_
          rintro e w2 ⟨rfl, h1⟩
          have I2 := Lib.hid h1
          clear h1 c0 c1 c2 c3 c4 c5
          obtain ⟨c0, c1, c2, c3, c4, c5⟩ := box.out _ _ I2.out
          go_wp2_with fail
          refine (htext.out _ _ (hexL fr.data.toList) I2.out (by have := HF.out; have := HT.out; simp only [hexL_len, List.length_append, List.length_cons, List.length_nil, szL]; omega)).mono ?_
          rintro e w3 ⟨⟨nn, rfl⟩, h1⟩
          have I3 := Lib.hid h1
          clear h1 c0 c1 c2 c3 c4 c5
          obtain ⟨c0, c1, c2, c3, c4, c5⟩ := box.out _ _ I3.out
          go_wp2_with fail
          refine (hbyte.out _ _ 44 I3.out (by have := HF.out; have := HT.out; simp only [hexL_len, List.length_append, List.length_cons, List.length_nil, szL]; omega)).mono ?_
          rintro e w4 ⟨rfl, h1⟩
          have I4 := Lib.hid h1
          clear c0 c1 c2 c3 c4 c5
          clear h1
          obtain ⟨c0, c1, c2, c3, c4, c5⟩ := box.out _ _ I4.out
          go_wp2_with fail
          refine (hdig.out _ to _ HT.out I4.out).mono ?_
          rintro e w5 ⟨rfl, h1⟩
          have I5 := Lib.hid h1
          clear h1 c0 c1 c2 c3 c4 c5
          obtain ⟨c0, c1, c2, c3, c4, c5⟩ := box.out _ _ I5.out
          go_wp2_with fail
          refine (htext.out _ _ (hexL to.data.toList) I5.out (by have := HF.out; have := HT.out; simp only [hexL_len, List.length_append, List.length_cons, List.length_nil, szL]; omega)).mono ?_
          rintro e w6 ⟨⟨nn, rfl⟩, h1⟩
          have I6 := Lib.hid h1
          clear h1 c0 c1 c2 c3 c4 c5
          obtain ⟨c0, c1, c2, c3, c4, c5⟩ := box.out _ _ I6.out
          go_wp2_with fail
          refine (hstr.out _ _ I6.out (by have := HF.out; have := HT.out; simp only [hexL_len, List.length_append, List.length_cons, List.length_nil, szL]; omega)).mono ?_
          rintro e wz ⟨S, rfl, hS, hsz, hb1⟩
          have IZ := Lib.hid hb1
          clear hb1 c0 c1 c2 c3 c4 c5
          go_wp2
          go_ret
          refine ⟨?_, Lib.hid (BW.out _ IZ.out)⟩
          exact congrArg (fun b => Ending.returned (.string b)) (txt_eq (m := [41]) hS.out (by simp [textL]))

end Go.Proofs.Ytcidmaeclonilaa
