/- law16.sure. -/
import Derived.Test.YtcidmaeclonilaaVerE
import Derived.Lib.ConvBytes
import Derived.Laws.IdiomStrings
namespace Go.Proofs.Ytcidmaeclonilaa
open Go Go.RowKit

/-- a written row of bytes, marked as a text's -/
def markW (w : World) (u : Value) : World := (w.alloc (.cells #[u] 5)).freeze ⟨w.heap.size, 1, none⟩ 1
theorem conv53 (w : World) (u : Value) : (convert 53 53 (.slice (some ⟨w.heap.size, 0, none⟩) 1 1)).run Try.prog (w.alloc (.cells #[u] 5)) = .ok (.slice (some ⟨w.heap.size, 0, none⟩) 1 1) (markW w u) := by
  have hsh : (w.alloc (.cells #[u] 5)).shape? w.heap.size = some (5, 1) := by
    simp [World.shape?, World.alloc, -World.alloc_eq]
  simp [convert, run_underlying Try.underlying53, run_underlying Try.underlying5, markStringish, hsh, Result.andThen, markW]
theorem markW_old (w : World) (u : Value) (j : Nat) (hj : j < w.heap.size) : (markW w u).heap[j]? = w.heap[j]? := by
  have h1 : w.heap.size ≠ j := by omega
  simp [markW, World.freeze, World.alloc, -World.alloc_eq, Array.getElem?_modify, Array.getElem?_push, h1, Ne.symm h1]
theorem markW_new (w : World) (u : Value) : (markW w u).heap[w.heap.size]? = some (.cells #[u] 5 (1, 2)) := by
  simp [markW, World.freeze, World.alloc, -World.alloc_eq]
  try (rw [Array.getElem_modify_self]; simp)
theorem markW_size (w : World) (u : Value) : (markW w u).heap.size = w.heap.size + 1 := by
  simp [markW, World.freeze, World.alloc, -World.alloc_eq]
theorem markW_below (w : World) (u : Value) : Below w.heap.size w (markW w u) := ⟨rfl, rfl, rfl, by rw [markW_size]; omega, fun k hk => markW_old w u k hk⟩
theorem markW_cell (w : World) (u : Value) : (markW w u).cell? ⟨w.heap.size, 0, none⟩ = some u := by
  simp [World.cell?, markW_new]
theorem bytes_back {W : World} {A : Option Addr} {n c : Nat} {s : ByteArray} (h : BytesAt W (A, n, c) s) (hs : 0 < s.size) : (convert 53 9 (.slice A n c)).run Try.prog W = .ok (.string s) W := by
  have hl : n = s.size := h.len
  rcases h.form with ⟨-, h2, -⟩ | ⟨g, h1, -, h3⟩
  · omega
  · have hA : A = some ⟨g, 0, none⟩ := h1
    subst hA hl
    have := run_convert_bytes_back (P := Try.prog) W 53 9 5 ⟨g, 0, none⟩ c s.data.toList Try.underlying53 Try.underlying5 Try.underlying9 (fun j hj => by
      rw [add_lit0]
      have hj' : j < s.size := by rw [Array.length_toList] at hj; exact hj
      rw [h3 j hj', List.getD_eq_getElem?_getD, List.getElem?_eq_getElem hj]; rfl)
    rw [Array.length_toList] at this
    exact this

set_option maxRecDepth 100000 in
set_option maxHeartbeats 2000000 in
theorem sure37 (w : World) : Calls Try.prog 37 #[] w fun e w' => e = .returned (.bool true) ∧ Hid (Below w.heap.size w w') := by
  have hn := Lib.hid (new32 w)
  go_enter Try.func37, Try.ntmps37
  go_wp2_with fail
  refine hn.out.mono ?_
  clear hn
  rintro e w1 ⟨s, rfl, h1⟩
  have hbE := markW_below w1 (.int .u8 120)
  have hby : BytesAt (markW w1 (.int .u8 120)) (some ⟨w1.heap.size, 0, none⟩, 1, 1) ⟨#[120]⟩ := ⟨rfl, Nat.le_refl _, .inr ⟨w1.heap.size, rfl, by rw [markW_size]; omega, fun j hj => by
    have : j = 0 := by have h : (⟨#[120]⟩ : ByteArray).size = 1 := rfl; omega
    subst this
    exact markW_cell w1 _⟩⟩
  have p1 := Lib.hid (put33 (key := ⟨#[97]⟩) ((h1.out ⟨#[97]⟩).below hbE) 1 (by omega) (fun v hv => by cases hv) (by simp) false (some ⟨w1.heap.size, 0, none⟩) 1 1 ⟨#[120]⟩ hby (by show (1 : Nat) ≤ _; omega))
  clear h1 hby
  have hcv := conv53 w1 (.int .u8 120)
  go_wp2_with fail
  refine p1.out.mono ?_
  clear p1 hcv
  rintro e w2 ⟨rfl, row1, h2⟩
  have p2 := Lib.hid (put33 h2.out 3 (by omega) (fun v hv => (by simp at hv; subst hv; show (1 : Int) < 3; omega)) (by simp) true none 0 0 ⟨#[]⟩ (BytesAt.nil w2) (Nat.zero_le _))
  clear h2
  go_wp2_with fail
  refine p2.out.mono ?_
  clear p2
  rintro e w3 ⟨rfl, row2, h3⟩
  have hsr : VSrt ([] ++ [⟨1, row1, false⟩] ++ [⟨3, row2, true⟩] : List Ver) := by simp [VSrt]
  have p3 := Lib.hid (get34 h3.out 2 (by simp) hsr)
  have H3 := Lib.hid h3.out
  clear h3 hsr
  go_wp2_with fail
  refine p3.out.mono ?_
  clear p3
  rintro e w4 ⟨i, A, n, c, rfl, P, hby, hb⟩
  have hi : i = 1 := by
    have h1 := P.out.lo
    have h2 := P.out.hi
    have h3 := P.out.le
    simp at h3
    match i, h3 with
    | 0, _ => have := h2 0 ⟨1, row1, false⟩ (by omega) rfl; simp at this
    | 1, _ => rfl
    | 2, _ => have := h1 1 ⟨3, row2, true⟩ (by omega) rfl; simp at this
  subst hi
  have ht : textOf ([] ++ [⟨1, row1, false⟩] ++ [⟨3, row2, true⟩] : List Ver) ([] ++ [if (false : Bool) = true then ⟨#[]⟩ else ⟨#[120]⟩] ++ [if (true : Bool) = true then ⟨#[]⟩ else ⟨#[]⟩]) 1 = ⟨#[120]⟩ := by simp [textOf, rowOf]
  have hrb : (rowOf ([] ++ [⟨1, row1, false⟩] ++ [⟨3, row2, true⟩] : List Ver) 1).2 = true := by simp [rowOf]
  have hback := bytes_back (ht ▸ hby.out) (by show (0 : Nat) < 1; omega)
  have p4 := Lib.hid (versions36 (H3.out.below hb.out) (by simp))
  have BW := Lib.hid (H3.out.world.trans (hb.out.mono H3.out.world.size))
  rw [hrb]
  clear P hby hb ht hrb H3
  go_wp2_with (go_at_call 36; refine p4.out.mono ?_; rintro e w5 ⟨rfl, h5⟩)
  go_ret
  exact ⟨rfl, Lib.hid (BW.out.trans (h5.out.mono BW.out.size))⟩

end Go.Proofs.Ytcidmaeclonilaa
