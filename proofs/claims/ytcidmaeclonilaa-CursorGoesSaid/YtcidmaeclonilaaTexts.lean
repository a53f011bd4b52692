/- texts, sure of layer 12's statements. -/
import Derived.Test.YtcidmaeclonilaaOwn
namespace Go.Proofs.Ytcidmaeclonilaa
open Go Go.RowKit

theorem Row.str {w : World} {A : Option Addr} {n c : Nat} {xs : List ByteArray} (h : Row w 9 (.slice A n c) (xs.map Value.string)) :
    xs.length = n ∧ ∀ (j : Nat) x, xs[j]? = some x → ∃ g, A = some ⟨g, 0, none⟩ ∧ w.cell? ⟨g, j, none⟩ = some (.string x) := by
  obtain ⟨A', c', he, h1, h2, h3, h4⟩ := h.form
  injection he with e1 e2 e3
  refine ⟨by simpa using e2.symm, fun j x hj => ?_⟩
  obtain ⟨g, hg, hc, -⟩ := h3 j (.string x) (by rw [List.getElem?_map, hj]; rfl)
  exact ⟨g, by rw [e1]; exact hg, hc⟩

/-- up to i the texts are the same -/
def Same (xs ys : List ByteArray) (i : Nat) : Prop := ∀ j, j < i → xs[j]? = ys[j]?

set_option maxHeartbeats 1000000 in
theorem texts43 (w : World) (A B : Option Addr) (n m c d : Nat) (xs ys : List ByteArray) (ha : Row w 9 (.slice A n c) (xs.map Value.string)) (hb : Row w 9 (.slice B m d) (ys.map Value.string)) (hn : n ≤ 1000000) :
    Calls Try.prog 43 #[.slice A n c, .slice B m d] w fun e w' => e = .returned (.bool (decide (xs = ys))) ∧ ∃ q, w' = w.drewN q := by
  have h1 := ha.str
  have h2 := hb.str
  have X := Lib.hid h1
  have Y := Lib.hid h2
  clear ha hb h1 h2
  by_cases hnm : n = m
  · subst hnm
    have s0 := Lib.hid (show Same xs ys 0 from fun j hj => by omega)
    go_enter Try.func43, Try.ntmps43
    go_wp2
    go_loopg [5] n (fun kx s5 wr => ∃ (i q : Nat), s5 = .int .i64 i ∧ kx + i = n ∧ wr = w.drewN q ∧ Hid (Same xs ys i))
    case atStart => exact ⟨0, 0, rfl, rfl, rfl, s0⟩
    case round =>
      obtain ⟨i, q, rfl, hk, rfl, I⟩ := hrel
      by_cases hi : i < n
      · obtain ⟨x, hx⟩ : ∃ x, xs[i]? = some x := ⟨_, List.getElem?_eq_getElem (by rw [X.out.1]; exact hi)⟩
        obtain ⟨y, hy⟩ : ∃ y, ys[i]? = some y := ⟨_, List.getElem?_eq_getElem (by rw [Y.out.1]; exact hi)⟩
        obtain ⟨g, rfl, dx⟩ := X.out.2 i x hx
        obtain ⟨g', rfl, dy⟩ := Y.out.2 i y hy
        have hiz : (i : Int) < (n : Int) := by omega
        by_cases hxy : x = y
        · subst hxy
          have I2 := Lib.hid (show Same xs ys (i + 1) from fun j hj => by
            rcases Nat.lt_or_ge j i with h | h
            · exact I.out j h
            · obtain rfl : j = i := by omega
              rw [hx, hy])
          clear hx hy I s0 X Y
          go_wp2
          go_quiet (fail)
          go_wp2
          go_roundg (gk - 1)
          case measure => omega
          case rel => exact ⟨i + 1, _, rfl, by omega, rfl, I2⟩
        · have hne : (x.toList == y.toList) = false := by rw [beq_toList]; simpa using hxy
          have F := Lib.hid (show decide (xs = ys) = false from by
            rw [decide_eq_false_iff_not]; rintro rfl; rw [hx] at hy; exact hxy (Option.some.inj hy))
          clear hx hy I s0 X Y hxy
          go_wp2
          go_quiet (fail)
          go_wp2
          go_ret
          exact ⟨by rw [F.out]; rfl, _, World.drewN_drewN ..⟩
      · have hiz : ¬ ((i : Int) < (n : Int)) := by omega
        have F := Lib.hid (show decide (xs = ys) = true from by
          rw [decide_eq_true_eq]
          refine List.ext_getElem? fun j => ?_
          rcases Nat.lt_or_ge j i with h | h
          · exact I.out j h
          · rw [List.getElem?_eq_none (by rw [X.out.1]; omega), List.getElem?_eq_none (by rw [Y.out.1]; omega)])
        clear I s0 X Y
        go_wp2
        go_ret
        exact ⟨by rw [F.out]; rfl, q, rfl⟩
  · have hz : ((n : Int) == (m : Int)) = false := by rw [beq_eq_false_iff_ne]; omega
    have F := Lib.hid (show decide (xs = ys) = false from by
      rw [decide_eq_false_iff_not]; rintro rfl; exact hnm (X.out.1.symm.trans Y.out.1))
    clear X Y
    go_enter Try.func43, Try.ntmps43
    go_wp2
    go_ret
    exact ⟨by rw [F.out]; rfl, 0, rfl⟩

/-- the two keys that sure puts -/
def kA : ByteArray := ⟨#[97]⟩
def kB : ByteArray := ⟨#[98]⟩
theorem kAB : klt kA kB = true := by
  show Op.bytesLess (ByteArray.toList ⟨#[97]⟩) (ByteArray.toList ⟨#[98]⟩) = true
  rw [ByteArray.toList_eq, ByteArray.toList_eq]; rfl
theorem sureList : ins ⟨#[97]⟩ (.string ⟨#[50]⟩) (ins ⟨#[98]⟩ (.string ⟨#[49]⟩) []) = [(⟨#[97]⟩, .string ⟨#[50]⟩), (⟨#[98]⟩, .string ⟨#[49]⟩)] := by
  have h : klt ⟨#[97]⟩ ⟨#[98]⟩ = true := kAB
  have h2 := klt_asymm h
  simp [ins, h, h2]
theorem two_cells (w : World) (t : TypeId) (x y : ByteArray) : Row (w.alloc (.cells #[.string x, .string y] t)) t (.slice (some ⟨w.heap.size, 0, none⟩) 2 2) ([x, y].map Value.string) :=
  ⟨_, 2, rfl, by simp, by unfold maxLen; omega, .inr ⟨_, _, rfl, Blk.new w t #[.string x, .string y], by simp, fun j u hj => by simpa using hj⟩⟩

set_option maxHeartbeats 2000000 in
theorem sure25 (w : World) : Calls Try.prog 25 #[] w fun e w' => e = .returned (.bool true) ∧ Hid (Below w.heap.size w w') := by
  have hnew := Lib.hid (new_ownS w)
  have hput := Lib.hid (fun (w1 : World) (a : Nat) (l : List KV) (key z : ByteArray) (H : TOwnS w w1 a l) (hl : l.length ≤ 1000000) => put_ownS H key z hl)
  have hget := Lib.hid (fun (w1 : World) (a : Nat) (l : List KV) (key : ByteArray) (H : TOwnS w w1 a l) => get_ownS H key)
  have hkeys := Lib.hid (fun (w1 : World) (a : Nat) (l : List KV) (H : TOwnS w w1 a l) (hl : l.length ≤ 60000) => keys_ownS H hl)
  go_enter Try.func25, Try.ntmps25
  go_wp2_with fail
  refine hnew.out.mono ?_
  rintro e w1 ⟨a, rfl, h1⟩
  have c1 := Lib.hid (hput.out w1 a [] ⟨#[98]⟩ ⟨#[49]⟩ h1.out (by simp))
  clear hnew h1
  go_wp2_with fail
  refine c1.out.mono ?_
  rintro e w2 ⟨rfl, h2⟩
  have c2 := Lib.hid (hput.out w2 a _ ⟨#[97]⟩ ⟨#[50]⟩ h2.out (by simp [ins]))
  rw [sureList] at c2
  clear c1 h2 hput
  go_wp2_with fail
  refine c2.out.mono ?_
  rintro e w3 ⟨rfl, h3⟩
  have c3 := Lib.hid (hget.out w3 a _ ⟨#[97]⟩ h3.out)
  have e1 : look ⟨#[97]⟩ [(⟨#[97]⟩, Value.string ⟨#[50]⟩), (⟨#[98]⟩, .string ⟨#[49]⟩)] = some (.string ⟨#[50]⟩) := by simp [look]
  rw [e1] at c3
  clear c2 h3 e1 hget
  go_wp2_with fail
  refine c3.out.mono ?_
  simp only [Option.getD_some, Option.isSome_some]
  rintro e w4 ⟨rfl, h4⟩
  have c4 := Lib.hid (hkeys.out w4 a _ h4.out.2 (by simp))
  clear c3 h4 hkeys
  go_wp2_with fail
  refine c4.out.mono ?_
  simp only [List.length_cons, List.length_nil, Nat.zero_add, Nat.reduceAdd]
  rintro e w5 ⟨A, c, rfl, h5, h6⟩
  have c5 := texts43 (w5.alloc (.cells #[.string ⟨#[97]⟩, .string ⟨#[98]⟩] 9)) A (some ⟨w5.heap.size, 0, none⟩) 2 2 c 2 [⟨#[97]⟩, ⟨#[98]⟩] [⟨#[97]⟩, ⟨#[98]⟩] (h5.out.alloc _) (two_cells w5 9 _ _) (by omega)
  have C5 := Lib.hid c5
  have HB := Lib.hid (h6.out.2.world.alloc h6.out.2.world.size (.cells #[.string ⟨#[97]⟩, .string ⟨#[98]⟩] 9))
  clear c4 c5 h5 h6
  go_wp2_with (go_at_call 43; refine C5.out.mono ?_; rintro e w6 ⟨rfl, q, rfl⟩)
  go_ret
  exact ⟨rfl, Lib.hid (below_drewN' HB.out _)⟩

end Go.Proofs.Ytcidmaeclonilaa
