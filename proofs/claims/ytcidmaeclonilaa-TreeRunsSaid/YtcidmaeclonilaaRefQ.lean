/- ref12.Put where the key is there. -/
import Derived.Test.YtcidmaeclonilaaRefP
import Derived.Deep.RegionLaw
namespace Go.Proofs.Ytcidmaeclonilaa
open Go Go.RowKit

set_option maxHeartbeats 4000000 in
set_option maxRecDepth 100000 in
theorem put46_old (w : World) (g n i d c : Nat) (l : List KV) (key z3 zv : ByteArray) (hat : Calls Try.prog 76 #[.slice (some ⟨g, 0, none⟩) n c, .string key] w fun e w' => e = .returned (.tuple #[.int .i64 i, .bool true]) ∧ ∃ q, w' = w.drewN q)
    (hP : AtP key l i true) (hzv : l[i]? = some (key, .string zv)) (hl : l.length = n) (hgw : g < w.heap.size) (hcell : ∀ j u, (cellsP l)[j]? = some u → w.cell? ⟨g, j, none⟩ = some u) (hn : n ≤ 60000) (hnc : n ≤ c) (hc63 : c ≤ 9223372036854775807) (hd : c = i + 1 ∨ c = i + 1 + d + 1) (hs : Srt l) (hv : ∀ p ∈ l, StrV p.2) :
    Calls Try.prog 46 #[.slice (some ⟨g, 0, none⟩) n c, .string key, .string z3] w (PutPost w w.heap.size l (ins key (.string z3) l) key) := by
  have hin : i + 1 ≤ n := by have := (List.getElem?_eq_some_iff.1 hzv).1; omega
  have hm := hP.mean hs (.string z3)
  have hlk := hm.2.2.2 _ hzv
  have hins : ins key (.string z3) l = (l.take i ++ [(key, .string z3)]) ++ l.drop (i + 1) := by rw [hm.2.1]; simp
  have HAT := Lib.hid hat
  have app := Lib.hid (fun q => put_two_app (c := c) q hcell hn hl (by omega : i ≤ n) hv key z3)
  have lst := Lib.hid (fun (w3 : World) (A2 : Option Addr) (c2 : Nat) (own2 : OwnR w3 w.heap.size A2 (i + 1) c2 (l.take i ++ [(key, .string z3)])) (hb3 : Below w.heap.size w w3) (a : Addr) (d : Nat) (ha : a = ⟨g, (i + 1) * 2, none⟩ ∨ i + 1 = n) => put_last (d := d) hcell hgw hn (by omega) hl hv hin own2 hb3 a ha)
  have HC := Lib.hid (And.intro hgw (hcell _ _ (cellsP_at hzv).2))
  have HI := Lib.hid hins
  have HN := Lib.hid hlk
  have hib : (i : Int) + 1 ≤ 9223372036854775807 := by omega
  clear hat hP hl hcell hs hv hm hins hlk hzv
  have hiz : (i : Int) + 1 ≤ (n : Int) := by omega
  have hilt : (i : Int) < (n : Int) := by omega
  have hiz1 : (0 : Int) ≤ (i : Int) + 1 := by omega
  have hiz0 : (0 : Int) ≤ (i : Int) := by omega
  have hwi : IntKind.i64.wrap ((i : Int) + 1) = (i : Int) + 1 := by rw [IntKind.wrap_i64]; omega
  have hne : ¬ (i + 1 + d = i) := by omega
  rcases hd with rfl | rfl
  · have hcn : (i : Int) ≤ ((i + 1 : Nat) : Int) := by omega
    have hcn2 : (n : Int) ≤ ((i + 1 : Nat) : Int) := by omega
    obtain rfl : n = i + 1 := by omega
    have hilt2 : (i : Int) < (i : Int) + 1 := by omega
    have hilt3 : i < i + 1 := by omega
    go_enter Try.func46, Try.ntmps46
    go_wp2_with fail
    refine HAT.out.mono ?_
    rintro e w1 ⟨rfl, q, rfl⟩
    obtain ⟨A1, c1, w2, hr1, A2, c2, w3, hr2, own2, hb3⟩ := app.out q
    have hbd : Below w3.heap.size w3 w3.drew := by have hb := Below.refl w3.heap.size w3; go_grown
    obtain ⟨A3, c3, w4, hr3, own3, hb4⟩ := lst.out w3.drew A2 c2 (own2.kept hbd) (hb3.trans (hbd.mono hb3.size)) ⟨g, 0, none⟩ (i + 1 - (i + 1)) (.inr (by first | trivial | omega))
    rw [Nat.sub_self] at hr3 own3
    have F := Lib.hid own3
    have FB := Lib.hid hb4
    have e3 : w3.drew.cell? ⟨g, i * 2 + 1, none⟩ = some (.string zv) := (hb3.cell (p := ⟨g, i * 2 + 1, none⟩) HC.out.1).trans HC.out.2
    have e4 : w4.cell? ⟨g, i * 2 + 1, none⟩ = some (.string zv) := (hb4.cell (p := ⟨g, i * 2 + 1, none⟩) HC.out.1).trans HC.out.2
    clear own2 hb3 own3 hb4 app lst HAT hbd
    go_wp2_with (at_builtin; first | (refine wpList_append_runI _ rfl _ _ 61 61 rfl (.slice none 0 0) (.slice (some ⟨g, 0, none⟩) i (i + 1)) rfl rfl hr1 ?_) | (refine wpList_append_runI _ rfl _ _ 61 61 rfl (.slice A1 i c1) (.slice (some ⟨w2.heap.size, 0, none⟩) 1 1) rfl rfl hr2 ?_))
    go_region_law (refine step_append_runI rfl _ _ 61 61 rfl (.slice A2 (i + 1) c2) (.slice (some ⟨g, 0, none⟩) 0 0) (by simp [Act.eval, Act.put]) (by simp [Act.eval, Act.put]) hr3 ?_)
    all_goals
      go_wp2_with fail
      go_ret3
      exact ⟨_, _, _, by rw [HN.out]; rfl, Lib.hid (by rw [HI.out]; exact F.out), FB⟩
  · have hcn : (i : Int) ≤ ((i + 1 + d + 1 : Nat) : Int) := by omega
    have hcn2 : (n : Int) ≤ ((i + 1 + d + 1 : Nat) : Int) := by omega
    clear hin hiz0
    have hiz0 : (0 : Int) ≤ (i : Int) := by omega
    go_enter Try.func46, Try.ntmps46
    go_wp2_with fail
    refine HAT.out.mono ?_
    rintro e w1 ⟨rfl, q, rfl⟩
    obtain ⟨A1, c1, w2, hr1, A2, c2, w3, hr2, own2, hb3⟩ := app.out q
    have hbd : Below w3.heap.size w3 w3.drew := by have hb := Below.refl w3.heap.size w3; go_grown
    obtain ⟨A3, c3, w4, hr3, own3, hb4⟩ := lst.out w3.drew A2 c2 (own2.kept hbd) (hb3.trans (hbd.mono hb3.size)) ⟨g, (i + 1) * 2, none⟩ (i + 1 + d + 1 - (i + 1)) (.inl rfl)
    have F := Lib.hid own3
    have FB := Lib.hid hb4
    have e3 : w3.drew.cell? ⟨g, i * 2 + 1, none⟩ = some (.string zv) := (hb3.cell (p := ⟨g, i * 2 + 1, none⟩) HC.out.1).trans HC.out.2
    have e4 : w4.cell? ⟨g, i * 2 + 1, none⟩ = some (.string zv) := (hb4.cell (p := ⟨g, i * 2 + 1, none⟩) HC.out.1).trans HC.out.2
    clear own2 hb3 own3 hb4 app lst HAT hbd
    go_wp2_with (at_builtin; first | (refine wpList_append_runI _ rfl _ _ 61 61 rfl (.slice none 0 0) (.slice (some ⟨g, 0, none⟩) i (i + 1 + d + 1)) rfl rfl hr1 ?_) | (refine wpList_append_runI _ rfl _ _ 61 61 rfl (.slice A1 i c1) (.slice (some ⟨w2.heap.size, 0, none⟩) 1 1) rfl rfl hr2 ?_))
    go_region_law (refine step_append_runI rfl _ _ 61 61 rfl (.slice A2 (i + 1) c2) (.slice (some ⟨g, (i + 1) * 2, none⟩) (n - (i + 1)) (i + 1 + d + 1 - (i + 1))) (by simp [Act.eval, Act.put]) (by simp [Act.eval, Act.put]) hr3 ?_)
    all_goals
      go_wp2_with fail
      go_ret3
      exact ⟨_, _, _, by rw [HN.out]; rfl, Lib.hid (by rw [HI.out]; exact F.out), FB⟩

end Go.Proofs.Ytcidmaeclonilaa
