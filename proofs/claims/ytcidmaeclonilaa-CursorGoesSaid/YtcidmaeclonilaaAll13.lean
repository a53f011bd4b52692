/- ref13.All: the pairs of a list that lie in a range. -/
import Derived.Test.YtcidmaeclonilaaRefM
import Derived.Test.YtcidmaeclonilaaSeqM
import Derived.Test.YtcidmaeclonilaaRefA
import Derived.Test.YtcidmaeclonilaaTreeSame
namespace Go.Proofs.Ytcidmaeclonilaa
open Go Go.RowKit

theorem bt2 {A W W' : World} (h' : Below W.heap.size W W') (h : Below A.heap.size A W) : Below A.heap.size A W' := h.trans (h'.mono h.size)
/-- append of one pair -/
theorem app_one {W : World} {base : Nat} {A : Option Addr} {n c : Nat} {l : List KV} (H : OwnR W base A n c l) (hbase : base ≤ W.heap.size) (hB : Below base W W) (k v : ByteArray) (hs : n + 1 ≤ 1000000) :
    ∃ A' c' W', (Builtin.append_ #[61, 61] 61 #[.slice A n c, .slice (some ⟨W.heap.size, 0, none⟩) 1 1]).run Try.prog (W.alloc (.cells #[.string k, .string v] 81)) = .ok (.slice A' (n + 1) c') W' ∧ OwnR W' base A' (n + 1) c' (l ++ [(k, .string v)]) ∧ Below base W W' := by
  have hbE : Below W.heap.size W (W.alloc (.cells #[.string k, .string v] 81)) := (Below.refl _ W).alloc (Nat.le_refl _) _
  obtain ⟨A', c', W', hr, own, gr⟩ := app_part (H.kept hbE) (Nat.le_trans hbase hbE.size) ⟨W.heap.size, 0, none⟩ 1 1 [(k, .string v)] rfl (fun p hp => by
    obtain rfl : p = (k, .string v) := by simpa using hp
    exact ⟨_, rfl⟩) (fun j u hj => by
    rw [add_lit0, (Blk.new W 81 #[.string k, .string v]).cell]
    simpa [cellsP] using hj) hs
  refine ⟨A', c', W', hr, own, ?_⟩
  have h1 : Below base W (W.alloc (.cells #[.string k, .string v] 81)) := hB.alloc hbase _
  exact ⟨gr.os.trans h1.os, gr.tape.trans h1.tape, gr.output.trans h1.output, Nat.le_trans h1.size gr.size, fun x hx => (gr.block x (by have := h1.size; omega) (fun e => by have := H.own x e.symm; omega)).trans (h1.block x hx)⟩

set_option maxRecDepth 100000 in
set_option maxHeartbeats 4000000 in
theorem all50 (w : World) (A : Option Addr) (n c : Nat) (l : List KV) (hA : PArg w A n l) (hn : n ≤ 60000) (hv : ∀ p ∈ l, StrV p.2) (fr tt : ByteArray) (hf ht of ot : Bool) :
    Calls Try.prog 50 #[.slice A n c, .agg #[.string fr, .string tt, .bool hf, .bool ht, .bool of, .bool ot]] w fun e w' => ∃ (A' : Option Addr) (n' c' : Nat), e = .returned (.slice A' n' c') ∧ Hid (OwnR w' w.heap.size A' n' c' (inR fr tt hf ht of ot l)) ∧ Hid (Below w.heap.size w w') := by
  obtain ⟨wA, hwA⟩ : ∃ x, x = w.alloc (.cells #[.string fr, .string tt, .bool hf, .bool ht, .bool of, .bool ot] 23) := ⟨_, rfl⟩
  have r0 : RngAt wA w.heap.size ⟨fr, tt, hf, ht, of, ot⟩ := by rw [hwA]; exact RngAt.of_blk (Blk.new w 23 (Rng.cells ⟨fr, tt, hf, ht, of, ot⟩))
  have l0 : w.heap.size < wA.heap.size := by rw [hwA]; simp
  have b0 : Below w.heap.size w wA := by rw [hwA]; exact (Below.refl _ w).alloc (Nat.le_refl _) _
  have HA := Lib.hid (hA.below b0)
  have HV := Lib.hid hv
  have R0 := Lib.hid (And.intro r0 l0)
  have B0 := Lib.hid b0
  have HW := Lib.hid hwA
  clear hA hv r0 l0 b0 hwA
  go_enter Try.func50, Try.ntmps50
  go_wp2_with fail
  rw [← HW.out]
  go_loopg [5, 6] n (fun kx s5 s6 wr => ∃ (i m d : Nat) (B : Option Addr), s5 = .slice B m d ∧ s6 = .int .i64 i ∧ kx + i = n ∧ Hid (OwnR wr wA.heap.size B m d (inR fr tt hf ht of ot (l.take i))) ∧ Hid (Below wA.heap.size wA wr))
  case atStart => exact ⟨0, 0, 0, none, rfl, rfl, rfl, Lib.hid (OwnR.nil _ _), Lib.hid (Below.refl _ _)⟩
  case round =>
    obtain ⟨i, m, d, B, rfl, rfl, hk, I, BB⟩ := hrel
    by_cases hi : i < n
    · obtain ⟨p, hp⟩ : ∃ p, l[i]? = some p := ⟨_, List.getElem?_eq_getElem (by rw [HA.out.len]; exact hi)⟩
      obtain ⟨zk, v⟩ := p
      obtain ⟨zv, hzv⟩ := HV.out _ (List.mem_of_getElem? hp)
      obtain rfl : v = .string zv := hzv
      obtain ⟨g, rfl, hg, d0, d1⟩ := HA.out.at_ i _ hp
      have hiz : (i : Int) < (n : Int) := by omega
      have hml := Lib.hid (show m + 1 ≤ 1000000 by
        have h1 := I.out.len
        have h2 : (inR fr tt hf ht of ot (l.take i)).length ≤ (l.take i).length := List.length_filter_le _ _
        rw [List.length_take] at h2; omega)
      have KC := Lib.hid (show ∀ w' : World, Below wA.heap.size wA w' → (w'.cell? ⟨w.heap.size, 0, none⟩ = some (.string fr) ∧ w'.cell? ⟨w.heap.size, 1, none⟩ = some (.string tt) ∧ w'.cell? ⟨w.heap.size, 2, none⟩ = some (.bool hf) ∧ w'.cell? ⟨w.heap.size, 3, none⟩ = some (.bool ht) ∧ w'.cell? ⟨w.heap.size, 4, none⟩ = some (.bool of) ∧ w'.cell? ⟨w.heap.size, 5, none⟩ = some (.bool ot) ∧ w'.cell? ⟨g, i * 2, none⟩ = some (.string zk)) from fun w' hb => by
        obtain ⟨x0, x1, x2, x3, x4, x5⟩ := R0.out.1.below hb R0.out.2
        exact ⟨x0, x1, x2, x3, x4, x5, (hb.cell (p := ⟨g, i * 2, none⟩) hg).trans d0⟩)
      have KD := Lib.hid (show ∀ w' : World, Below wA.heap.size wA w' → w'.cell? ⟨g, i * 2, none⟩ = some (.string zk) ∧ w'.cell? ⟨g, i * 2 + 1, none⟩ = some (.string zv) from fun w' hb => ⟨(hb.cell (p := ⟨g, i * 2, none⟩) hg).trans d0, (hb.cell (p := ⟨g, i * 2 + 1, none⟩) hg).trans d1⟩)
      have hb : Below wA.heap.size wA wr.drew := BB.out.trans ((below_drew1 wr).mono BB.out.size)
      have hs := hb.size
      have HP := Lib.hid hp
      clear hp d0 d1 hg
      obtain ⟨bb, hbb⟩ : ∃ bb, hasB fr tt hf ht of ot zk = bb := ⟨_, rfl⟩
      have hh := Lib.hid (show ∀ W, Calls Try.prog 13 #[.agg #[.string fr, .string tt, .bool hf, .bool ht, .bool of, .bool ot], .string zk] W fun e w' => e = .returned (.bool bb) ∧ Hid (Below W.heap.size W w') from fun W => by
        have h := has13 W fr tt zk hf ht of ot
        rw [hbb] at h
        exact h)
      have NX := Lib.hid (show inR fr tt hf ht of ot (l.take (i + 1)) = if bb = true then inR fr tt hf ht of ot (l.take i) ++ [(zk, .string zv)] else inR fr tt hf ht of ot (l.take i) from by
        rw [List.take_add_one, HP.out]
        unfold inR
        rw [List.filter_append]
        cases bb <;> simp [hbb])
      clear hbb
      cases bb with
      | false =>
        go_upto_region 5 with fail
        go_region_held3 (fun w' : World => w'.cell? ⟨w.heap.size, 0, none⟩ = some (.string fr) ∧ w'.cell? ⟨w.heap.size, 1, none⟩ = some (.string tt) ∧ w'.cell? ⟨w.heap.size, 2, none⟩ = some (.bool hf) ∧ w'.cell? ⟨w.heap.size, 3, none⟩ = some (.bool ht) ∧ w'.cell? ⟨w.heap.size, 4, none⟩ = some (.bool of) ∧ w'.cell? ⟨w.heap.size, 5, none⟩ = some (.bool ot) ∧ w'.cell? ⟨g, i * 2, none⟩ = some (.string zk))
          ((refine KC.out _ ?_; go_grown))
          ((go_at_call 13; refine (hh.out _).mono ?_; rintro e w3 ⟨rfl, h3⟩; have hb3 := bt2 h3.out (show Below wA.heap.size wA _ by go_grown); have I3 := Lib.hid (I.out.kept ((below_drew1 wr).trans (h3.out.mono (below_drew1 wr).size)))))
        go_wp2_with fail
        go_roundg (gk - 1)
        case measure => omega
        case rel => exact ⟨i + 1, m, d, B, rfl, rfl, by omega, Lib.hid (by rw [NX.out]; exact I3.out), Lib.hid hb3⟩
      | true =>
        go_upto_region 5 with fail
        go_region_held3 (fun w' : World => w'.cell? ⟨w.heap.size, 0, none⟩ = some (.string fr) ∧ w'.cell? ⟨w.heap.size, 1, none⟩ = some (.string tt) ∧ w'.cell? ⟨w.heap.size, 2, none⟩ = some (.bool hf) ∧ w'.cell? ⟨w.heap.size, 3, none⟩ = some (.bool ht) ∧ w'.cell? ⟨w.heap.size, 4, none⟩ = some (.bool of) ∧ w'.cell? ⟨w.heap.size, 5, none⟩ = some (.bool ot) ∧ w'.cell? ⟨g, i * 2, none⟩ = some (.string zk))
          ((refine KC.out _ ?_; go_grown))
          ((go_at_call 13; refine (hh.out _).mono ?_; rintro e w3 ⟨rfl, h3⟩; have hb3 := bt2 h3.out (show Below wA.heap.size wA _ by go_grown); have I3 := Lib.hid (I.out.kept ((below_drew1 wr).trans (h3.out.mono (below_drew1 wr).size)))))
        obtain ⟨e0, e1⟩ := KD.out _ hb3
        obtain ⟨A', c', w5, hr, own, gr⟩ := app_one I3.out hb3.size (Below.refl _ _) zk zv hml.out
        have OW := Lib.hid own
        have GR := Lib.hid gr
        clear own gr
        go_wp2_with (at_builtin; (refine wpList_append_runI _ rfl _ _ 61 61 rfl (.slice B m d) (.slice (some ⟨w3.heap.size, 0, none⟩) 1 1) rfl rfl hr ?_))
        go_roundg (gk - 1)
        case measure => omega
        case rel => exact ⟨i + 1, m + 1, c', A', rfl, rfl, by omega, Lib.hid (by rw [NX.out]; exact OW.out), Lib.hid (hb3.trans GR.out)⟩
    · have hiz : ¬ ((i : Int) < (n : Int)) := by omega
      have F := Lib.hid (show OwnR wr w.heap.size B m d (inR fr tt hf ht of ot l) from by
        have := I.out
        rw [List.take_of_length_le (by rw [HA.out.len]; omega)] at this
        exact this.weak B0.out.size)
      have FB := Lib.hid (B0.out.trans (BB.out.mono B0.out.size))
      clear I BB hk
      go_wp2_with fail
      go_ret
      exact ⟨_, _, _, rfl, F, FB⟩

end Go.Proofs.Ytcidmaeclonilaa
