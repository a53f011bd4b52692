/- The walk of barbicanlaw12.TreeSame. -/
import Derived.Test.YtcidmaeclonilaaSameP
import Derived.Test.YtcidmaeclonilaaTwo
import Derived.Test.YtcidmaeclonilaaTreeNear
import Derived.Deep.RegionHeld3
import Derived.Handy
namespace Go.Proofs.Ytcidmaeclonilaa
open Go Go.RowKit

theorem mem_putV {zs : List ByteArray} {p : KV} (hp : p ∈ putV [] zs) : p.1 ∈ zs := by
  obtain ⟨a1, -, a3⟩ := putV_ok zs [] List.Pairwise.nil
  have := look_mem a1 hp
  rw [a3] at this
  by_cases hk : p.1 ∈ zs
  · exact hk
  · rw [if_neg hk] at this; simp [look] at this
theorem below_drew1 (w : World) : Below w.heap.size w w.drew := by have hb := Below.refl w.heap.size w; go_grown
theorem blk_lt' {w : World} {a : Addr} {v : Value} (h : w.cell? a = some v) : a.block < w.heap.size := by
  by_cases hlt : a.block < w.heap.size
  · exact hlt
  · exfalso
    have : w.heap[a.block]? = none := Array.getElem?_eq_none (by omega)
    unfold World.cell? at h
    rw [this] at h
    cases h
theorem row_str {w : World} {A : Option Addr} {n c : Nat} {l : List KV} (h : Row w 9 (.slice A n c) (l.map fun p => .string p.1)) : Row w 9 (.slice A n c) ((l.map (·.1)).map Value.string) := by
  rw [List.map_map]; exact h

set_option maxRecDepth 100000 in
set_option maxHeartbeats 8000000 in
theorem treeSame8 (w : World) (A : Option Addr) (n c : Nat) (zs : List ByteArray) (hA : ArgS w A n zs) (B : Option Addr) (m d : Nat) (gs : List ByteArray) (hB : ArgS w B m gs) (hz : ∀ z ∈ zs, z.size ≤ 140737488355328) :
    Calls Try.prog 8 #[.slice A n c, .slice B m d] w fun e w' => e = .returned (.bool true) ∧ Hid (Below w.heap.size w w') := by
  have hnew := Lib.hid (fun w1 => new_ownS w1)
  have hsure := Lib.hid sure25
  have HA := Lib.hid hA
  have HB := Lib.hid hB
  have HZ := Lib.hid hz
  clear hA hB hz
  by_cases h3 : n ≤ 300 ∧ m ≤ 300
  · obtain ⟨hn3, hm3⟩ := h3
    have hnz : ¬ ((300 : Int) < (n : Int)) := by omega
    have hmz : ¬ ((300 : Int) < (m : Int)) := by omega
    have hnz2 : (n : Int) ≤ 300 := by omega
    have hmz2 : (m : Int) ≤ 300 := by omega
    go_enter Try.func8, Try.ntmps8
    go_wp2_with fail
    refine (hnew.out w).mono ?_
    rintro e w1 ⟨a, rfl, h1⟩
    have hn2 := Lib.hid (hnew.out w1)
    clear hnew
    go_wp2_with fail
    refine hn2.out.mono ?_
    clear hn2
    rintro e w2 ⟨b, rfl, h2⟩
    have T0 := Lib.hid (Two.start h1.out h2.out)
    clear h1 h2
    go_wp2_with fail
    go_loopg [7] n (fun kx s7 wr => ∃ (i : Nat), s7 = .int .i64 i ∧ kx + i = n ∧ Hid (Two w wr a (putV [] (zs.take i)) b []))
    case atStart => exact ⟨0, rfl, rfl, T0⟩
    case round =>
      obtain ⟨i, rfl, hk, I⟩ := hrel
      clear T0
      by_cases hi : i < n
      · obtain ⟨z, hzi⟩ : ∃ z, zs[i]? = some z := ⟨_, List.getElem?_eq_getElem (by rw [HA.out.len]; exact hi)⟩
        obtain ⟨ba, off, rfl, hb, hcell⟩ := HA.out.at_ i z hzi
        have d0 : wr.cell? ⟨ba, off + i, none⟩ = some (.string z) := (I.out.world.cell (p := ⟨ba, off + i, none⟩) hb).trans hcell
        have hiz : (i : Int) < (n : Int) := by omega
        have hzs : ¬ (9223372036854775807 < z.size + 1) := by have := HZ.out z (List.mem_of_getElem? hzi); omega
        have hc := put_two (I.out.below (below_drew1 wr)) z (z ++ ⟨#[118]⟩) (by have := (putV_ok (zs.take i) [] List.Pairwise.nil).2.1; simp at this; omega)
        rw [show ins z (Value.string (z ++ ⟨#[118]⟩)) (putV [] (zs.take i)) = putV [] (zs.take (i + 1)) from (putV_take hzi).symm] at hc
        have HC := Lib.hid hc
        have HX := Lib.hid (And.intro hb hcell)
        clear hc hcell hb hzi I
        go_wp2_with fail
        go_region_held3 (fun w' : World => w'.cell? ⟨ba, off + i, none⟩ = some (.string z)) (first | exact d0 | assumption)
          ((go_at_call 26; refine HC.out.mono ?_; rintro e w3 ⟨rfl, h3⟩; have d3 : w3.cell? ⟨ba, off + i, none⟩ = some (.string z) := (h3.out.world.cell (p := ⟨ba, off + i, none⟩) HX.out.1).trans HX.out.2))
        go_wp2_with fail
        go_roundg (gk - 1)
        case measure => omega
        case rel => exact ⟨i + 1, rfl, by omega, h3⟩
      · have hiz : ¬ ((i : Int) < (n : Int)) := by omega
        obtain ⟨la, hla⟩ : ∃ l, l = putV [] zs := ⟨_, rfl⟩
        have I1 := Lib.hid (show Two w wr a la b [] from by
          have := I.out
          rw [List.take_of_length_le (by rw [HA.out.len]; omega), ← hla] at this; exact this)
        have HLA := Lib.hid hla
        clear I hk hla
        go_wp2_with fail
        go_loopg [8] m (fun kx s8 wr => ∃ (i : Nat), s8 = .int .i64 i ∧ kx + i = m ∧ Hid (Two w wr a la b (putX [] (gs.take i))))
        case atStart => exact ⟨0, rfl, rfl, I1⟩
        case round =>
          obtain ⟨i, rfl, hk, I⟩ := hrel
          clear I1
          by_cases hi : i < m
          · obtain ⟨z, hzi⟩ : ∃ z, gs[i]? = some z := ⟨_, List.getElem?_eq_getElem (by rw [HB.out.len]; exact hi)⟩
            obtain ⟨ba, off, rfl, hb, hcell⟩ := HB.out.at_ i z hzi
            have d0 : wr.cell? ⟨ba, off + i, none⟩ = some (.string z) := (I.out.world.cell (p := ⟨ba, off + i, none⟩) hb).trans hcell
            have hiz : (i : Int) < (m : Int) := by omega
            have hc := put_two I.out.swap z ⟨#[120]⟩ (by have := (putX_ok (gs.take i) [] List.Pairwise.nil).2.1; simp at this; omega)
            rw [show ins z (Value.string ⟨#[120]⟩) (putX [] (gs.take i)) = putX [] (gs.take (i + 1)) from (putX_take hzi).symm] at hc
            have HC := Lib.hid hc
            clear hc hcell hzi I
            go_wp2_with (go_at_call 26; refine HC.out.mono ?_; rintro e w3 ⟨rfl, h3⟩)
            go_roundg (gk - 1)
            case measure => omega
            case rel => exact ⟨i + 1, rfl, by omega, Lib.hid h3.out.swap⟩
          · have hiz : ¬ ((i : Int) < (m : Int)) := by omega
            obtain ⟨lx, hlx⟩ : ∃ l, l = putX [] gs := ⟨_, rfl⟩
            have I1 := Lib.hid (show Two w wr a la b lx from by
              have := I.out
              rw [List.take_of_length_le (by rw [HB.out.len]; omega), ← hlx] at this; exact this)
            have HLX := Lib.hid hlx
            clear I hk hlx
            go_wp2_with fail
            go_loopg [9] n (fun kx s9 wr => ∃ (q : Int), s9 = .int .i64 q ∧ q + 1 = kx ∧ kx ≤ n ∧ Hid (Two w wr a la b (putR (zs.drop kx) lx)))
            case atStart => exact ⟨_, rfl, by omega, Nat.le_refl _, by rw [List.drop_of_length_le (by rw [HA.out.len]; exact Nat.le_refl _)]; exact I1⟩
            case round =>
              obtain ⟨q, rfl, hq, hkn, I⟩ := hrel
              clear I1
              cases gk with
              | succ i =>
                obtain rfl : q = (i : Int) := by omega
                obtain ⟨z, hzi⟩ : ∃ z, zs[i]? = some z := ⟨_, List.getElem?_eq_getElem (by rw [HA.out.len]; omega)⟩
                obtain ⟨ba, off, rfl, hb, hcell⟩ := HA.out.at_ i z hzi
                have d0 : wr.cell? ⟨ba, off + i, none⟩ = some (.string z) := (I.out.world.cell (p := ⟨ba, off + i, none⟩) hb).trans hcell
                have hiz : (i : Int) < (n : Int) := by omega
                have hzs : ¬ (9223372036854775807 < z.size + 1) := by have := HZ.out z (List.mem_of_getElem? hzi); omega
                have hc := put_two (I.out.swap.below (below_drew1 wr)) z (z ++ ⟨#[118]⟩) (by
                  have h1 := putX_ok gs [] List.Pairwise.nil
                  rw [← HLX.out] at h1
                  have h2 := (putR_ok lx h1.1 (zs.drop (i + 1))).2.1
                  have h3 := h1.2.1
                  have h4 := HA.out.len
                  have h5 := HB.out.len
                  simp at h2 h3; omega)
                rw [show ins z (Value.string (z ++ ⟨#[118]⟩)) (putR (zs.drop (i + 1)) lx) = putR (zs.drop i) lx from (putR_drop hzi).symm] at hc
                have HC := Lib.hid hc
                have HX := Lib.hid (And.intro hb hcell)
                clear hc hcell hb hzi I hq
                go_wp2_with fail
                go_region_held3 (fun w' : World => w'.cell? ⟨ba, off + i, none⟩ = some (.string z)) (first | exact d0 | assumption)
                  ((go_at_call 26; refine HC.out.mono ?_; rintro e w3 ⟨rfl, h3⟩; have d3 : w3.cell? ⟨ba, off + i, none⟩ = some (.string z) := (h3.out.world.cell (p := ⟨ba, off + i, none⟩) HX.out.1).trans HX.out.2))
                go_wp2_with fail
                go_roundg i
                case measure => omega
                case rel => exact ⟨_, rfl, by omega, by omega, Lib.hid h3.out.swap⟩
              | zero =>
                obtain rfl : q = -1 := by omega
                obtain ⟨lr, hlr⟩ : ∃ l, l = putR zs lx := ⟨_, rfl⟩
                have I1 := Lib.hid (show Two w wr a la b lr from by
                  have := I.out
                  rw [List.drop_zero, ← hlr] at this; exact this)
                have HLR := Lib.hid hlr
                clear I hq hlr
                go_wp2_with fail
                go_loopg [10] m (fun kx s10 wr => ∃ (i : Nat), s10 = .int .i64 i ∧ kx + i = m ∧ Hid (Two w wr a la b (dropN la lr (gs.take i))))
                case atStart => exact ⟨0, rfl, rfl, I1⟩
                case round =>
                  obtain ⟨i, rfl, hk, I⟩ := hrel
                  clear I1
                  by_cases hi : i < m
                  · obtain ⟨z, hzi⟩ : ∃ z, gs[i]? = some z := ⟨_, List.getElem?_eq_getElem (by rw [HB.out.len]; exact hi)⟩
                    obtain ⟨ba, off, rfl, hb, hcell⟩ := HB.out.at_ i z hzi
                    have d0 : wr.cell? ⟨ba, off + i, none⟩ = some (.string z) := (I.out.world.cell (p := ⟨ba, off + i, none⟩) hb).trans hcell
                    have hiz : (i : Int) < (m : Int) := by omega
                    obtain ⟨bb, hbb⟩ : ∃ bb, bb = (look z la).isSome := ⟨_, rfl⟩
                    obtain ⟨zv, hzv⟩ : ∃ zv, zv = (look z la).getD (Value.string ⟨#[]⟩) := ⟨_, rfl⟩
                    have hg := get_two I.out z
                    rw [← hbb, ← hzv] at hg
                    have HG := Lib.hid hg
                    have HBB := Lib.hid hbb
                    have HX := Lib.hid (And.intro hb hcell)
                    have HZI := Lib.hid hzi
                    clear hg hcell hzi I hbb hzv hb
                    go_wp2_with fail
                    refine HG.out.mono ?_
                    clear HG
                    rintro e w3 ⟨rfl, h3⟩
                    have d3 : w3.cell? ⟨ba, off + i, none⟩ = some (.string z) := (h3.out.2.world.cell (p := ⟨ba, off + i, none⟩) HX.out.1).trans HX.out.2
                    cases bb with
                    | true =>
                      have J := Lib.hid (show Two w w3 a la b (dropN la lr (gs.take (i + 1))) from by
                        rw [dropN_take HZI.out, if_pos HBB.out.symm]; exact h3.out.2)
                      clear h3 d0 d3
                      go_wp2_with fail
                      go_roundg (gk - 1)
                      case measure => omega
                      case rel => exact ⟨i + 1, rfl, by omega, J⟩
                    | false =>
                      have hc := drop_two h3.out.2.swap z (by
                        have h1 := putX_ok gs [] List.Pairwise.nil
                        rw [← HLX.out] at h1
                        have h2 := putR_ok lx h1.1 zs
                        rw [← HLR.out] at h2
                        have h6 := (dropN_ok la (gs.take i) lr h2.1).2.1
                        have h7 := h2.2.1
                        have h3 := h1.2.1
                        have h4 := HA.out.len
                        have h5 := HB.out.len
                        simp at h3; omega)
                      rw [show del z (dropN la lr (gs.take i)) = dropN la lr (gs.take (i + 1)) from by rw [dropN_take HZI.out, if_neg (by rw [← HBB.out]; decide)]] at hc
                      have HC := Lib.hid hc
                      clear hc h3 d0
                      go_wp2_with (go_at_call 42; refine HC.out.mono ?_; rintro e w4 ⟨rfl, h4⟩)
                      go_roundg (gk - 1)
                      case measure => omega
                      case rel => exact ⟨i + 1, rfl, by omega, Lib.hid h4.out.swap⟩
                  · have hiz : ¬ ((i : Int) < (m : Int)) := by omega
                    have hsame := same_pure zs gs
                    rw [← HLA.out, ← HLX.out, ← HLR.out] at hsame
                    have I1 := Lib.hid (show Two w wr a la b la from by
                      have := I.out
                      rw [List.take_of_length_le (by rw [HB.out.len]; omega), hsame.1] at this; exact this)
                    have hlen : la.length ≤ 300 := by
                      have := (putV_ok zs [] List.Pairwise.nil).2.1
                      rw [← HLA.out, HA.out.len] at this; simp at this; omega
                    have SV := Lib.hid hsame.2
                    have MV := Lib.hid (show ∀ p ∈ la, p.1.size ≤ 140737488355328 from fun p hp => HZ.out p.1 (mem_putV (by rw [← HLA.out]; exact hp)))
                    have hks := Lib.hid (keys_two I1.out (by omega))
                    clear I hk hsame HLX HLR HLA
                    generalize la = l at *
                    go_wp2_with fail
                    refine hks.out.mono ?_
                    clear hks I1
                    rintro e w3 ⟨K, kc, rfl, hrow, h3⟩
                    have I1 := Lib.hid (show Two w w3 a l b l ∧ Row w3 9 (.slice K l.length kc) (l.map fun p => .string p.1) from ⟨h3.out.2, hrow.out⟩)
                    clear hrow h3
                    go_wp2_with fail
                    go_loopg [14] l.length (fun kx s14 wr => ∃ (i : Nat), s14 = .int .i64 i ∧ kx + i = l.length ∧ Hid (Two w wr a l b l ∧ Row wr 9 (.slice K l.length kc) (l.map fun p => .string p.1)))
                    case atStart => exact ⟨0, rfl, rfl, I1⟩
                    case round =>
                      obtain ⟨i, rfl, hk, I⟩ := hrel
                      clear I1
                      by_cases hi : i < l.length
                      · obtain ⟨p, hp⟩ : ∃ p, l[i]? = some p := ⟨_, List.getElem?_eq_getElem hi⟩
                        obtain ⟨it, ir⟩ := I.out
                        obtain ⟨g, rfl, d0⟩ := (row_str ir).str.2 i p.1 (by rw [List.getElem?_map, hp]; rfl)
                        have hiz : (i : Int) < (l.length : Int) := by omega
                        have hpm := List.mem_of_getElem? hp
                        have hps : (p.1.size : Int) ≤ 140737488355328 := by have := MV.out p hpm; omega
                        have hlk : look p.1 l = some (Value.string (p.1 ++ ⟨#[118]⟩)) := by
                          rw [look_mem it.one.srt hpm, SV.out p hpm]; rfl
                        have hg := get_two it.swap p.1
                        rw [hlk] at hg
                        have HG := Lib.hid hg
                        have HR := Lib.hid ir
                        clear it ir hg hp hpm hlk I
                        generalize p.1 = z at *
                        go_wp2_with fail
                        refine HG.out.mono ?_
                        clear HG
                        rintro e w4 ⟨rfl, h4⟩
                        have R4 := Lib.hid (show Row w4 9 (.slice (some ⟨g, 0, none⟩) l.length kc) (l.map fun p => .string p.1) from HR.out.kept fun k hk => h4.out.1.block k (HR.out.lt k hk))
                        have d4 : w4.cell? ⟨g, i, none⟩ = some (.string z) := (h4.out.1.cell (p := ⟨g, i, none⟩) (blk_lt' d0)).trans d0
                        have J := Lib.hid (And.intro h4.out.2.swap R4.out)
                        clear h4 R4 d0 HR
                        go_wp2_with fail
                        go_roundg (gk - 1)
                        case measure => omega
                        case rel => exact ⟨i + 1, rfl, by omega, J⟩
                      · have hiz : ¬ ((i : Int) < (l.length : Int)) := by omega
                        obtain ⟨it, ir⟩ := I.out
                        have hks := Lib.hid (keys_two it.swap (by omega))
                        have HR := Lib.hid ir
                        clear it ir I hk
                        go_wp2_with fail
                        refine hks.out.mono ?_
                        clear hks
                        rintro e w4 ⟨K2, kc2, rfl, hrow, h4⟩
                        have R4 := Lib.hid (show Row w4 9 (.slice K l.length kc) (l.map fun p => .string p.1) from HR.out.kept fun k hk => h4.out.1.block k (HR.out.lt k hk))
                        have htx := texts43 w4 K K2 l.length l.length kc kc2 (l.map (·.1)) (l.map (·.1)) (row_str R4.out) (row_str hrow.out) (by omega)
                        rw [show decide (l.map (·.1) = l.map (·.1)) = true by simp] at htx
                        have HT := Lib.hid htx
                        have J := Lib.hid h4.out.2
                        clear htx h4 hrow R4 HR
                        go_wp2_with fail
                        refine HT.out.mono ?_
                        clear HT
                        rintro e w5 ⟨rfl, q5, rfl⟩
                        have J5 := Lib.hid (show Two w (w4.drewN q5) b l a l from J.out.below (below_drewN' (Below.refl _ _) q5))
                        have hla := Lib.hid (len_ownS J5.out.swap.one)
                        have hlb := Lib.hid (len_ownS J5.out.one)
                        clear J
                        go_wp2_with fail
                        refine hla.out.mono ?_
                        rintro e w6 ⟨rfl, rfl⟩
                        go_wp2_with fail
                        refine hlb.out.mono ?_
                        rintro e w6 ⟨rfl, rfl⟩
                        have hsu := Lib.hid (hsure.out (w4.drewN q5))
                        go_wp2_with (go_at_call 25; refine hsu.out.mono ?_; rintro e w7 ⟨rfl, h7⟩)
                        go_ret
                        exact ⟨rfl, Lib.hid (J5.out.world.trans (h7.out.mono J5.out.world.size))⟩
  · have hor : (300 : Int) < (n : Int) ∨ ((n : Int) ≤ 300 ∧ (300 : Int) < (m : Int)) := by omega
    clear h3
    rcases hor with hnz | ⟨hnz, hmz⟩
    all_goals
      go_enter Try.func8, Try.ntmps8
      go_wp2_with fail
      refine (hnew.out w).mono ?_
      rintro e w1 ⟨a, rfl, h1⟩
      have hn2 := Lib.hid (hnew.out w1)
      go_wp2_with fail
      refine hn2.out.mono ?_
      clear hn2 hnew
      rintro e w2 ⟨b, rfl, h2⟩
      have T0 := Lib.hid (Two.start h1.out h2.out)
      have hsu := Lib.hid (hsure.out w2)
      clear h1 h2
      go_wp2_with (go_at_call 25; refine hsu.out.mono ?_; rintro e w7 ⟨rfl, h7⟩)
      go_ret
      exact ⟨rfl, Lib.hid (T0.out.world.trans (h7.out.mono T0.out.world.size))⟩

end Go.Proofs.Ytcidmaeclonilaa
