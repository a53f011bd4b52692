/- The walk of barbicanlaw16.VersionTravel. -/
import Derived.Test.YtcidmaeclonilaaTravP
import Derived.Deep.CutRange
import Derived.Deep.RegionHeld3
import Derived.Handy
import Derived.Test.YtcidmaeclonilaaSeqM
import Derived.Deep.RegionWith
import Derived.Deep.LoopGhost
import Derived.Deep.QuietTactic
import Derived.BigQuiet
namespace Go.Proofs.Ytcidmaeclonilaa
open Go Go.RowKit

theorem below_drewV (w : World) : Below w.heap.size w w.drew := by have hb := Below.refl w.heap.size w; go_grown

theorem below_drewNV (w : World) (q : Nat) : Below w.heap.size w (w.drewN q) := ⟨rfl, rfl, rfl, Nat.le_refl _, fun _ _ => rfl⟩
theorem zbox2V {W w' : World} {cs : Array Value} {t : TypeId} {b : Nat} (z : Blk W b t cs) (h : Below W.heap.size W w') : Blk w' b t cs := (h.block _ z.lt).trans z

set_option maxRecDepth 100000 in
set_option maxHeartbeats 8000000 in
theorem versionTravel6 (w : World) (A : Option Addr) (n c : Nat) (acts : List (ByteArray × Bool)) (hA : ArgV w A n acts) (hz : ∀ x ∈ acts, x.1.size ≤ 140737488355328) :
    Calls Try.prog 6 #[.slice A n c] w fun e w' => e = .returned (.bool true) ∧ Hid (Below w.heap.size w w') := by
  have hn := Lib.hid (new32 w)
  have hsu := Lib.hid sure37
  have HA := Lib.hid hA
  have HZ := Lib.hid hz
  obtain ⟨N, hN⟩ : ∃ N : Nat, N = min n 60 := ⟨_, rfl⟩
  have hN6 : N ≤ 60 := by omega
  have hNn : N ≤ n := by omega
  have HNa := Lib.hid (show N ≤ acts.length from by rw [hA.len]; exact hNn)
  have HM := Lib.hid hN
  clear hA hz hN
  go_enter Try.func6, Try.ntmps6
  go_wp2_with fail
  refine hn.out.mono ?_
  clear hn
  rintro e w1 ⟨s, rfl, h1⟩
  have K1 := Lib.hid (show StK acts w w1 s 0 from ⟨[], [], h1.out ⟨#[107]⟩, TravP.nil acts⟩)
  clear h1
  go_upto_region 4 with fail
  go_cut [4] from 14 to 16 (fun s4 wx => s4 = .int .i64 N ∧ Hid (StK acts w wx s 0))
  case first =>
    by_cases h6 : n ≤ 60
    · have e : N = n := by rw [HM.out]; omega
      have hz6 : (n : Int) ≤ 60 := by omega
      go_wp2_with fail
      go_meet
      case rel => exact ⟨by rw [e], K1⟩
    · have e : N = 60 := by rw [HM.out]; omega
      have hz6 : ¬ (n : Int) ≤ 60 := by omega
      have hz7 : (60 : Int) < (n : Int) := by omega
      go_wp2_with fail
      go_meet
      case rel => exact ⟨by rw [e]; rfl, K1⟩
  case rest =>
  obtain ⟨rfl, K2⟩ := hcut
  clear K1
  go_wp2_with fail
  go_loopg [5] N (fun kx s5 wr => ∃ i : Nat, s5 = .int .i64 i ∧ kx + i = N ∧ Hid (StK acts w wr s i))
  case atStart => exact ⟨0, rfl, rfl, K2⟩
  case round =>
    obtain ⟨i, rfl, hk, K⟩ := hrel
    clear K2
    by_cases hi : i < N
    · obtain ⟨⟨z, g⟩, hzi⟩ : ∃ x, acts[i]? = some x := ⟨_, List.getElem?_eq_getElem (by have := HNa.out; omega)⟩
      obtain ⟨b, off, rfl, hb, c3, c4⟩ := HA.out.at_ i z g hzi
      have hsz : z.size ≤ 140737488355328 := HZ.out _ (List.mem_of_getElem? hzi)
      have hW := K.out.world
      have kc := Lib.hid (show ∀ W, Below w.heap.size w W → W.cell? ⟨b, off + i * 5 + 3, none⟩ = some (.string z) ∧ W.cell? ⟨b, off + i * 5 + 4, none⟩ = some (.bool g) from fun W h =>
        ⟨(h.cell (p := ⟨b, off + i * 5 + 3, none⟩) hb).trans c3, (h.cell (p := ⟨b, off + i * 5 + 4, none⟩) hb).trans c4⟩)
      have bB : Below wr.heap.size wr (Lib.bytesWorld wr.drew 5 z) := (below_drewV wr).trans ((bytesWorld_below wr.drew 5 z).mono (below_drewV wr).size)
      have hcv := Lib.run_convert_string_bytes (P := Try.prog) wr.drew 9 53 5 z Try.underlying9 Try.underlying53 Try.underlying5
      have hput := Lib.hid (stput (K.out.below bB) hzi (by omega) hsz (some ⟨wr.drew.heap.size, 0, none⟩) z.size (grownCap wr.drew z.size 0 5) ⟨rfl, grownCap_ge wr.drew z.size 0 5, .inr ⟨wr.drew.heap.size, rfl, by rw [Lib.bytesWorld_size]; omega, fun j hj => Lib.bytesWorld_cell wr.drew 5 z j hj⟩⟩)
      have BB := Lib.hid (show Below w.heap.size w (Lib.bytesWorld wr.drew 5 z) from hW.trans (bB.mono hW.size))
      have BR := Lib.hid hW
      have hiz : (i : Int) < (N : Int) := by omega
      have hin : (i : Int) < (n : Int) := by omega
      have hi0 : (0 : Int) ≤ (i : Int) := by omega
      have hs1 : IntKind.i64.wrap ((i : Int) + 1) = (i : Int) + 1 := by rw [IntKind.wrap_i64]; omega
      have hs2 : IntKind.i64.wrap (2 * ((i : Int) + 1)) = 2 * ((i : Int) + 1) := by rw [IntKind.wrap_i64]; omega
      clear hW c3 c4 hb hzi hsz bB K HA
      go_upto_region 8 with fail
      obtain ⟨e3, e4⟩ := kc.out wr BR.out
      obtain ⟨-, f4⟩ := kc.out _ BB.out
      go_region_with ((go_at_call 33; refine hput.out.mono ?_; rintro e w4 ⟨rfl, h4⟩))
      all_goals
        go_wp2_with fail
        go_roundg (gk - 1)
        case measure => omega
        case rel => exact ⟨i + 1, by first | rfl | (simp; done), by omega, h4⟩
    · obtain rfl : N = i := by omega
      clear hk hi
      obtain ⟨wo, hwo⟩ : ∃ wo : World, wo = wr := ⟨_, rfl⟩
      have K3 := Lib.hid (show StK acts w wo s N from by rw [hwo]; exact K.out)
      have HWO := Lib.hid hwo
      clear K hwo
      go_wp2_with fail
      refine (one22 _ _).mono ?_
      rintro e w2 ⟨rfl, h2⟩
      rw [← HWO.out] at h2
      obtain ⟨wB, hwB⟩ : ∃ x, x = w2.alloc (.cells #[.string ⟨#[107]⟩, .string ⟨#[107]⟩, .bool true, .bool true, .bool false, .bool false] 24) := ⟨_, rfl⟩
      have bB : Below wo.heap.size wo wB := by rw [hwB]; exact h2.out.alloc h2.out.size _
      have FB := Lib.hid (show Blk wB w2.heap.size 24 #[.string ⟨#[107]⟩, .string ⟨#[107]⟩, .bool true, .bool true, .bool false, .bool false] from by rw [hwB]; exact Blk.new w2 24 _)
      have KB := Lib.hid (K3.out.below bB)
      have HWB := Lib.hid hwB
      clear h2 bB hwB K3 HWO
      go_wp2_with fail
      rw [← HWB.out]
      go_loopg [7] (2 * N + 4) (fun kx s7 wx => ∃ a : Nat, s7 = .int .i64 a ∧ kx + a = 2 * N + 4 ∧ Hid (Below wB.heap.size wB wx))
      case atStart => exact ⟨0, rfl, by omega, Lib.hid (Below.refl _ _)⟩
      case round =>
        obtain ⟨a, rfl, hka, hx⟩ := hrel
        have HK := Lib.hid (KB.out.below hx.out)
        by_cases ha : a < 2 * N + 4
        · have hg := Lib.hid (stget HK.out HNa.out (by omega) a)
          have hai : (a : Int) < 2 * (N : Int) + 4 := by omega
          have ha0 : (0 : Int) ≤ (a : Int) := by omega
          obtain ⟨m, hm⟩ : ∃ m, m = min (a / 2) N := ⟨_, rfl⟩
          rw [← hm] at hg
          obtain ⟨isb, hisb⟩ : ∃ b, b = tIs acts m := ⟨_, rfl⟩
          rw [← hisb] at hg
          have HIS := Lib.hid hisb
          clear hisb
          have HMM := Lib.hid hm
          have hmN : m ≤ N := by omega
          clear hm
          go_wp2_with fail
          refine hg.out.mono ?_
          clear hg
          rintro e w3 ⟨A', k', c', rfl, hB, h3⟩
          have HX3 := Lib.hid (show Below wB.heap.size wB w3 from hx.out.trans (h3.out.mono hx.out.size))
          have HK3 := Lib.hid (KB.out.below HX3.out)
          clear h3 HK
          go_upto_region 15 with fail
          go_cut [10] from 53 to 57 (fun s10 wx => ∃ j : Int, s10 = .int .i64 j ∧ Hid (j = (m : Int) - 1) ∧ w3 = wx)
          case first =>
            have hj : (m : Int) - 1 = IntKind.i64.wrap ((m : Int) - 1) := by rw [IntKind.wrap_i64]; omega
            by_cases hc : a / 2 ≤ N
            · have hmm := Lib.hid (show m = a / 2 from by rw [HMM.out]; omega)
              have hcz : (a : Int) / 2 ≤ (N : Int) := by omega
              clear hj
              go_wp2_with fail
              go_meet
              case rel => exact ⟨_, rfl, Lib.hid (by rw [hmm.out]; omega), rfl⟩
            · have hmm := Lib.hid (show m = N from by rw [HMM.out]; omega)
              have hcz : ¬ (a : Int) / 2 ≤ (N : Int) := by omega
              clear hj
              go_wp2_with fail
              go_meet
              case rel => exact ⟨_, rfl, Lib.hid (by rw [hmm.out]), rfl⟩
          case rest =>
            obtain ⟨j, rfl, hj, rfl⟩ := hcut
            clear HMM
            go_step
            go_step
            go_cut [8] from 58 to 84 (fun _s8 wx => Hid (Below wB.heap.size wB wx))
            case first =>
              cases m with
              | zero =>
                obtain rfl : j = -1 := by have := hj.out; omega
                obtain rfl : false = isb := HIS.out.symm
                obtain rfl : 0 = k' := hB.out.len.symm
                clear hj HIS hB
                go_wp2_with fail
                go_meet
                case rel => exact HX3
              | succ k =>
                obtain rfl : (k : Int) = j := by have := hj.out; omega
                obtain ⟨⟨z, g⟩, hzk⟩ : ∃ x, acts[k]? = some x := ⟨_, List.getElem?_eq_getElem (by have := HNa.out; omega)⟩
                obtain ⟨b, off, rfl, hbl, c3, c4⟩ := HA.out.at_ k z g hzk
                have hW3 : Below w.heap.size w w3 := HK3.out.world
                have e3 : w3.cell? ⟨b, off + k * 5 + 3, none⟩ = some (.string z) := (hW3.cell (p := ⟨b, off + k * 5 + 3, none⟩) hbl).trans c3
                have e4 : w3.cell? ⟨b, off + k * 5 + 4, none⟩ = some (.bool g) := (hW3.cell (p := ⟨b, off + k * 5 + 4, none⟩) hbl).trans c4
                have hk0 : (0 : Int) ≤ (k : Int) := by omega
                have hk1 : ¬ (k : Int) < 0 := by omega
                have hk2 : (k : Int) < (n : Int) := by omega
                cases g with
                | true =>
                  have hi1 : false = isb := by rw [HIS.out]; simp [tIs, hzk]
                  have hl1 : 0 = k' := by
                    have := hB.out.len
                    have e : tTxt acts (k + 1) = ⟨#[]⟩ := by simp [tTxt, hzk]
                    rw [e] at this
                    exact this.symm
                  subst hi1 hl1
                  clear hj HIS hB hzk c3 c4 hW3 hbl e3
                  go_wp2_with fail
                  go_meet
                  case rel => exact HX3
                | false =>
                  have hi1 : true = isb := by rw [HIS.out]; simp [tIs, hzk]
                  have ht : tTxt acts (k + 1) = z := by simp [tTxt, hzk]
                  rw [ht] at hB
                  have hcv : ∀ q, (convert 53 9 (.slice A' k' c')).run Try.prog (w3.drewN q) = .ok (.string z) (w3.drewN q) := fun q => bytes_back0 (hB.out.below (below_drewNV w3 q))
                  have hcv1 : (convert 53 9 (.slice A' k' c')).run Try.prog w3.drew = .ok (.string z) w3.drew := bytes_back0 (hB.out.below (below_drewV w3))
                  have hcv0 := bytes_back0 hB.out
                  subst hi1
                  clear hj HIS hB hzk c3 c4 hW3 hbl ht
                  go_wp2_with fail
                  go_quiet (fail)
                  go_wp2_with fail
                  go_meet
                  case rel => exact Lib.hid (HX3.out.trans ((below_drewNV _ _).mono HX3.out.size))
            case rest =>
              clear HX3 HK3 hB
              have HKc := Lib.hid (KB.out.below hcut.out)
              have hq1 := Lib.hid (stchK HKc.out (by omega) a)
              have fc := Lib.hid (zbox2V FB.out hcut.out)
              obtain ⟨c0, c1, c2, c3, c4, c5⟩ : wc.cell? ⟨w2.heap.size, 0, none⟩ = some (.string ⟨#[107]⟩) ∧ wc.cell? ⟨w2.heap.size, 1, none⟩ = some (.string ⟨#[107]⟩) ∧ wc.cell? ⟨w2.heap.size, 2, none⟩ = some (.bool true) ∧ wc.cell? ⟨w2.heap.size, 3, none⟩ = some (.bool true) ∧ wc.cell? ⟨w2.heap.size, 4, none⟩ = some (.bool false) ∧ wc.cell? ⟨w2.heap.size, 5, none⟩ = some (.bool false) := ⟨fc.out.cell 0, fc.out.cell 1, fc.out.cell 2, fc.out.cell 3, fc.out.cell 4, fc.out.cell 5⟩
              clear fc
              by_cases h2 : a < 2 * N
              · have hai2 : (a : Int) < 2 * (N : Int) := by omega
                rw [decide_eq_true h2] at hq1
                go_wp2_with fail
                refine hq1.out.mono ?_
                clear hq1 c0 c1 c2 c3 c4 c5
                rintro e w4 ⟨rfl, h4⟩
                have H4 := Lib.hid (show Below wB.heap.size wB w4 from hcut.out.trans (h4.out.mono hcut.out.size))
                clear h4
                go_wp2_with fail
                refine (one22 _ _).mono ?_
                rintro e w5 ⟨rfl, h5⟩
                have H5 := Lib.hid (show Below wB.heap.size wB w5 from H4.out.trans (h5.out.mono H4.out.size))
                have hq2 := Lib.hid (stchJ (KB.out.below H5.out) (by omega) a)
                clear h5
                go_wp2_with fail
                refine hq2.out.mono ?_
                rintro e w6 ⟨rfl, h6⟩
                have H6 := Lib.hid (show Below wB.heap.size wB w6 from H5.out.trans (h6.out.mono H5.out.size))
                clear h6 hq2
                go_wp2_with fail
                go_roundg (gk - 1)
                case measure => omega
                case rel => exact ⟨a + 1, by first | rfl | (simp; done), by omega, H6⟩
              · have hai2 : ¬ (a : Int) < 2 * (N : Int) := by omega
                rw [decide_eq_false h2] at hq1
                go_wp2_with fail
                refine hq1.out.mono ?_
                clear hq1 c0 c1 c2 c3 c4 c5
                rintro e w4 ⟨rfl, h4⟩
                have H4 := Lib.hid (show Below wB.heap.size wB w4 from hcut.out.trans (h4.out.mono hcut.out.size))
                clear h4
                go_wp2_with fail
                refine (one22 _ _).mono ?_
                rintro e w5 ⟨rfl, h5⟩
                have H5 := Lib.hid (show Below wB.heap.size wB w5 from H4.out.trans (h5.out.mono H4.out.size))
                have hq2 := Lib.hid (stchJ (KB.out.below H5.out) (by omega) a)
                clear h5
                go_wp2_with fail
                refine hq2.out.mono ?_
                rintro e w6 ⟨rfl, h6⟩
                have H6 := Lib.hid (show Below wB.heap.size wB w6 from H5.out.trans (h6.out.mono H5.out.size))
                clear h6 hq2
                go_wp2_with fail
                go_roundg (gk - 1)
                case measure => omega
                case rel => exact ⟨a + 1, by first | rfl | (simp; done), by omega, H6⟩
        · have hai : ¬ (a : Int) < 2 * (N : Int) + 4 := by omega
          have hv := Lib.hid (stlen HK.out (by omega))
          go_wp2_with fail
          refine hv.out.mono ?_
          clear hv
          rintro e w3 ⟨rfl, h3⟩
          have H3 := Lib.hid (HK.out.below h3.out).world
          clear h3 HK
          go_wp2_with (go_at_call 37; refine (hsu.out _).mono ?_; rintro e w4 ⟨rfl, h4⟩)
          go_ret
          exact ⟨rfl, Lib.hid (H3.out.trans (h4.out.mono H3.out.size))⟩

end Go.Proofs.Ytcidmaeclonilaa
