/- The document's check of a row. -/
import Derived.Test.YtbcmmecilheicaaGreatDoorOf2
namespace Go.Proofs.YtbcmmecilheicaaGreatDoor
open Go Go.RowKit

/-- a row that fits columns -/
def RowFits (cols : List Col) (vals : List Val) : Prop := vals.length = cols.length ∧ ∀ (j : Nat) (v : Val) (c : Col), vals[j]? = some v → cols[j]? = some c → validV v ∧ (v.kind = 0 ∨ v.kind = c.kind)
def CheckPost (cols : List Col) (vals : List Val) (w : World) (e : Ending) (w' : World) : Prop := ∃ er : Int, e = .returned (.int .i64 er) ∧ Hid (er = 0 → RowFits cols vals) ∧ Hid (Below w.heap.size w w')
set_option maxRecDepth 100000 in
set_option maxHeartbeats 16000000 in
theorem check8 (w : World) (tn : ByteArray) (A : Option Addr) (n c : Nat) (cols : List Col) (hc : ColsAt w A n cols) (hn : n ≤ 1466015503701) (VA : Option Addr) (vn vc : Nat) (vals : List Val) (hv : ValsAt w VA vn vals) (ht : ∀ v ∈ vals, v.text.size ≤ TB) (hvn : vn ≤ 9223372036854775807) : Calls Tryz.prog 8 #[.agg #[.string tn, .slice A n c], .slice VA vn vc] w (CheckPost cols vals w) := by
  obtain ⟨w1, hw1⟩ : ∃ z, z = w.alloc (.cells #[.string tn, .slice A n c] 24) := ⟨_, rfl⟩
  have B1 := Lib.hid (show Below w.heap.size w w1 by rw [hw1]; exact below_alloc _ _)
  have Z1 := Lib.hid (show Blk w1 w.heap.size 24 #[.string tn, .slice A n c] by rw [hw1]; exact Blk.new w 24 _)
  have HC := Lib.hid (hc.below B1.out)
  have HV := Lib.hid (hv.below B1.out)
  have HT := Lib.hid ht
  have z1 := Z1.out.cell 1
  have hl := Z1.out.lt
  clear hc hv ht
  go_enter Tryz.func8, Tryz.ntmps8
  go_upto_region 1 with fail
  rw [← hw1]
  clear hw1
  by_cases hlen : vn = n
  · subst hlen
    have hle : ((vn : Int) != (vn : Int)) = false := by simp
    go_wp2_with fail
    clear z1 hl hle
    go_loopg [5] vn (fun kx s5 wr => ∃ i : Nat, s5 = .int .i64 i ∧ kx + i = vn ∧ Hid (Below w1.heap.size w1 wr) ∧ Hid (∀ (j : Nat) (v : Val) (c : Col), j < i → vals[j]? = some v → cols[j]? = some c → validV v ∧ (v.kind = 0 ∨ v.kind = c.kind)))
    case atStart => exact ⟨0, rfl, by omega, Lib.hid (Below.refl _ _), Lib.hid (fun j v c h => absurd h (Nat.not_lt_zero _))⟩
    case round =>
      obtain ⟨i, rfl, hki, HW, HO⟩ := hrel
      have hi9 : (i : Int) ≤ 1466015503701 := by omega
      have hi0 : (0 : Int) ≤ (i : Int) := by omega
      by_cases hi : i < vn
      · have hiz : (i : Int) < (vn : Int) := by omega
        obtain ⟨v, hv⟩ : ∃ v, vals[i]? = some v := ⟨_, List.getElem?_eq_getElem (by rw [HV.out.len]; exact hi)⟩
        obtain ⟨cl, hcl⟩ : ∃ v, cols[i]? = some v := ⟨_, List.getElem?_eq_getElem (by rw [HC.out.len]; exact hi)⟩
        obtain ⟨vb, vo, rfl, hvb, v0, v1, v2, v3⟩ := (HV.out.below HW.out).at_ i v hv
        obtain ⟨cb, co, rfl, hcb, c0, c1, c2, c3⟩ := (HC.out.below HW.out).at_ i cl hcl
        have zr := (Z1.out.below HW.out).cell 1
        have hlr := (Z1.out.below HW.out).lt
        have TX := Lib.hid (HT.out v (List.mem_of_getElem? hv))
        have HVI := Lib.hid (And.intro hv hcl)
        clear hv hcl
        obtain ⟨vk, vi, vt, vb1⟩ := v
        obtain ⟨cn, ck, cy, cu⟩ := cl
        simp only [] at v0 v1 v2 v3 c0 c1 c2 c3
        go_wp2_with fail
        obtain ⟨w2, hw2⟩ : ∃ x, x = wr.alloc (.cells #[.string cn, .int .i64 ck, .bool cy, .bool cu] 106) := ⟨_, rfl⟩
        have ZC := Lib.hid (show Blk w2 wr.heap.size 106 #[.string cn, .int .i64 ck, .bool cy, .bool cu] by rw [hw2]; exact Blk.new wr 106 _)
        have B2 := Lib.hid (show Below wr.heap.size wr w2 by rw [hw2]; exact below_alloc _ _)
        rw [← hw2]
        clear hw2 c0 c1 c2 c3 v1 v2 v3 zr hlr
        refine (valid36 w2 vk vi vt vb1 TX.out).mono ?_
        rintro e w3 ⟨er, rfl, hvd, hb3⟩
        have B3 := Lib.hid (bt hb3.out B2.out)
        have BW := Lib.hid (bt B3.out HW.out)
        have v0' := (B3.out.cell (p := ⟨vb, vo + i * 4, none⟩) hvb).trans v0
        have hvb' := Nat.lt_of_lt_of_le hvb B3.out.size
        have zq := ZC.out.below hb3.out
        have y1 := zq.cell 1
        have y2 := zq.cell 2
        have y3 := zq.cell 3
        have hl3 := zq.lt
        clear v0 zq hb3
        by_cases her : er = 0
        · subst her
          have VV := Lib.hid (hvd.out.2.2 rfl)
          clear hvd
          have NX := Lib.hid (fun (h : vk = 0 ∨ vk = ck) => show ∀ (j : Nat) (v : Val) (c : Col), j < i + 1 → vals[j]? = some v → cols[j]? = some c → validV v ∧ (v.kind = 0 ∨ v.kind = c.kind) from fun j v c hj hv hc => by
            rcases Nat.lt_or_ge j i with q | q
            · exact HO.out j v c q hv hc
            · obtain rfl : j = i := by omega
              obtain rfl := Option.some.inj (hv.symm.trans HVI.out.1)
              obtain rfl := Option.some.inj (hc.symm.trans HVI.out.2)
              exact ⟨VV.out, h⟩)
          by_cases hk : vk = 0
          · subst hk
            have N2 := Lib.hid (NX.out (.inl rfl))
            clear NX
            cases cy with
            | true =>
              go_wp2_with fail
              go_ret
              exact ⟨33, rfl, Lib.hid (fun h => by omega), Lib.hid (bt BW.out B1.out)⟩
            | false =>
              cases cu with
              | false =>
                go_wp2_with fail
                go_ret
                exact ⟨33, rfl, Lib.hid (fun h => by omega), Lib.hid (bt BW.out B1.out)⟩
              | true =>
                go_wp2_with fail
                go_quiet (fail)
                go_wp2_with fail
                go_roundg (gk - 1)
                case measure => omega
                case rel => exact ⟨i + 1, by first | rfl | (simp; done), by omega, Lib.hid (bt (below_drewN _ _) BW.out), N2⟩
          · have k1 : (vk == 0) = false := by simpa using hk
            have k2 : (vk != 0) = true := by simpa using hk
            by_cases hck : vk = ck
            · have N2 := Lib.hid (NX.out (.inr hck))
              have k3 : (vk != ck) = false := by simpa using hck
              have k4 : (vk == ck) = true := by simpa using hck
              clear NX hk hck
              go_wp2_with fail
              go_quiet (fail)
              go_wp2_with fail
              go_roundg (gk - 1)
              case measure => omega
              case rel => exact ⟨i + 1, by first | rfl | (simp; done), by omega, Lib.hid (bt (below_drewN _ _) BW.out), N2⟩
            · have k3 : (vk != ck) = true := by simpa using hck
              have k4 : (vk == ck) = false := by simpa using hck
              clear NX hk hck
              go_wp2_with fail
              go_quiet (fail)
              go_wp2_with fail
              go_ret
              exact ⟨7, rfl, Lib.hid (fun h => by omega), Lib.hid (bt (below_drewN _ _) (bt BW.out B1.out))⟩
        · have r1 : (er != 0) = true := by simpa using her
          have r2 : (er == 0) = false := by simpa using her
          have HER := Lib.hid her
          clear her hvd
          go_wp2_with fail
          go_ret
          exact ⟨er, rfl, Lib.hid (fun h => absurd h HER.out), Lib.hid (bt BW.out B1.out)⟩
      · have hiz : ¬ (i : Int) < (vn : Int) := by omega
        have FIN := Lib.hid (show RowFits cols vals from ⟨by rw [HV.out.len, HC.out.len], fun j v c hj hc => HO.out j v c (by have := (List.getElem?_eq_some_iff.1 hj).1; rw [HV.out.len] at this; omega) hj hc⟩)
        have BB := Lib.hid (bt HW.out B1.out)
        clear HO
        go_wp2_with fail
        go_ret
        exact ⟨0, rfl, Lib.hid (fun _ => FIN.out), BB⟩
  · have hle : ((vn : Int) != (n : Int)) = true := by simp; omega
    go_wp2_with fail
    go_ret
    exact ⟨1, rfl, Lib.hid (fun h => by omega), B1⟩

end Go.Proofs.YtbcmmecilheicaaGreatDoor
