/- exec.filter: the rows of which conditions are true. exec's runner.parts: all rows as one part. law 23's plain. What filled leaves of a sum: a literal. -/
import Derived.Test.YtbcmmecilheicaaFilA

/- exec.filter: the rows of which conditions are true. -/
namespace Go.Proofs.Ytbcmmecilheicaa
open Go Go.RowKit

noncomputable def keepP (lb : List ByteArray) (wh : List Ex) : List (Int × List Val) → List (Int × List Val) × Option Int
  | [] => ([], none)
  | r :: rs => match trueP ⟨r.1, r.2, lb⟩ wh with
    | (_, some er) => ([], some er)
    | (q, none) => match keepP lb wh rs with
      | (_, some er) => ([], some er)
      | (l, none) => (if q = true then r :: l else l, none)
def SofarK (lb : List ByteArray) (wh : List Ex) (rs : List (Int × List Val)) (i : Nat) (vs : List (Int × List Val)) : Prop :=
  keepP lb wh rs = match keepP lb wh (rs.drop i) with
    | (_, some er) => ([], some er)
    | (l, none) => (vs ++ l, none)
theorem keepP_err (lb : List ByteArray) (wh : List Ex) : ∀ (rs : List (Int × List Val)) (l : List (Int × List Val)) (er : Int), keepP lb wh rs = (l, some er) → l = []
  | [], l, er, h => by rw [keepP] at h; cases h
  | r :: rs, l, er, h => by
    rw [keepP] at h
    rcases hx : trueP ⟨r.1, r.2, lb⟩ wh with ⟨v, e1⟩
    rw [hx] at h
    cases e1 with
    | some e1 => injection h with h1 h2; exact h1.symm
    | none =>
      rcases hl : keepP lb wh rs with ⟨l2, e2⟩
      rw [hl] at h
      cases e2 with
      | some e2 => injection h with h1 h2; exact h1.symm
      | none => injection h with h1 h2; cases h2
theorem SofarK.zero (lb : List ByteArray) (wh : List Ex) (rs : List (Int × List Val)) : SofarK lb wh rs 0 [] := by
  unfold SofarK
  rw [List.drop_zero]
  rcases h : keepP lb wh rs with ⟨l, er⟩
  cases er with
  | none => rfl
  | some er => rw [keepP_err lb wh rs l er h]
theorem SofarK.err {lb : List ByteArray} {wh : List Ex} {rs : List (Int × List Val)} {i : Nat} {vs : List (Int × List Val)} (h : SofarK lb wh rs i vs) {r : Int × List Val} (hr : rs[i]? = some r) {q : Bool} {er : Int} (he : trueP ⟨r.1, r.2, lb⟩ wh = (q, some er)) : keepP lb wh rs = ([], some er) := by
  have hd : rs.drop i = r :: rs.drop (i + 1) := by
    have hlt := (List.getElem?_eq_some_iff.1 hr).1
    rw [List.drop_eq_getElem_cons hlt, (List.getElem?_eq_some_iff.1 hr).2]
  unfold SofarK at h
  rw [h, hd, keepP, he]
theorem SofarK.ok {lb : List ByteArray} {wh : List Ex} {rs : List (Int × List Val)} {i : Nat} {vs : List (Int × List Val)} (h : SofarK lb wh rs i vs) {r : Int × List Val} (hr : rs[i]? = some r) {q : Bool} (he : trueP ⟨r.1, r.2, lb⟩ wh = (q, none)) : SofarK lb wh rs (i + 1) (if q = true then vs ++ [r] else vs) := by
  have hd : rs.drop i = r :: rs.drop (i + 1) := by
    have hlt := (List.getElem?_eq_some_iff.1 hr).1
    rw [List.drop_eq_getElem_cons hlt, (List.getElem?_eq_some_iff.1 hr).2]
  unfold SofarK at h ⊢
  rw [h, hd, keepP, he]
  rcases hl : keepP lb wh (rs.drop (i + 1)) with ⟨l, er⟩
  cases q <;> cases er <;> simp
theorem SofarK.end_ {lb : List ByteArray} {wh : List Ex} {rs : List (Int × List Val)} {vs : List (Int × List Val)} (h : SofarK lb wh rs rs.length vs) : keepP lb wh rs = (vs, none) := by
  unfold SofarK at h
  rw [h, List.drop_length, keepP]
  simp

/-- the rows kept so far -/
structure KpI (w wr : World) (m : Nat) (Ao : Option Addr) (co : Nat) (gs : List (Int × Option Addr × Nat × Nat)) (vs : List (Int × List Val)) : Prop where
  old : Below w.heap.size w wr
  row : wr.ownsRow w.heap.size 29 2 (.slice Ao m co) m (rcells gs)
  len : gs.length = m
  vlen : vs.length = m
  val : ∀ (j : Nat) (e : Int × Option Addr × Nat × Nat) (r : Int × List Val), gs[j]? = some e → vs[j]? = some r → e.1 = r.1 ∧ e.2.2.1 * 40 ≤ 140737488355328 ∧ ValsAt w e.2.1 e.2.2.1 r.2
theorem KpI.zero (w : World) : KpI w w 0 none 0 [] [] := ⟨Below.refl _ _, World.ownsRow_nil _ _ _ _, rfl, rfl, fun j e r h => by simp at h⟩
theorem KpI.grow {w wr w2 : World} {m : Nat} {Ao : Option Addr} {co : Nat} {gs : List (Int × Option Addr × Nat × Nat)} {vs : List (Int × List Val)} (I : KpI w wr m Ao co gs vs) (h2 : Below wr.heap.size wr w2) : KpI w w2 m Ao co gs vs :=
  ⟨bt h2 I.old, own_below I.row h2, I.len, I.vlen, I.val⟩
theorem KpI.step {w wr : World} {m : Nat} {Ao : Option Addr} {co : Nat} {gs : List (Int × Option Addr × Nat × Nat)} {vs : List (Int × List Val)} (I : KpI w wr m Ao co gs vs) (hm : m + 1 ≤ 1000001) (r : Int × List Val) {VA : Option Addr} {n c : Nat} (hn : n * 40 ≤ 140737488355328) (hv : ValsAt w VA n r.2) (s : Nat) (z : Blk wr s 29 #[.int .i64 r.1, .slice VA n c]) :
    ∃ An cn w3, (Builtin.append_ #[44, 44] 44 #[.slice Ao m co, .slice (some ⟨s, 0, none⟩) 1 1]).run Try.prog wr = .ok (.slice An (m + 1) cn) w3 ∧ KpI w w3 (m + 1) An cn (gs ++ [(r.1, VA, n, c)]) (vs ++ [r]) := by
  have hs0 := I.old.size
  obtain ⟨An, cn, w3, hrun, hown, hg, hnew⟩ := app_some tRows 44 I.row hs0 ⟨s, 0, none⟩ 1 1 (by omega) (rcells [(r.1, VA, n, c)]) (rcells_len _) (fun j u hj => by
    rw [add_lit0, z.cell j]
    simpa [rcells] using hj) rcells_one (by unfold maxLen; omega) (by omega)
  have own_lt : ∀ k, (Value.slice Ao m co).ownBlock = some k → w.heap.size ≤ k ∧ k < wr.heap.size := I.row.lt
  refine ⟨An, cn, w3, hrun, ⟨⟨hg.os.trans I.old.os, hg.tape.trans I.old.tape, hg.output.trans I.old.output, Nat.le_trans hs0 hg.size, fun k hk => ?_⟩, by rw [rcells_append]; exact hown, by simp [I.len], by simp [I.vlen], fun j e q hj hq => ?_⟩⟩
  · rw [hg.block k (by omega) (fun e => by have := (own_lt k e.symm).1; omega), I.old.block k hk]
  · by_cases c1 : j < m
    · rw [List.getElem?_append_left (by rw [I.len]; exact c1)] at hj
      rw [List.getElem?_append_left (by rw [I.vlen]; exact c1)] at hq
      exact I.val j e q hj hq
    · have hj' : j = m := by
        have := (List.getElem?_eq_some_iff.1 hj).1
        rw [List.length_append, I.len] at this
        simp at this; omega
      subst hj'
      rw [List.getElem?_append_right (by rw [I.len]; exact Nat.le_refl _), I.len] at hj
      rw [List.getElem?_append_right (by rw [I.vlen]; exact Nat.le_refl _), I.vlen] at hq
      obtain rfl : (r.1, VA, n, c) = e := by simpa using hj
      obtain rfl : r = q := by simpa using hq
      exact ⟨rfl, hn, hv⟩
theorem KpI.rows {w wr : World} {m : Nat} {Ao : Option Addr} {co : Nat} {gs : List (Int × Option Addr × Nat × Nat)} {vs : List (Int × List Val)} (I : KpI w wr m Ao co gs vs) : RowsAt wr Ao m vs :=
  ⟨I.vlen, fun j r hj => by
    obtain ⟨e, he⟩ : ∃ e, gs[j]? = some e := ⟨_, List.getElem?_eq_getElem (by have := (List.getElem?_eq_some_iff.1 hj).1; rw [I.len, ← I.vlen]; exact this)⟩
    obtain ⟨e1, e2, e3⟩ := I.val j e r he hj
    obtain ⟨k0, k1⟩ := rcells_at he
    obtain ⟨g, eg, hg, -, c0, -⟩ := own_at I.row k0
    obtain ⟨g', eg', -, -, c1, -⟩ := own_at I.row k1
    rw [eg] at eg'
    injection eg' with eg'; injection eg' with eg'; subst eg'
    refine ⟨g, 0, e.2.1, e.2.2.1, e.2.2.2, eg, hg, ?_, ?_, e3.below I.old, e2⟩
    · rw [Nat.zero_add, ← e1]; exact c0
    · rw [Nat.zero_add]; exact c1⟩

/-- what filter leaves -/
def KeepPost (lb : List ByteArray) (wh : List Ex) (rs : List (Int × List Val)) (w : World) (e : Ending) (w' : World) : Prop := ∃ (A' : Option Addr) (k c' : Nat), e = .returned (.tuple #[.slice A' k c', errV (keepP lb wh rs).2]) ∧ k ≤ rs.length ∧ k ≤ c' ∧ Hid (RowsAt w' A' k (keepP lb wh rs).1) ∧ Hid (Below w.heap.size w w')
theorem RowsAt.nil (W : World) (A : Option Addr) : RowsAt W A 0 [] := ⟨rfl, fun j r h => by simp at h⟩

set_option maxRecDepth 100000 in
set_option maxHeartbeats 8000000 in
theorem filter28 (w : World) (A : Option Addr) (n c : Nat) (wh : List Ex) (hwh : ExsAt w A n wh) (hn : n ≤ 1466015503701) (RA : Option Addr) (rn rc : Nat) (rs : List (Int × List Val)) (hr : RowsAt w RA rn rs) (hrn : rn ≤ 1000000) (htx : RowsTx rs) (lb : List ByteArray) (LA : Option Addr) (ln lc : Nat) (hlb : StrsAt w LA ln lb) (hlt : ∀ z ∈ lb, z.size ≤ TB) :
    Calls Try.prog 28 #[.slice A n c, .slice RA rn rc, .slice LA ln lc] w (KeepPost lb wh rs w) := by
  have HW := Lib.hid hwh
  have HR := Lib.hid hr
  have HT := Lib.hid htx
  have HLB := Lib.hid hlb
  have HLT := Lib.hid hlt
  have HN := Lib.hid hn
  clear hwh hr htx hlb hlt hn
  go_enter Try.func28, Try.ntmps28
  go_wp2_with fail
  go_loopg [8, 15] rn (fun kx s8 s15 wr => ∃ (i m : Nat) (Ao : Option Addr) (co : Nat), s8 = .slice Ao m co ∧ s15 = .int .i64 i ∧ kx + i = rn ∧ m ≤ i ∧ Hid (∃ gs vs, KpI w wr m Ao co gs vs ∧ SofarK lb wh rs i vs))
  case atStart => exact ⟨0, 0, none, 0, rfl, rfl, rfl, Nat.le_refl _, Lib.hid ⟨[], [], KpI.zero w, SofarK.zero lb wh rs⟩⟩
  case round =>
    obtain ⟨i, m, Ao, co, rfl, rfl, hk, hm, I⟩ := hrel
    by_cases hi : i < rn
    · obtain ⟨gs, vs, I1, I2⟩ := I.out
      obtain ⟨r, hr⟩ : ∃ r, rs[i]? = some r := ⟨_, List.getElem?_eq_getElem (by rw [HR.out.len]; exact hi)⟩
      obtain ⟨b, off, VA, vn, vc, rfl, hb0, p0, p1, hv, hvn⟩ := HR.out.at_ i r hr
      have q0 := (I1.old.cell (p := ⟨b, off + i * 2, none⟩) hb0).trans p0
      have q1 := (I1.old.cell (p := ⟨b, off + i * 2 + 1, none⟩) hb0).trans p1
      have hb := Nat.lt_of_lt_of_le hb0 I1.old.size
      have hiz : (i : Int) < (rn : Int) := by omega
      have hi0 : (0 : Int) ≤ (i : Int) := by omega
      have hi9 : (i : Int) < 1000001 := by omega
      have bx : Below wr.heap.size wr (wr.alloc (.cells #[.int .i64 r.1, .slice VA vn vc] 29)) := below_alloc _ _
      have bw : Below w.heap.size w (wr.alloc (.cells #[.int .i64 r.1, .slice VA vn vc] 29)) := bt bx I1.old
      have call0 := true44 (wr.alloc (.cells #[.int .i64 r.1, .slice VA vn vc] 29)) A n c wh (HW.out.below bw) HN.out ⟨r.1, r.2, lb⟩ VA vn vc LA ln lc ⟨hv.below bw, HLB.out.below bw, fun v hv => HT.out r (List.mem_of_getElem? hr) v hv, HLT.out⟩
      obtain ⟨⟨q, re⟩, hre⟩ : ∃ z, z = trueP ⟨r.1, r.2, lb⟩ wh := ⟨_, rfl⟩
      rw [← hre] at call0
      have CC := Lib.hid call0
      have HRE := Lib.hid hre.symm
      have RX := Lib.hid hr
      have II := Lib.hid I1
      have IS := Lib.hid I2
      have HV := Lib.hid hv
      have ZX := Lib.hid (Blk.new wr 29 #[.int .i64 r.1, .slice VA vn vc])
      clear hr bx bw call0 hre I hv I1 I2 p0 p1
      go_wp2_with fail
      refine CC.out.mono ?_
      clear CC q0 q1
      rintro e w2 ⟨rfl, h2⟩
      have H2 := Lib.hid (show Below wr.heap.size wr w2 from h2.out.from1)
      have Z2 := Lib.hid (ZX.out.below h2.out)
      clear h2
      cases re with
      | some er =>
        simp only [errV]
        have EE := Lib.hid (IS.out.err RX.out HRE.out)
        have BB := Lib.hid (bt H2.out II.out.old)
        go_wp2_with fail
        go_ret2
        exact ⟨none, 0, 0, by rw [EE.out]; rfl, Nat.zero_le _, Nat.le_refl _, Lib.hid (by rw [EE.out]; exact RowsAt.nil _ _), BB⟩
      | none =>
        simp only [errV]
        cases q with
        | false =>
          have NX := Lib.hid (show ∃ gs vs, KpI w w2 m Ao co gs vs ∧ SofarK lb wh rs (i + 1) vs from ⟨gs, vs, II.out.grow H2.out, by have h := IS.out.ok RX.out HRE.out; simpa using h⟩)
          go_wp2_with fail
          go_roundg (gk - 1)
          case measure => omega
          case rel => exact ⟨i + 1, m, Ao, co, rfl, by first | rfl | (simp; done), by omega, by omega, NX⟩
        | true =>
          have SS := Lib.hid (show SofarK lb wh rs (i + 1) (vs ++ [r]) by have h := IS.out.ok RX.out HRE.out; simpa using h)
          have a0 := Z2.out.cell 0
          have a1 := Z2.out.cell 1
          have hzl := Z2.out.lt
          obtain ⟨An, cn, w3, hrun, hI3⟩ := (II.out.grow (bt (below_alloc w2 (.cells #[.int .i64 r.1, .slice VA vn vc] 29)) H2.out)).step (by omega) r hvn HV.out w2.heap.size (Blk.new w2 29 #[.int .i64 r.1, .slice VA vn vc])
          have HRUN := Lib.hid hrun
          have NX := Lib.hid (show ∃ gs vs, KpI w w3 (m + 1) An cn gs vs ∧ SofarK lb wh rs (i + 1) vs from ⟨_, _, hI3, SS.out⟩)
          clear hrun hI3
          go_wp2_with (at_builtin; refine wpList_append_runI _ rfl _ _ 44 44 rfl (.slice Ao m co) (.slice (some ⟨w2.heap.size, 0, none⟩) 1 1) rfl rfl HRUN.out ?_)
          go_roundg (gk - 1)
          case measure => omega
          case rel => exact ⟨i + 1, m + 1, An, cn, by first | rfl | (simp; done), by first | rfl | (simp; done), by omega, by omega, NX⟩
    · obtain rfl : rn = i := by omega
      have hiz : ¬ (rn : Int) < (rn : Int) := by omega
      obtain ⟨gs, vs, I1, I2⟩ := I.out
      have EE := Lib.hid (show keepP lb wh rs = (vs, none) by
        have hl := HR.out.len
        rw [← hl] at I2
        exact I2.end_)
      have hcap := (own_cap I1.row).2
      have VV := Lib.hid I1.rows
      have BB := Lib.hid I1.old
      have HRL := HR.out.len
      clear I I1 I2
      go_wp2_with fail
      go_ret2
      exact ⟨_, m, _, by rw [EE.out]; rfl, by omega, hcap, Lib.hid (by rw [EE.out]; exact VV.out), BB⟩

end Go.Proofs.Ytbcmmecilheicaa

/- exec's runner.parts: all rows as one part. -/
namespace Go.Proofs.Ytbcmmecilheicaa
open Go Go.RowKit

/-- one part comes back, of one's own -/
def PartOne (RA : Option Addr) (rn rc : Nat) (w : World) (e : Ending) (w' : World) : Prop := ∃ (A : Option Addr) (c : Nat), e = .returned (.slice A 1 c) ∧ Hid (w'.ownsRow w.heap.size 85 3 (.slice A 1 c) 1 [.slice RA rn rc, .slice none 0 0, .slice none 0 0]) ∧ Hid (Below w.heap.size w w')

set_option maxRecDepth 100000 in
set_option maxHeartbeats 8000000 in
theorem parts29a (w : World) (tb : ByteArray) (T1 : Option Addr) (t1 u1 : Nat) (T2 : Option Addr) (t2 u2 : Nat) (T3 : Option Addr) (t3 u3 : Nat) (T4 : Option Addr) (u4 : Nat) (T5 : Option Addr) (t5 u5 : Nat) (lim : Int) (RA : Option Addr) (rn rc : Nat) (LA : Option Addr) (ln lc : Nat) :
    Calls Try.prog 29 #[.agg #[.string tb, .slice T1 t1 u1, .slice T2 t2 u2, .slice T3 t3 u3, .slice T4 0 u4, .slice T5 t5 u5, .int .i64 lim, .bool true, .slice RA rn rc, .slice LA ln lc]] w (PartOne RA rn rc w) := by
  obtain ⟨w1, hw1⟩ : ∃ z, z = w.alloc (.cells #[.string tb, .slice T1 t1 u1, .slice T2 t2 u2, .slice T3 t3 u3, .slice T4 0 u4, .slice T5 t5 u5, .int .i64 lim, .bool true, .slice RA rn rc, .slice LA ln lc] 79) := ⟨_, rfl⟩
  have Z1 := Lib.hid (show Blk w1 w.heap.size 79 #[.string tb, .slice T1 t1 u1, .slice T2 t2 u2, .slice T3 t3 u3, .slice T4 0 u4, .slice T5 t5 u5, .int .i64 lim, .bool true, .slice RA rn rc, .slice LA ln lc] by rw [hw1]; exact Blk.new w 79 _)
  have B1 := Lib.hid (show Below w.heap.size w w1 by rw [hw1]; exact below_alloc _ _)
  have bz : Below w1.heap.size w1 (w1.alloc (.cells #[.slice RA rn rc, .slice none 0 0, .slice none 0 0] 85)) := below_alloc _ _
  obtain ⟨An, cn, w3, hrun, hown, hg, -⟩ := app_some tParts 80 (W := w1.alloc (.cells #[.slice RA rn rc, .slice none 0 0, .slice none 0 0] 85)) (B := w.heap.size) (Ao := none) (n := 0) (co := 0) (xs := []) (World.ownsRow_nil _ _ _ _) (Nat.le_trans B1.out.size bz.size) ⟨w1.heap.size, 0, none⟩ 1 1 (by omega) [.slice RA rn rc, .slice none 0 0, .slice none 0 0] rfl (fun j u hj => by
    rw [add_lit0, (Blk.new w1 85 _).cell j]
    simpa using hj) (fun u hu => by
      simp only [List.mem_cons, List.not_mem_nil, or_false] at hu
      rcases hu with rfl | rfl | rfl <;> rfl) (by unfold maxLen; omega) (by omega)
  simp only [Nat.zero_add, List.nil_append] at hrun hown
  have HRUN := Lib.hid hrun
  have HOWN := Lib.hid hown
  have BW := Lib.hid (show Below w.heap.size w w3 from bt ⟨hg.os, hg.tape, hg.output, hg.size, fun k hk => hg.block k hk (by simp [Value.ownBlock])⟩ (bt bz B1.out))
  have z4 := Z1.out.cell 4
  have z7 := Z1.out.cell 7
  have z8 := Z1.out.cell 8
  have hs1 := Z1.out.lt
  clear hrun hown hg bz
  go_enter Try.func29, Try.ntmps29
  go_upto_region 13 with fail
  rw [← hw1]
  clear hw1
  go_wp2_with (at_builtin; refine wpList_append_runI _ rfl _ _ 80 80 rfl (.slice none 0 0) (.slice (some ⟨w1.heap.size, 0, none⟩) 1 1) rfl rfl HRUN.out ?_)
  go_ret
  exact ⟨An, cn, rfl, HOWN, BW⟩

end Go.Proofs.Ytbcmmecilheicaa

/- law 23's plain. -/
namespace Go.Proofs.Ytbcmmecilheicaa
open Go Go.RowKit

def plainRows : List (Int × List Val) := [(0, [⟨1, 1, ⟨#[]⟩, false⟩]), (0, [⟨1, 2, ⟨#[]⟩, false⟩])]
def PlainPost (w : World) (e : Ending) (w' : World) : Prop := ∃ (A : Option Addr) (c : Nat), e = .returned (.slice A 2 c) ∧ Hid (RowsAt w' A 2 plainRows) ∧ Hid (Below w.heap.size w w')
set_option maxHeartbeats 4000000 in
theorem plain20 (w : World) : Calls Try.prog 20 #[] w (PlainPost w) := by
  go_enter Try.func20, Try.ntmps20
  go_wp2_with fail
  go_ret
  refine ⟨_, _, rfl, Lib.hid ⟨rfl, fun j r hj => ?_⟩, Lib.hid (by go_grown)⟩
  have z0 : Blk (((w.alloc (.cells #[.int .i64 1, .int .i64 1, .string ⟨#[]⟩, .bool false] 23)).alloc (.cells #[.int .i64 1, .int .i64 2, .string ⟨#[]⟩, .bool false] 23)).alloc (.cells #[.int .i64 0, .slice (some ⟨w.heap.size, 0, none⟩) 1 1, .int .i64 0, .slice (some ⟨w.heap.size + 1, 0, none⟩) 1 1] 29)) w.heap.size 23 #[.int .i64 1, .int .i64 1, .string ⟨#[]⟩, .bool false] := ((Blk.new w 23 _).alloc _).alloc _
  have z1 : Blk (((w.alloc (.cells #[.int .i64 1, .int .i64 1, .string ⟨#[]⟩, .bool false] 23)).alloc (.cells #[.int .i64 1, .int .i64 2, .string ⟨#[]⟩, .bool false] 23)).alloc (.cells #[.int .i64 0, .slice (some ⟨w.heap.size, 0, none⟩) 1 1, .int .i64 0, .slice (some ⟨w.heap.size + 1, 0, none⟩) 1 1] 29)) (w.heap.size + 1) 23 #[.int .i64 1, .int .i64 2, .string ⟨#[]⟩, .bool false] := (blk_new' (w := w.alloc _) rfl (by simp)).alloc _
  have z2 : Blk (((w.alloc (.cells #[.int .i64 1, .int .i64 1, .string ⟨#[]⟩, .bool false] 23)).alloc (.cells #[.int .i64 1, .int .i64 2, .string ⟨#[]⟩, .bool false] 23)).alloc (.cells #[.int .i64 0, .slice (some ⟨w.heap.size, 0, none⟩) 1 1, .int .i64 0, .slice (some ⟨w.heap.size + 1, 0, none⟩) 1 1] 29)) (w.heap.size + 1 + 1) 29 #[.int .i64 0, .slice (some ⟨w.heap.size, 0, none⟩) 1 1, .int .i64 0, .slice (some ⟨w.heap.size + 1, 0, none⟩) 1 1] := blk_new' (w := (w.alloc _).alloc _) rfl (by simp)
  match j, hj with
  | 0, hj =>
    obtain rfl : _ = r := Option.some.inj hj
    exact ⟨_, _, _, _, _, rfl, z2.lt, z2.cell 0, z2.cell 1, ValsAt.one (v := ⟨1, 1, ⟨#[]⟩, false⟩) z0, by omega⟩
  | 1, hj =>
    obtain rfl : _ = r := Option.some.inj hj
    exact ⟨_, _, _, _, _, rfl, z2.lt, z2.cell 2, z2.cell 3, ValsAt.one (v := ⟨1, 2, ⟨#[]⟩, false⟩) z1, by omega⟩
  | j + 2, hj => simp [plainRows] at hj
theorem plain_tx : RowsTx plainRows := fun r hr v hv => by
  simp only [plainRows, List.mem_cons, List.not_mem_nil, or_false] at hr
  have e : ByteArray.size ⟨#[]⟩ ≤ TB := by unfold TB; decide
  rcases hr with rfl | rfl <;> (simp only [List.mem_cons, List.not_mem_nil, or_false] at hv; subst hv; exact e)

end Go.Proofs.Ytbcmmecilheicaa

/- What filled leaves of a sum: a literal. -/
namespace Go.Proofs.Ytbcmmecilheicaa
open Go Go.RowKit

theorem argsP_size {W : World} {x : Ex} {A : Option Addr} {n c : Nat} (h : ExIs W x A n c) (lb : List ByteArray) (hl : ∀ z ∈ lb, z.size ≤ TB) : ∀ (rs : List (Int × List Val)), RowsTx rs → ∀ v ∈ (argsP lb x rs).1, v.text.size ≤ TB
  | [], _, v, hv => by rw [argsP] at hv; simp at hv
  | r :: rs, ht, v, hv => by
    have hs := h.size ⟨r.1, r.2, lb⟩ (ht r List.mem_cons_self) hl
    have ih := argsP_size h lb hl rs (fun q hq => ht q (List.mem_cons_of_mem _ hq))
    rw [argsP] at hv
    rcases hx : evalP ⟨r.1, r.2, lb⟩ x with ⟨u, e1⟩
    rw [hx] at hv hs
    cases e1 with
    | some e1 => simp at hv
    | none =>
      rcases hq : argsP lb x rs with ⟨l2, e2⟩
      rw [hq] at hv ih
      cases e2 with
      | some e2 => simp at hv
      | none =>
        by_cases hk : u.kind = 0
        · simp [hk] at hv
          exact ih v hv
        · simp [hk] at hv
          rcases hv with rfl | hv
          · exact hs
          · exact ih v hv
theorem sumL_size : ∀ (l : List Val) (s : Val), s.text.size ≤ TB → (sumL s l).1.text.size ≤ TB
  | [], s, h => by rw [sumL]; exact h
  | v :: l, s, h => by
    rw [sumL]
    have hs := reckon_size 43 s v
    rcases hr : reckonP 43 s v with ⟨u, e⟩
    rw [hr] at hs
    cases e with
    | some e => exact Nat.zero_le _
    | none => exact sumL_size l u hs
theorem sumP_size {W : World} {x : Ex} {A : Option Addr} {n c : Nat} (h : ExIs W x A n c) (lb : List ByteArray) (hl : ∀ z ∈ lb, z.size ≤ TB) (rs : List (Int × List Val)) (ht : RowsTx rs) : (sumP lb x rs).1.text.size ≤ TB := by
  have hs := argsP_size h lb hl rs ht
  unfold sumP
  rcases hq : argsP lb x rs with ⟨l, e⟩
  rw [hq] at hs
  cases e with
  | some e => exact Nat.zero_le _
  | none =>
    cases l with
    | nil => exact Nat.zero_le _
    | cons v l => exact sumL_size l v (hs v List.mem_cons_self)
/-- a value, as a literal -/
def litEx (kind : Int) (v : Val) : Ex := .mk ⟨#[108, 105, 116]⟩ kind 0 v []
theorem lit_in (W : World) (S : Nat → Prop) (kind : Int) (v : Val) (h : v.text.size ≤ TB) : ExIn W S (litEx kind v) none 0 0 :=
  .mk _ _ _ _ [] none 0 0 rfl (Nat.zero_le _) h 0 0 (fun h => absurd h (Nat.lt_irrefl _)) (fun _ => none) (fun _ => 0) (fun _ => 0) (fun j e h => by simp at h) (fun j e h => by simp at h)
theorem lit_eval (E : Env) (kind : Int) (v : Val) : evalP E (litEx kind v) = (v, none) := by
  unfold litEx
  rw [evalP_mk, evalL_nil, evo_lit]

theorem sum_in : isIn ⟨#[115, 117, 109]⟩ aggs = true := List.any_eq_true.2 ⟨⟨#[115, 117, 109]⟩, by unfold aggs; simp, by simp⟩
/-- what filled leaves of a sum -/
theorem fill_sum (w : World) (RA : Option Addr) (rn rc : Nat) (rs : List (Int × List Val)) (hr : RowsAt w RA rn rs) (hn : rn ≤ 1000000) (htx : RowsTx rs) (i1 : Option Addr) (n1 c1 : Nat) (i2 : Option Addr) (n2 c2 : Nat) (kind col : Int) (v : Val) (b off n c : Nat) (hb : b < w.heap.size) (hn0 : (0 : Int) < n)
    (y : Ex) (Ay : Option Addr) (ny cy : Nat) (hy : ExC w b off y Ay ny cy) (hyi : ExIs w y Ay ny cy) (lb : List ByteArray) (LA : Option Addr) (ln lc : Nat) (hlb : StrsAt w LA ln lb) (hlt : ∀ z ∈ lb, z.size ≤ TB) (lo : Nat) :
    Calls Try.prog 65 #[.agg #[.slice RA rn rc, .slice i1 n1 c1, .slice i2 n2 c2], .agg #[.string ⟨#[115, 117, 109]⟩, .int .i64 kind, .int .i64 col, .int .i64 v.kind, .int .i64 v.int, .string v.text, .bool v.bool, .slice (some ⟨b, off, none⟩) n c], .slice LA ln lc] w
      (FillPost lo (litEx kind (sumP lb y rs).1) (sumP lb y rs).2 w) :=
  (filled65a w RA rn rc i1 n1 c1 i2 n2 c2 ⟨#[115, 117, 109]⟩ kind col v (some ⟨b, off, none⟩) n c sum_in LA ln lc (sumP lb y rs).1 (sumP lb y rs).2 (fun W h => sum82 W RA rn rc rs (hr.below h) hn htx i1 n1 c1 i2 n2 c2 kind col v b off n c (Nat.lt_of_lt_of_le hb h.size) hn0 y Ay ny cy (hy.below hb h) (hyi.bel h) lb LA ln lc (hlb.below h) hlt)).mono fun _ _ ⟨he, h2⟩ => ⟨none, 0, 0, he, Lib.hid (fun _ => lit_in _ _ _ _ (sumP_size hyi lb hlt rs htx)), h2⟩

end Go.Proofs.Ytbcmmecilheicaa
