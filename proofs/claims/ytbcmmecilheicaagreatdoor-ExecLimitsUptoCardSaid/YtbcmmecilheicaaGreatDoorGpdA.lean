/- The document's where: a statement's condition. A row of the document's expressions, of one's own: what appends leave. The document's grouped: some truth comes back. -/
import Derived.Test.YtbcmmecilheicaaGreatDoorTyB
import Derived.Test.YtbcmmecilheicaaGreatDoorStA
import Derived.Test.YtbcmmecilheicaaGreatDoorTruA
import Derived.Deep.RegionLaw
import Derived.Test.YtbcmmecilheicaaGreatDoorQuA

/- The document's where: a statement's condition. -/
namespace Go.Proofs.YtbcmmecilheicaaGreatDoor
open Go Go.RowKit

/-- expressions, as they are read, in blocks of a kind -/
structure ExsIn (W : World) (S : Nat → Prop) (A : Option Addr) (n : Nat) (l : List Ex) : Prop where
 len : l.length = n
 at_ : ∀ (j : Nat) (e : Ex), l[j]? = some e → ∃ b off Ae ne ce, A = some ⟨b, off, none⟩ ∧ b < W.heap.size ∧ S b ∧ ExC W b (off + j * 8) e Ae ne ce ∧ ExIn W S e Ae ne ce
theorem ExsIn.keep {W W' : World} {S S' : Nat → Prop} (hW : ∀ b, S b → b < W.heap.size → W'.heap[b]? = W.heap[b]?) (hS : ∀ b, S b → b < W.heap.size → S' b) (hs : W.heap.size ≤ W'.heap.size) {A : Option Addr} {n : Nat} {l : List Ex} (h : ExsIn W S A n l) : ExsIn W' S' A n l :=
 ⟨h.len, fun j e hj => by
  obtain ⟨b, off, Ae, ne, ce, e1, hb, hsb, hc, hi⟩ := h.at_ j e hj
  exact ⟨b, off, Ae, ne, ce, e1, Nat.lt_of_lt_of_le hb hs, hS b hsb hb, hc.kept (hW b hsb hb), hi.keep hW hS hs⟩⟩
theorem ExsIn.is {W : World} {S : Nat → Prop} {A : Option Addr} {n : Nat} {l : List Ex} (h : ExsIn W S A n l) : ExsAt W A n l :=
 ⟨h.len, fun j e hj => by
  obtain ⟨b, off, Ae, ne, ce, e1, hb, -, hc, hi⟩ := h.at_ j e hj
  exact ⟨b, off, Ae, ne, ce, e1, hb, hc, hi.is⟩⟩
theorem ExsIn.nil (W : World) (S : Nat → Prop) (A : Option Addr) : ExsIn W S A 0 [] := ⟨rfl, fun j e h => by simp at h⟩

def WherePost (cols : List Col) (w : World) (e : Ending) (w' : World) : Prop := ∃ (l : List Ex) (A : Option Addr) (n c : Nat) (er : Int), e = .returned (.tuple #[.slice A n c, .int .i64 er]) ∧ n ≤ 1 ∧ n ≤ c ∧ Hid (er = 0 → (∀ y ∈ l, Typed cols false y) ∧ ExsIn w' (fun b => w.heap.size ≤ b) A n l) ∧ Hid (Below w.heap.size w w')

set_option maxRecDepth 100000 in
set_option maxHeartbeats 16000000 in
theorem where50 (w : World) (tn : ByteArray) (CA : Option Addr) (cn cc : Nat) (cols : List Col) (hc : ColsAt w CA cn cols) (hcn : cn ≤ 1466015503701) (WA : Option Addr) (nw cw : Nat) (l : List PEx) (hl : PExsAt w WA nw l) (hd : ∀ x ∈ l, depthP x ≤ 4611686018427387904) :
  Calls Tryz.prog 50 #[.agg #[.string tn, .slice CA cn cc], .slice WA nw cw] w (WherePost cols w) := by
 obtain ⟨w1, hw1⟩ : ∃ z, z = w.alloc (.cells #[.string tn, .slice CA cn cc] 24) := ⟨_, rfl⟩
 have B1 := Lib.hid (show Below w.heap.size w w1 by rw [hw1]; exact below_alloc _ _)
 have Z1 := Lib.hid (show Blk w1 w.heap.size 24 #[.string tn, .slice CA cn cc] by rw [hw1]; exact Blk.new w 24 _)
 by_cases h0 : nw = 0
 ·subst h0
  go_enter Tryz.func50, Tryz.ntmps50
  go_upto_region 1 with fail
  rw [← hw1]
  clear hw1
  go_wp2_with fail
  go_ret2
  exact ⟨[], none, 0, 0, 0, rfl, by omega, by omega, Lib.hid (fun _ => ⟨fun y hy => (by cases hy), ExsIn.nil _ _ _⟩), B1⟩
 ·obtain ⟨x, hx⟩ : ∃ x, l[0]? = some x := ⟨_, List.getElem?_eq_getElem (by rw [hl.len]; omega)⟩
  obtain ⟨b, off, Ax, nx, cx, rfl, hb0, hc0, hi⟩ := hl.at_ 0 x hx
  obtain ⟨a0, a1, a2, a3, a4, a5, a6⟩ := hc0.below hb0 B1.out
  simp only [Nat.zero_mul, Nat.add_zero] at a0 a1 a2 a3 a4 a5 a6
  have hb := Nat.lt_of_lt_of_le hb0 B1.out.size
  have CI := Lib.hid (fun (W : World) (h : Below w1.heap.size w1 W) => ofExpr6 W tn CA cn cc cols (hc.below (bt h B1.out)) hcn x Ax nx cx (hi.bel (bt h B1.out)) (hd x (List.mem_of_getElem? hx)) false)
  have t0 := Z1.out.cell 0
  have t1 := Z1.out.cell 1
  have hl1 := Z1.out.lt
  have hn1 : (0 : Int) < (nw : Int) := by omega
  have hn2 : 0 < nw := by omega
  have hn3 : ¬ (nw : Int) = 0 := by omega
  have hn4 : ((nw : Int) == 0) = false := by simp; omega
  have hn5 : (nw == 0) = false := by simp; omega
  clear hx hl hd hc hi hc0 hb0
  go_enter Tryz.func50, Tryz.ntmps50
  go_upto_region 1 with fail
  rw [← hw1]
  clear hw1
  go_upto_region 3 with fail
  go_cut [6, 7] from 11 to 19 (fun s6 s7 wx => ∃ (y : Ex) (A' : Option Addr) (n' c' : Nat) (er : Int) (p : Nat), s6 = .pointer (some ⟨p, 0, none⟩) ∧ s7 = .int .i64 er ∧ Hid (Made w1 p y A' n' c' wx) ∧ Hid (er = 0 → Typed cols false y ∧ ExIn wx (fun b => w1.heap.size ≤ b) y A' n' c'))
  case first =>
   go_region_law (first | (go_simp; go_at_call 6; refine (CI.out _ (by first | exact below_drew _ | exact bt (below_alloc _ _) (below_drew _) | exact bt (below_drew _) (below_alloc _ _))).mono ?_; rintro e w5 ⟨y, A', n', c', er, rfl, hy, hb5⟩; (first | (have pz := Lib.hid (zero_new hb5.out); have q0 := pz.out.cell 0; have q1 := pz.out.cell 1; have q2 := pz.out.cell 2; have q3 := pz.out.cell 3; have q4 := pz.out.cell 4; have q5 := pz.out.cell 5; have q6 := pz.out.cell 6; have q7 := pz.out.cell 7; have hfz := fun o => pz.out.frozen o) | (have pz := Lib.hid (zero_newd hb5.out); have q0 := pz.out.cell 0; have q1 := pz.out.cell 1; have q2 := pz.out.cell 2; have q3 := pz.out.cell 3; have q4 := pz.out.cell 4; have q5 := pz.out.cell 5; have q6 := pz.out.cell 6; have q7 := pz.out.cell 7; have hfz := fun o => pz.out.frozen o) | skip)))
   all_goals
    go_wp2_with fail
    go_meet
   all_goals first | exact ⟨y, A', n', c', er, _, rfl, rfl, Lib.hid (made_a hb5.out hy.out).1, Lib.hid (made_a hb5.out hy.out).2⟩ | exact ⟨y, A', n', c', er, _, rfl, rfl, Lib.hid (made_b hb5.out hy.out).1, Lib.hid (made_b hb5.out hy.out).2⟩
  case rest =>
   obtain ⟨y, A', n', c', er, p, rfl, rfl, HM, HY⟩ := hcut
   clear a0 a1 a2 a3 a4 a5 a6 t0 t1 hl1 CI hb
   have BW := Lib.hid (bt HM.out.1 B1.out)
   by_cases her : er = 0
   ·subst her
    have p0 := HM.out.2.2.2.cell 0
    have p1 := HM.out.2.2.2.cell 1
    have p2 := HM.out.2.2.2.cell 2
    have p3 := HM.out.2.2.2.cell 3
    have p4 := HM.out.2.2.2.cell 4
    have p5 := HM.out.2.2.2.cell 5
    have p6 := HM.out.2.2.2.cell 6
    have p7 := HM.out.2.2.2.cell 7
    have hp := HM.out.2.2.1
    obtain ⟨q, hq⟩ : ∃ q, fitP y.kind 3 = q := ⟨_, rfl⟩
    have CF := Lib.hid (fit62 wc y.kind 3)
    rw [hq] at CF
    clear hq
    go_wp2_with fail
    refine CF.out.mono ?_
    rintro e w6 ⟨rfl, rfl⟩
    cases q with
    | false =>
     go_wp2_with fail
     go_ret2
     exact ⟨[], none, 0, 0, 7, rfl, by omega, by omega, Lib.hid (fun h => by cases h), BW⟩
    | true =>
     go_wp2_with fail
     go_ret2
     refine ⟨[y], some ⟨w6.heap.size, 0, none⟩, 1, 1, 0, rfl, by omega, by omega, Lib.hid (fun _ => ⟨fun z hz => ?_, rfl, fun j e hj => ?_⟩), Lib.hid (bt (below_alloc _ _) BW.out)⟩
     ·obtain rfl : z = y := by simpa using hz
      exact (HY.out trivial).1
     ·match j, hj with
      | 0, hj =>
       obtain rfl : y = e := by simpa using hj
       have hbs := BW.out.size
       have zn := Blk.new w6 38 #[.string y.op, .int .i64 y.kind, .int .i64 y.col, .int .i64 y.val.kind, .int .i64 y.val.int, .string y.val.text, .bool y.val.bool, .slice A' n' c']
       exact ⟨w6.heap.size, 0, A', n', c', rfl, zn.lt, hbs, ⟨zn.cell 0, zn.cell 1, zn.cell 2, zn.cell 3, zn.cell 4, zn.cell 5, zn.cell 6, zn.cell 7⟩, (HY.out trivial).2.keep (fun b _ hl => Below.heap_alloc w6 _ b hl) (fun b hb _ => by have := B1.out.size; omega) (by simp)⟩
      | j + 1, hj => simp at hj
   ·have r1 : (er != 0) = true := by simpa using her
    have r2 : (er == 0) = false := by simpa using her
    have HER := Lib.hid her
    clear her
    go_wp2_with fail
    go_ret2
    exact ⟨[], none, 0, 0, er, rfl, by omega, by omega, Lib.hid (fun h => absurd h HER.out), BW⟩

end Go.Proofs.YtbcmmecilheicaaGreatDoor

/- A row of the document's expressions, of one's own: what appends leave. -/
namespace Go.Proofs.YtbcmmecilheicaaGreatDoor
open Go Go.RowKit

/-- old expressions in a row of one's own -/
structure LeI (w wr : World) (m : Nat) (A : Option Addr) (co : Nat) (gs : List Given) : Prop where
 old : Below w.heap.size w wr
 row : wr.ownsRow w.heap.size 38 8 (.slice A m co) m (exCells gs)
 len : gs.length = m
 is_ : ∀ g ∈ gs, ExIs w g.1 g.2.1 g.2.2.1 g.2.2.2
section
variable {w wr : World} {m : Nat} {A : Option Addr} {co : Nat} {gs : List Given}
theorem LeI.zero (w : World) : LeI w w 0 none 0 [] := ⟨Below.refl _ _, World.ownsRow_nil _ _ _ _, rfl, fun g h => by cases h⟩
theorem LeI.below (I : LeI w wr m A co gs) {wx : World} (h : Below wr.heap.size wr wx) : LeI w wx m A co gs := ⟨bt h I.old, own_below I.row h, I.len, I.is_⟩
theorem LeI.grown (I : LeI w wr m A co gs) {w3 : World} {V : Value} (hV : V.ownBlock = (Value.slice A m co).ownBlock) (hg : wr.grownBy w3 V.ownBlock) : Below w.heap.size w w3 := by
 have own_lt : ∀ k, (Value.slice A m co).ownBlock = some k → w.heap.size ≤ k ∧ k < wr.heap.size := I.row.lt
 have hsz := hg.size
 have hs0 := I.old.size
 have ne : ∀ b, b < w.heap.size → some b ≠ V.ownBlock := fun b hb e => by rw [hV] at e; have := (own_lt b e.symm).1; omega
 exact ⟨hg.os.trans I.old.os, hg.tape.trans I.old.tape, hg.output.trans I.old.output, by omega, fun k hk => (hg.block k (by omega) (ne k (by omega))).trans (I.old.block k hk)⟩
theorem LeI.push (I : LeI w wr m A co gs) (hm : m + 1 ≤ 4000000) {e : Ex} {Ae : Option Addr} {ne ce : Nat} (he : ExIs w e Ae ne ce) :
  ∃ An cn w3, (Builtin.append_ #[36, 36] 36 #[.slice A m co, .slice (some ⟨wr.heap.size, 0, none⟩) 1 1]).run Tryz.prog (wr.alloc (.cells #[.string e.op, .int .i64 e.kind, .int .i64 e.col, .int .i64 e.val.kind, .int .i64 e.val.int, .string e.val.text, .bool e.val.bool, .slice Ae ne ce] 38)) = .ok (.slice An (m + 1) cn) w3 ∧ LeI w w3 (m + 1) An cn (gs ++ [(e, Ae, ne, ce)]) := by
 have hb := below_alloc wr (.cells #[.string e.op, .int .i64 e.kind, .int .i64 e.col, .int .i64 e.val.kind, .int .i64 e.val.int, .string e.val.text, .bool e.val.bool, .slice Ae ne ce] 38)
 have I2 := I.below hb
 have hs0 := I.old.size
 obtain ⟨An, cn, w3, hrun, hown, hg, -⟩ := app_some tRefs 36 I2.row (by simp; omega) ⟨wr.heap.size, 0, none⟩ 1 1 (by omega) (exCells [(e, Ae, ne, ce)]) (exCells_len _) (fun j u hj => by
  rw [add_lit0, (Blk.new wr 38 _).cell j]
  simpa [exCells] using hj) exCells_one (by unfold maxLen; omega) (by omega)
 refine ⟨An, cn, w3, hrun, I2.grown rfl hg, by rw [exCells_append]; exact hown, by simp [I.len], fun g hgm => ?_⟩
 rcases List.mem_append.1 hgm with h | h
 ·exact I.is_ g h
 ·obtain rfl : g = (e, Ae, ne, ce) := by simpa using h
  exact he
theorem LeI.pushM (I : LeI w wr m A co gs) {k : Nat} (hm : m + k ≤ 4000000) {ws : List Ex} {WA : Option Addr} (hw : ExsAt w WA k ws) (c : Nat) :
  ∃ An cn w3 gs', (Builtin.append_ #[36, 36] 36 #[.slice A m co, .slice WA k c]).run Tryz.prog wr = .ok (.slice An (m + k) cn) w3 ∧ LeI w w3 (m + k) An cn (gs ++ gs') ∧ gs'.map (·.1) = ws := by
 by_cases h0 : k = 0
 ·subst h0
  have hl := hw.len
  obtain rfl : ws = [] := List.length_eq_zero_iff.1 hl
  have hc := own_cap I.row
  exact ⟨A, co, wr, [], app_zero tRefs 36 wr hc.2, by simpa using I, rfl⟩
 ·classical
  have pick : ∀ j : Nat, ∃ p : Given, j < k → ws[j]? = some p.1 ∧ ∃ b off, WA = some ⟨b, off, none⟩ ∧ b < w.heap.size ∧ ExC w b (off + j * 8) p.1 p.2.1 p.2.2.1 p.2.2.2 ∧ ExIs w p.1 p.2.1 p.2.2.1 p.2.2.2 := fun j => by
   by_cases hj : j < k
   ·have hj' : j < ws.length := by rw [hw.len]; exact hj
    obtain ⟨b, off, Ae, ne, ce, e1, hb, hc, hi⟩ := hw.at_ j ws[j] (List.getElem?_eq_getElem hj')
    exact ⟨(ws[j], Ae, ne, ce), fun _ => ⟨List.getElem?_eq_getElem hj', b, off, e1, hb, hc, hi⟩⟩
   ·exact ⟨(zeroEx, none, 0, 0), fun h => absurd h hj⟩
  let F : Nat → Given := fun j => (pick j).choose
  have hF : ∀ j, j < k → ws[j]? = some (F j).1 ∧ ∃ b off, WA = some ⟨b, off, none⟩ ∧ b < w.heap.size ∧ ExC w b (off + j * 8) (F j).1 (F j).2.1 (F j).2.2.1 (F j).2.2.2 ∧ ExIs w (F j).1 (F j).2.1 (F j).2.2.1 (F j).2.2.2 := fun j => (pick j).choose_spec
  obtain ⟨-, b, off, hWA, hb, -, -⟩ := hF 0 (by omega)
  subst hWA
  have hlen : ((List.range k).map F).length = k := by simp
  have hs0 := I.old.size
  obtain ⟨An, cn, w3, hrun, hown, hg, -⟩ := app_some tRefs 36 I.row (by omega) ⟨b, off, none⟩ k c (by omega) (exCells ((List.range k).map F)) (by rw [exCells_len, hlen]) (fun j u hj => by
   have hjl : j < k * 8 := by
    have := (List.getElem?_eq_some_iff.1 hj).1
    rw [exCells_len, hlen] at this
    exact this
   have hd : j / 8 < k := by omega
   obtain ⟨-, b', off', e1, hb', hc, -⟩ := hF (j / 8) hd
   injection e1 with e1
   injection e1 with e1 e2
   subst e1 e2
   have hat := exCells_at (l := (List.range k).map F) (i := j / 8) (g := F (j / 8)) (by rw [List.getElem?_map, List.getElem?_range hd]; rfl) (j % 8) (by omega)
   rw [show j / 8 * 8 + j % 8 = j by omega, hj] at hat
   obtain ⟨c0, c1, c2, c3, c4, c5, c6, c7⟩ := hc.below hb' I.old
   have hadd : (⟨b, off, none⟩ : Addr).add j = ⟨b, off + j / 8 * 8 + j % 8, none⟩ := by
    have : off + j = off + j / 8 * 8 + j % 8 := by omega
    unfold Addr.add; split <;> simp_all
   rw [hadd]
   rcases (show j % 8 = 0 ∨ j % 8 = 1 ∨ j % 8 = 2 ∨ j % 8 = 3 ∨ j % 8 = 4 ∨ j % 8 = 5 ∨ j % 8 = 6 ∨ j % 8 = 7 by omega) with q | q | q | q | q | q | q | q <;> rw [q] at hat ⊢ <;> rw [hat]
   ·exact c0
   ·exact c1
   ·exact c2
   ·exact c3
   ·exact c4
   ·exact c5
   ·exact c6
   ·exact c7) exCells_one (by unfold maxLen; omega) (by omega)
  refine ⟨An, cn, w3, (List.range k).map F, hrun, ⟨I.grown rfl hg, by rw [exCells_append]; exact hown, by rw [List.length_append, I.len, hlen], fun g hgm => ?_⟩, ?_⟩
  ·rcases List.mem_append.1 hgm with h | h
   ·exact I.is_ g h
   ·obtain ⟨j, hj, rfl⟩ := List.mem_map.1 h
    obtain ⟨-, -, -, -, -, -, hi⟩ := hF j (List.mem_range.1 hj)
    exact hi
  ·apply List.ext_getElem?
   intro j
   rw [List.getElem?_map]
   by_cases hj : j < k
   ·rw [List.getElem?_map, List.getElem?_range hj]
    exact (hF j hj).1.symm
   ·rw [List.getElem?_eq_none (by rw [hlen]; omega), List.getElem?_eq_none (by rw [hw.len]; omega)]
    rfl
/-- one of them -/
theorem LeI.at_ (I : LeI w wr m A co gs) {j : Nat} {g : Given} (hg : gs[j]? = some g) : ∃ b, A = some ⟨b, 0, none⟩ ∧ b < wr.heap.size ∧ ExC wr b (j * 8) g.1 g.2.1 g.2.2.1 g.2.2.2 ∧ ExIs w g.1 g.2.1 g.2.2.1 g.2.2.2 := by
 have hx : ∀ k, k < 8 → (exCells gs)[j * 8 + k]? = (exCells [g])[k]? := fun k hk => exCells_at hg k hk
 have h0 := hx 0 (by omega)
 obtain ⟨b, e, hb, -, -, -⟩ := own_at I.row h0
 have hc : ∀ k (hk : k < 8) u, (exCells [g])[k]? = some u → wr.cell? ⟨b, j * 8 + k, none⟩ = some u := fun k hk u hu => by
  obtain ⟨b', e', -, -, c, -⟩ := own_at I.row ((hx k hk).trans hu)
  rw [e] at e'
  injection e' with e'; injection e' with e'; subst e'
  exact c
 exact ⟨b, e, hb, ⟨hc 0 (by omega) _ rfl, hc 1 (by omega) _ rfl, hc 2 (by omega) _ rfl, hc 3 (by omega) _ rfl, hc 4 (by omega) _ rfl, hc 5 (by omega) _ rfl, hc 6 (by omega) _ rfl, hc 7 (by omega) _ rfl⟩, I.is_ g (List.mem_of_getElem? hg)⟩
end

end Go.Proofs.YtbcmmecilheicaaGreatDoor

/- The document's grouped: some truth comes back. -/
namespace Go.Proofs.YtbcmmecilheicaaGreatDoor
open Go Go.RowKit

set_option maxRecDepth 100000 in
set_option maxHeartbeats 16000000 in
theorem grouped52 (w : World) (tb : ByteArray) (T1 : Option Addr) (t1 u1 : Nat) (IA : Option Addr) (n u2 : Nat) (WA : Option Addr) (wn wc : Nat) (GA : Option Addr) (gn gc : Nat) (OA : Option Addr) (no u5 : Nat) (lim : Int) (ag : Bool) (tn : ByteArray) (CA : Option Addr) (cn cc : Nat) (its : List Ex) (hI : ExsAt w IA n its) (ords : List (Ex × Bool)) (hO : OrdsAt w OA no ords) (cols : List Int) (hG : IntsAt w GA gn cols) (hn : n ≤ 1048576) (hno : no ≤ 1048576) (hgn : gn ≤ 1048576) (hcn : cn ≤ 1048576) :
  Calls Tryz.prog 52 #[.agg #[.string tb, .slice T1 t1 u1, .slice IA n u2, .slice WA wn wc, .slice GA gn gc, .slice OA no u5, .int .i64 lim, .bool ag], .agg #[.string tn, .slice CA cn cc]] w (SomeB w) := by
 obtain ⟨w1, hw1⟩ : ∃ z, z = (w.alloc (.cells #[.string tb, .slice T1 t1 u1, .slice IA n u2, .slice WA wn wc, .slice GA gn gc, .slice OA no u5, .int .i64 lim, .bool ag] 68)).alloc (.cells #[.string tn, .slice CA cn cc] 24) := ⟨_, rfl⟩
 have B1 := Lib.hid (show Below w.heap.size w w1 by rw [hw1]; exact bt (below_alloc _ _) (below_alloc _ _))
 have ZQ := Lib.hid (show Blk w1 w.heap.size 68 #[.string tb, .slice T1 t1 u1, .slice IA n u2, .slice WA wn wc, .slice GA gn gc, .slice OA no u5, .int .i64 lim, .bool ag] by rw [hw1]; exact (Blk.new w 68 _).alloc _)
 have ZT := Lib.hid (show Blk w1 (w.heap.size + 1) 24 #[.string tn, .slice CA cn cc] by rw [hw1]; exact blk_new' (w := w.alloc _) rfl (by simp))
 have HI := Lib.hid (hI.below B1.out)
 have HO := Lib.hid (hO.below B1.out)
 have HG := Lib.hid (hG.below B1.out)
 obtain ⟨A0, c0, w2, gs0, hrun, I0, hgs0⟩ := (LeI.zero w1).pushM (k := n) (by omega) HI.out u2
 rw [Nat.zero_add] at hrun I0
 have HRUN := Lib.hid hrun
 have J0 := Lib.hid I0
 have z2 := ZQ.out.cell 2
 have hl := ZQ.out.lt
 have hlt := ZT.out.lt
 clear hI hO hG hrun I0
 go_enter Tryz.func52, Tryz.ntmps52
 go_upto_region 2 with fail
 rw [← hw1]
 clear hw1
 go_wp2_with (at_builtin; refine wpList_append_runI _ rfl _ _ 36 36 rfl (.slice none 0 0) (.slice IA n u2) rfl rfl HRUN.out ?_)
 clear z2 hl hlt
 go_loopg [5, 6] no (fun kx s5 s6 wr => ∃ (i : Nat) (gs : List Given) (A : Option Addr) (m co : Nat), s5 = .slice A m co ∧ s6 = .int .i64 i ∧ kx + i = no ∧ Hid (m = n + i) ∧ Hid (LeI w1 wr m A co gs))
 case atStart => exact ⟨0, gs0, A0, n, c0, rfl, rfl, rfl, Lib.hid rfl, J0⟩
 case round =>
  obtain ⟨i, gs, A, m, co, rfl, rfl, hk, hm, I⟩ := hrel
  have zq := ZQ.out.below I.out.old
  have q5 := zq.cell 5
  have hql := zq.lt
  have hi0 : (0 : Int) ≤ (i : Int) := by omega
  have hi9 : (i : Int) ≤ 1048576 := by omega
  by_cases hi : i < no
  ·have hiz : (i : Int) < (no : Int) := by omega
   obtain ⟨e, he⟩ : ∃ e, ords[i]? = some e := ⟨_, List.getElem?_eq_getElem (by rw [HO.out.len]; exact hi)⟩
   obtain ⟨b, off, Ae, ne, ce, rfl, hb, hc, hex, -⟩ := HO.out.at_ i e he
   obtain ⟨a0, a1, a2, a3, a4, a5, a6, a7⟩ := hc.below hb I.out.old
   have hb' := Nat.lt_of_lt_of_le hb I.out.old.size
   obtain ⟨An, cn', w3, hrun, I3⟩ := I.out.push (by have := hm.out; omega) hex
   have HRUN := Lib.hid hrun
   have J3 := Lib.hid I3
   clear hrun I3 he hc hex zq
   go_wp2_with (at_builtin; refine wpList_append_runI _ rfl _ _ 36 36 rfl (.slice A m co) (.slice (some ⟨wr.heap.size, 0, none⟩) 1 1) rfl rfl HRUN.out ?_)
   go_roundg (gk - 1)
   case measure => omega
   case rel => exact ⟨i + 1, _, An, m + 1, cn', rfl, by first | rfl | (simp; done), by omega, Lib.hid (by have := hm.out; omega), J3⟩
  ·have hiz : ¬ (i : Int) < (no : Int) := by omega
   rename World => w3
   have hm9 : m ≤ 4000000 := by have := hm.out; omega
   have BW := Lib.hid I.out.old
   have GL := Lib.hid I.out.len
   go_wp2_with fail
   clear q5 hql zq
   go_loopg [7] m (fun kx s7 wr => ∃ i : Nat, s7 = .int .i64 i ∧ kx + i = m ∧ Hid (Below w3.heap.size w3 wr))
   case atStart => exact ⟨0, rfl, rfl, Lib.hid (Below.refl _ _)⟩
   case round =>
    rename World => wr
    obtain ⟨j, rfl, hkj, K⟩ := hrel
    have hj0 : (0 : Int) ≤ (j : Int) := by omega
    have hj9 : (j : Int) ≤ 4000000 := by omega
    by_cases hj : j < m
    ·have hjz : (j : Int) < (m : Int) := by omega
     obtain ⟨g, hg⟩ : ∃ g, gs[j]? = some g := ⟨_, List.getElem?_eq_getElem (by rw [GL.out]; exact hj)⟩
     obtain ⟨b, rfl, hb, hc, hex⟩ := I.out.at_ hg
     have CH := Lib.hid (fun (W : World) (h : Below w3.heap.size w3 W) (cl : Int) => has61 hex W (bt h BW.out) cl)
     have HC := Lib.hid (fun (W : World) (h : Below w3.heap.size w3 W) => hc.below hb h)
     have HB := Lib.hid hb
     obtain ⟨a0, a1, a2, a3, a4, a5, a6, a7⟩ := HC.out wr K.out
     have hb' := Nat.lt_of_lt_of_le hb K.out.size
     have CA1 := Lib.hid (CH.out wr K.out (-1))
     clear hg hc hex hb
     obtain ⟨gko, hgo⟩ : ∃ q, q = gk := ⟨_, rfl⟩
     go_wp2_with fail
     refine CA1.out.mono ?_
     clear CA1 a0 a1 a2 a3 a4 a5 a6 a7 hb'
     rintro e2 w4 ⟨q, rfl, h4⟩
     have K4 := Lib.hid (bt h4.out K.out)
     clear h4
     cases q with
     | true =>
      go_wp2_with fail
      go_ret
      exact ⟨false, rfl, Lib.hid (bt K4.out (bt BW.out B1.out))⟩
     | false =>
      go_wp2_with fail
      go_loopg [8] cn (fun kx s8 wr => ∃ i : Nat, s8 = .int .i64 i ∧ kx + i = cn ∧ Hid (Below w3.heap.size w3 wr))
      case atStart => exact ⟨0, rfl, rfl, K4⟩
      case round =>
       rename World => wx
       obtain ⟨k, rfl, hkk, L⟩ := hrel
       have zt := (ZT.out.below (bt L.out BW.out))
       have t1 := zt.cell 1
       have htl := zt.lt
       have hk0 : (0 : Int) ≤ (k : Int) := by omega
       have hk9 : (k : Int) ≤ 1048576 := by omega
       by_cases hkc : k < cn
       ·have hkz : (k : Int) < (cn : Int) := by omega
        obtain ⟨gkp, hgp⟩ : ∃ q, q = gk := ⟨_, rfl⟩
        go_wp2_with fail
        go_loopg [9, 10] gn (fun kx s9 s10 wr => ∃ (i : Nat) (q : Bool), s9 = .bool q ∧ s10 = .int .i64 i ∧ kx + i = gn ∧ wr = wx)
        case atStart => exact ⟨0, false, rfl, rfl, rfl, rfl⟩
        case round =>
         obtain ⟨i', q, rfl, rfl, hki, rfl⟩ := hrel
         rename World => wx
         have zq := ZQ.out.below (bt L.out BW.out)
         have q4 := zq.cell 4
         have hql := zq.lt
         have hi0 : (0 : Int) ≤ (i' : Int) := by omega
         have hi9 : (i' : Int) ≤ 1048576 := by omega
         by_cases hi : i' < gn
         ·have hiz : (i' : Int) < (gn : Int) := by omega
          obtain ⟨z, hz⟩ : ∃ z, cols[i']? = some z := ⟨_, List.getElem?_eq_getElem (by rw [HG.out.len]; exact hi)⟩
          obtain ⟨bg, og, rfl, hbg, hcg⟩ := HG.out.at_ i' z hz
          have x0 := ((bt L.out BW.out).cell (p := ⟨bg, og + i', none⟩) hbg).trans hcg
          have hbg' := Nat.lt_of_lt_of_le hbg (bt L.out BW.out).size
          obtain ⟨p, hp⟩ : ∃ p, (z == (k : Int)) = p := ⟨_, rfl⟩
          clear hz hcg
          cases q with
          | true =>
           go_wp2_with fail
           go_roundg (gk - 1)
           case measure => omega
           case rel => exact ⟨i' + 1, true, rfl, by first | rfl | (simp; done), by omega, rfl⟩
          | false =>
           go_wp2_with fail
           go_roundg (gk - 1)
           case measure => omega
           case rel => exact ⟨i' + 1, _, rfl, by first | rfl | (simp; done), by omega, rfl⟩
         ·have hiz : ¬ (i' : Int) < (gn : Int) := by omega
          obtain ⟨a0, a1, a2, a3, a4, a5, a6, a7⟩ := HC.out wx L.out
          have hb' := Nat.lt_of_lt_of_le HB.out L.out.size
          have CB := Lib.hid (CH.out wx L.out k)
          cases q with
          | true =>
           go_wp2_with fail
           go_roundg (gkp - 1)
           case measure => omega
           case rel => exact ⟨k + 1, by first | rfl | (simp; done), by omega, L⟩
          | false =>
           go_wp2_with fail
           refine CB.out.mono ?_
           clear CB a0 a1 a2 a3 a4 a5 a6 a7 hb'
           rintro e2 w5 ⟨q, rfl, h5⟩
           have L5 := Lib.hid (bt h5.out L.out)
           clear h5
           cases q with
           | true =>
            go_wp2_with fail
            go_ret
            exact ⟨false, rfl, Lib.hid (bt L5.out (bt BW.out B1.out))⟩
           | false =>
            go_wp2_with fail
            go_roundg (gkp - 1)
            case measure => omega
            case rel => exact ⟨k + 1, by first | rfl | (simp; done), by omega, L5⟩
       ·have hkz : ¬ (k : Int) < (cn : Int) := by omega
        go_wp2_with fail
        go_roundg (gko - 1)
        case measure => omega
        case rel => exact ⟨j + 1, by first | rfl | (simp; done), by omega, L⟩
    ·have hjz : ¬ (j : Int) < (m : Int) := by omega
     have zq := ZQ.out.below (bt K.out BW.out)
     have q2 := zq.cell 2
     have hql := zq.lt
     go_wp2_with fail
     go_ret
     exact ⟨_, rfl, Lib.hid (bt K.out (bt BW.out B1.out))⟩

end Go.Proofs.YtbcmmecilheicaaGreatDoor
