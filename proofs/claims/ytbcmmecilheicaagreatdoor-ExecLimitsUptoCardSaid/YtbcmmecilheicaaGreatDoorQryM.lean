/- What exec.Query keeps: parts in a row of its own, what is told of them; the rows that come of it. exec.Query: a part told of, whatever is told; its answer's laws. exec.Query, over whatever contracts of parts and of runner.of. -/
import Derived.Test.YtbcmmecilheicaaGreatDoorTel
import Derived.Test.YtbcmmecilheicaaGreatDoorBefG
import Derived.Test.YtbcmmecilheicaaGreatDoorSrtQ

/- What exec.Query keeps: parts in a row of its own, what is told of them; the rows that come of it. -/
namespace Go.Proofs.YtbcmmecilheicaaGreatDoor
open Go Go.RowKit

/-- rows, as they are read, in blocks of a kind -/
structure RowsIn (W : World) (S : Nat → Prop) (A : Option Addr) (n : Nat) (rs : List (Int × List Val)) : Prop where
 len : rs.length = n
 at_ : ∀ (j : Nat) (r : Int × List Val), rs[j]? = some r → ∃ b off VA vn vc, A = some ⟨b, off, none⟩ ∧ b < W.heap.size ∧ S b ∧ W.cell? ⟨b, off + j * 2, none⟩ = some (.int .i64 r.1) ∧ W.cell? ⟨b, off + j * 2 + 1, none⟩ = some (.slice VA vn vc) ∧ ValsIn W S VA vn r.2 ∧ vn * 40 ≤ 140737488355328
theorem RowsIn.is {W : World} {S : Nat → Prop} {A : Option Addr} {n : Nat} {rs : List (Int × List Val)} (h : RowsIn W S A n rs) : RowsAt W A n rs :=
 ⟨h.len, fun j r hj => by obtain ⟨b, off, VA, vn, vc, e, hb, -, c0, c1, hv, hn⟩ := h.at_ j r hj; exact ⟨b, off, VA, vn, vc, e, hb, c0, c1, hv.is, hn⟩⟩
theorem ValsAt.old {W : World} {A : Option Addr} {n : Nat} {l : List Val} (h : ValsAt W A n l) : ValsIn W (fun b => b < W.heap.size) A n l :=
 ⟨h.len, fun j v hj => by obtain ⟨b, off, e, hb, hc⟩ := h.at_ j v hj; exact ⟨b, off, e, hb, hb, hc⟩⟩
theorem RowsAt.old {W : World} {A : Option Addr} {n : Nat} {rs : List (Int × List Val)} (h : RowsAt W A n rs) : RowsIn W (fun b => b < W.heap.size) A n rs :=
 ⟨h.len, fun j r hj => by obtain ⟨b, off, VA, vn, vc, e, hb, c0, c1, hv, hn⟩ := h.at_ j r hj; exact ⟨b, off, VA, vn, vc, e, hb, hb, c0, c1, hv.old, hn⟩⟩
theorem RowsIn.keep {W W' : World} {S S' : Nat → Prop} (hW : ∀ b, S b → b < W.heap.size → W'.heap[b]? = W.heap[b]?) (hS : ∀ b, S b → b < W.heap.size → S' b) (hs : W.heap.size ≤ W'.heap.size) {A : Option Addr} {n : Nat} {rs : List (Int × List Val)} (h : RowsIn W S A n rs) : RowsIn W' S' A n rs :=
 ⟨h.len, fun j r hj => by
  obtain ⟨b, off, VA, vn, vc, e, hb, hsb, c0, c1, hv, hn⟩ := h.at_ j r hj
  have k := hW b hsb hb
  exact ⟨b, off, VA, vn, vc, e, Nat.lt_of_lt_of_le hb hs, hS b hsb hb, (World.cell?_of_block (a := ⟨b, off + j * 2, none⟩) k).trans c0, (World.cell?_of_block (a := ⟨b, off + j * 2 + 1, none⟩) k).trans c1, hv.keep hW hS hs, hn⟩⟩

def pcells (gs : List ElP) : List Value := (gs.map fun e => [Value.slice e.a e.n e.c, .slice e.a' e.n' e.c', .slice e.a2 e.n2 e.c2]).flatten
theorem pcells_len (gs : List ElP) : (pcells gs).length = gs.length * 3 := by
 induction gs with
 | nil => rfl
 | cons p l ih => simp only [pcells, List.map_cons, List.flatten_cons, List.length_append, List.length_cons, List.length_nil] at ih ⊢; omega
theorem pcells_append (a b : List ElP) : pcells (a ++ b) = pcells a ++ pcells b := by simp [pcells]
theorem pcells_one {gs : List ElP} : ∀ u ∈ pcells gs, u.oneCell' = true := by
 intro u hu
 obtain ⟨c, hc, huc⟩ := List.mem_flatten.1 hu
 obtain ⟨p, hp, rfl⟩ := List.mem_map.1 hc
 simp only [List.mem_cons, List.not_mem_nil, or_false] at huc
 rcases huc with rfl | rfl | rfl <;> rfl
theorem pcells_at : ∀ {gs : List ElP} {i : Nat} {e : ElP}, gs[i]? = some e → (pcells gs)[i * 3]? = some (.slice e.a e.n e.c) ∧ (pcells gs)[i * 3 + 1]? = some (.slice e.a' e.n' e.c') ∧ (pcells gs)[i * 3 + 2]? = some (.slice e.a2 e.n2 e.c2)
 | [], _, _, h => by simp at h
 | q :: l, 0, p, h => by
  obtain rfl : q = p := by simpa using h
  exact ⟨rfl, rfl, rfl⟩
 | q :: l, i + 1, p, h => by
  have ih := pcells_at (gs := l) (i := i) (e := p) (by simpa using h)
  have e : pcells (q :: l) = Value.slice q.a q.n q.c :: .slice q.a' q.n' q.c' :: .slice q.a2 q.n2 q.c2 :: pcells l := rfl
  rw [e, show (i + 1) * 3 = i * 3 + 1 + 1 + 1 by omega, show i * 3 + 1 + 1 + 1 + 1 = (i * 3 + 1) + 1 + 1 + 1 by omega, show i * 3 + 1 + 1 + 1 + 2 = (i * 3 + 2) + 1 + 1 + 1 by omega]
  simp only [List.getElem?_cons_succ]
  exact ih

/-- the parts that a query tells of -/
def PartsPost (ps : List (List (Int × List Val))) (w : World) (e : Ending) (w' : World) : Prop := ∃ (A : Option Addr) (n c : Nat) (gs : List ElP), e = .returned (.slice A n c) ∧ Hid (n = ps.length) ∧ Hid (n = 0 → A = none ∧ c = 0) ∧ Hid (gs.length = n) ∧ Hid (w'.ownsRow w.heap.size 147 3 (.slice A n c) n (pcells gs)) ∧
 Hid (∀ (j : Nat) (e : ElP) (rs : List (Int × List Val)), gs[j]? = some e → ps[j]? = some rs → e.a' = none ∧ e.n' = 0 ∧ e.c' = 0 ∧ e.a2 = none ∧ e.n2 = 0 ∧ e.c2 = 0 ∧ RowsIn w' (fun b => some b ≠ (Value.slice A n c).ownBlock) e.a e.n rs) ∧ Hid (Below w.heap.size w w')

/-- what the loop over the parts keeps -/
structure QI (w0 : World) (g cap n : Nat) (ps : List (List (Int × List Val))) (fI fO : List (Int × List Val) → List Val) (j : Nat) (els : List ElP) (W : World) : Prop where
 grown : w0.grownBy W (some g)
 lt : g < w0.heap.size
 blk : ∃ cur : Array Value, W.heap[g]? = some (.cells cur 147 (0, 0)) ∧ cur.size = cap * 3 ∧ ∀ (i : Nat) (e : ElP), els[i]? = some e → cur[i * 3]? = some (.slice e.a e.n e.c) ∧ cur[i * 3 + 1]? = some (.slice e.a' e.n' e.c') ∧ cur[i * 3 + 2]? = some (.slice e.a2 e.n2 e.c2)
 caps : n ≤ cap ∧ cap ≤ maxLen
 len : els.length = n
 rows : ∀ (i : Nat) (e : ElP) (rs : List (Int × List Val)), els[i]? = some e → ps[i]? = some rs → RowsIn W (fun b => b ≠ g) e.a e.n rs
 done : ∀ (i : Nat) (e : ElP) (rs : List (Int × List Val)), i < j → els[i]? = some e → ps[i]? = some rs → ValsIn W (fun b => b ≠ g) e.a' e.n' (fI rs) ∧ ValsIn W (fun b => b ≠ g) e.a2 e.n2 (fO rs)
 todo : ∀ (i : Nat) (e : ElP), j ≤ i → els[i]? = some e → e.a' = none ∧ e.n' = 0 ∧ e.c' = 0 ∧ e.a2 = none ∧ e.n2 = 0 ∧ e.c2 = 0
theorem QI.zero {B : Nat} {w : World} {g n cap : Nat} {gs : List ElP} {ps : List (List (Int × List Val))} (hn : n = ps.length) (hl : gs.length = n) (h : w.ownsRow B 147 3 (.slice (some ⟨g, 0, none⟩) n cap) n (pcells gs))
  (hr : ∀ (j : Nat) (e : ElP) (rs : List (Int × List Val)), gs[j]? = some e → ps[j]? = some rs → e.a' = none ∧ e.n' = 0 ∧ e.c' = 0 ∧ e.a2 = none ∧ e.n2 = 0 ∧ e.c2 = 0 ∧ RowsIn w (fun b => some b ≠ (Value.slice (some ⟨g, 0, none⟩) n cap).ownBlock) e.a e.n rs) (fI fO : List (Int × List Val) → List Val) : QI w g cap n ps fI fO 0 gs w := by
 have hg := (h.lt g rfl).2
 obtain ⟨h1, h2⟩ := h
 rcases h2 with ⟨h2, -⟩ | ⟨g0, cap0, cur, e1, h3, h4, h5, h6, h7, h8⟩
 ·cases h2
 ·injection e1 with e1 e2 e3
  injection e1 with e1
  injection e1 with e1
  subst e1 e3
  refine ⟨grown_refl _ _, hg, ⟨cur, h4, h7, fun i e he => ?_⟩, ⟨h5, h6⟩, hl, fun i e rs he hrs => ?_, fun i e rs hi => absurd hi (Nat.not_lt_zero _), fun i e _ he => ?_⟩
  ·obtain ⟨c0, c1, c2⟩ := pcells_at he
   have hi : i < n := by rw [← hl]; exact (List.getElem?_eq_some_iff.1 he).1
   rw [← h8] at c0 c1 c2
   rw [List.getElem?_take_of_lt (by omega)] at c0 c1 c2
   exact ⟨by simpa using c0, by simpa using c1, by simpa using c2⟩
  ·exact (hr i e rs he hrs).2.2.2.2.2.2.keep (fun _ _ _ => rfl) (fun b hb _ => fun e => hb (by rw [e]; rfl)) (Nat.le_refl _)
  ·have hi : i < ps.length := by rw [← hn, ← hl]; exact (List.getElem?_eq_some_iff.1 he).1
   obtain ⟨a1, a2, a3, a4, a5, a6, -⟩ := hr i e _ he (List.getElem?_eq_getElem hi)
   exact ⟨a1, a2, a3, a4, a5, a6⟩
section
variable {w0 W : World} {g cap n j : Nat} {ps : List (List (Int × List Val))} {fI fO : List (Int × List Val) → List Val} {els : List ElP}
theorem QI.ltW (h : QI w0 g cap n ps fI fO j els W) : g < W.heap.size := Nat.lt_of_lt_of_le h.lt h.grown.size
theorem QI.keep (h : QI w0 g cap n ps fI fO j els W) {W' : World} (hb : Below W.heap.size W W') : QI w0 g cap n ps fI fO j els W' := by
 obtain ⟨cur, h1, h2, h3⟩ := h.blk
 exact ⟨grown_below h.grown hb, h.lt, ⟨cur, (hb.block g h.ltW).trans h1, h2, h3⟩, h.caps, h.len, fun i e rs he hr => (h.rows i e rs he hr).keep (fun b _ hl => hb.block b hl) (fun _ k _ => k) hb.size,
  fun i e rs hi he hr => ⟨(h.done i e rs hi he hr).1.keep (fun b _ hl => hb.block b hl) (fun _ k _ => k) hb.size, (h.done i e rs hi he hr).2.keep (fun b _ hl => hb.block b hl) (fun _ k _ => k) hb.size⟩, h.todo⟩
/-- a part more is told of -/
theorem QI.step (h : QI w0 g cap n ps fI fO j els W) {e : ElP} {rs : List (Int × List Val)} (he : els[j]? = some e) (hrs : ps[j]? = some rs) {cur0 : Array Value} (hc0 : W.heap[g]? = some (.cells cur0 147 (0, 0))) {W' : World} (hg : W.grownBy W' (some g)) {An : Option Addr} {cn : Nat} {Bn : Option Addr} {dn : Nat} {cur : Array Value} {ni no : Nat}
  (k1 : W'.heap[g]? = some (.cells cur 147 (0, 0))) (k2 : cur.size = cur0.size) (k3 : ∀ i, i ≠ j * 3 + 1 → i ≠ j * 3 + 2 → cur[i]? = cur0[i]?) (k4 : cur[j * 3 + 1]? = some (.slice An ni cn)) (k5 : cur[j * 3 + 2]? = some (.slice Bn no dn))
  (o1 : W'.ownsRow W.heap.size 26 4 (.slice An ni cn) ni (valCells (fI rs))) (l1 : (fI rs).length = ni) (o2 : W'.ownsRow W.heap.size 26 4 (.slice Bn no dn) no (valCells (fO rs))) (l2 : (fO rs).length = no) :
  QI w0 g cap n ps fI fO (j + 1) (els.set j ⟨e.a, e.n, e.c, An, ni, cn, Bn, no, dn⟩) W' := by
 obtain ⟨cur1, b1, b2, b3⟩ := h.blk
 have ec : cur0 = cur1 := by
  rw [hc0] at b1
  injection b1 with b1
  injection b1
 subst ec
 have hjl : j < els.length := (List.getElem?_eq_some_iff.1 he).1
 have at_j : ∀ e', (els.set j ⟨e.a, e.n, e.c, An, ni, cn, Bn, no, dn⟩)[j]? = some e' → e' = ⟨e.a, e.n, e.c, An, ni, cn, Bn, no, dn⟩ := fun e' h' => by
  rw [List.getElem?_set_self hjl] at h'
  exact (Option.some.inj h').symm
 have kp : ∀ b, b ≠ g → b < W.heap.size → W'.heap[b]? = W.heap[b]? := fun b hb hl => hg.block b hl (fun x => hb (by injection x))
 refine ⟨grown_two h.grown hg, h.lt, ⟨cur, k1, by rw [k2]; exact b2, fun i e' he' => ?_⟩, h.caps, by rw [List.length_set]; exact h.len, fun i e' rs' he' hr' => ?_, fun i e' rs' hi he' hr' => ?_, fun i e' hi he' => ?_⟩
 ·by_cases hij : i = j
  ·subst hij
   obtain rfl := at_j e' he'
   obtain ⟨c0, -, -⟩ := b3 i e he
   exact ⟨by rw [k3 _ (by omega) (by omega)]; exact c0, k4, k5⟩
  ·rw [List.getElem?_set_ne (Ne.symm hij)] at he'
   obtain ⟨c0, c1, c2⟩ := b3 i e' he'
   exact ⟨by rw [k3 _ (by omega) (by omega)]; exact c0, by rw [k3 _ (by omega) (by omega)]; exact c1, by rw [k3 _ (by omega) (by omega)]; exact c2⟩
 ·by_cases hij : i = j
  ·subst hij
   obtain rfl := at_j e' he'
   exact (h.rows i e rs' he hr').keep kp (fun _ k _ => k) hg.size
  ·rw [List.getElem?_set_ne (Ne.symm hij)] at he'
   exact (h.rows i e' rs' he' hr').keep kp (fun _ k _ => k) hg.size
 ·by_cases hij : i = j
  ·subst hij
   obtain rfl := at_j e' he'
   obtain rfl : rs = rs' := Option.some.inj (hrs.symm.trans hr')
   have hgw := h.ltW
   exact ⟨(ValsIn.of_own o1 l1).keep (fun _ _ _ => rfl) (fun b hb _ => by have := hb.1; omega) (Nat.le_refl _), (ValsIn.of_own o2 l2).keep (fun _ _ _ => rfl) (fun b hb _ => by have := hb.1; omega) (Nat.le_refl _)⟩
  ·rw [List.getElem?_set_ne (Ne.symm hij)] at he'
   exact ⟨(h.done i e' rs' (by omega) he' hr').1.keep kp (fun _ k _ => k) hg.size, (h.done i e' rs' (by omega) he' hr').2.keep kp (fun _ k _ => k) hg.size⟩
 ·rw [List.getElem?_set_ne (by omega)] at he'
  exact h.todo i e' (by omega) he'
/-- the row of the sort -/
theorem QI.sw (h : QI w0 g cap n ps fI fO j els W) (D : ElP) {κ : Type} {cmp : κ → κ → Int} {key : Nat → κ} {L : List Nat} (hL : Ranks cmp key n L) : SW W g 147 3 cap n (encP fun r => els.getD (oR L r) D) (fR L) W := by
 obtain ⟨cur, b1, b2, b3⟩ := h.blk
 refine ⟨grown_refl _ _, h.ltW, ⟨cur, b1, b2, h.caps, fun i c hi hc => ?_⟩⟩
 have hil : i < els.length := by rw [h.len]; exact hi
 have hei : els[i]? = some els[i] := List.getElem?_eq_getElem hil
 obtain ⟨c0, c1, c2⟩ := b3 i _ hei
 have ee : els.getD (oR L (fR L i)) D = els[i] := by
  rw [hL.oR_fR hi, List.getD_eq_getElem?_getD, hei]; rfl
 simp only [encP, ee]
 match c, hc with
 | 0, _ => exact c0
 | 1, _ => exact c1
 | 2, _ => exact c2
end

/-- lists of values, as they are read -/
structure ValssAt (W : World) (A : Option Addr) (n : Nat) (l : List (List Val)) : Prop where
 len : l.length = n
 at_ : ∀ (j : Nat) (vs : List Val), l[j]? = some vs → ∃ b off B m c, A = some ⟨b, off, none⟩ ∧ b < W.heap.size ∧ W.cell? ⟨b, off + j, none⟩ = some (.slice B m c) ∧ ValsAt W B m vs
theorem ValssAt.below {W W' : World} {A : Option Addr} {n : Nat} {l : List (List Val)} (h : ValssAt W A n l) (hW : Below W.heap.size W W') : ValssAt W' A n l :=
 ⟨h.len, fun j vs hj => by
  obtain ⟨b, off, B, m, c, e, hb, hc, hv⟩ := h.at_ j vs hj
  exact ⟨b, off, B, m, c, e, Nat.lt_of_lt_of_le hb hW.size, (hW.cell (p := ⟨b, off + j, none⟩) hb).trans hc, hv.below hW⟩⟩
theorem ValssAt.nil (W : World) (A : Option Addr) : ValssAt W A 0 [] := ⟨rfl, fun j v h => by simp at h⟩
/-- what the last loop keeps -/
structure VO (w0 : World) (i : Nat) (Ao : Option Addr) (co : Nat) (outs : List (List Val)) (W : World) : Prop where
 old : Below w0.heap.size w0 W
 len : outs.length = i
 row : ∃ vs : List Value, W.ownsRow w0.heap.size 30 1 (.slice Ao i co) i vs ∧ vs.length = i ∧ ∀ (j : Nat) (v : Value) (l : List Val), vs[j]? = some v → outs[j]? = some l → ∃ A m c, v = .slice A m c ∧ ValsAt w0 A m l
theorem VO.zero (w0 : World) : VO w0 0 none 0 [] w0 := ⟨Below.refl _ _, rfl, [], World.ownsRow_nil _ _ _ _, rfl, fun j v l h => by simp at h⟩
theorem VO.keep {w0 W W' : World} {i : Nat} {Ao : Option Addr} {co : Nat} {outs : List (List Val)} (h : VO w0 i Ao co outs W) (hb : Below W.heap.size W W') : VO w0 i Ao co outs W' := by
 obtain ⟨vs, r1, r2, r3⟩ := h.row
 exact ⟨bt hb h.old, h.len, vs, own_below r1 hb, r2, r3⟩
theorem VO.step {w0 W : World} {i : Nat} {Ao : Option Addr} {co : Nat} {outs : List (List Val)} (h : VO w0 i Ao co outs W) (hi : i + 1 ≤ 1000001) {A : Option Addr} {m c : Nat} {l : List Val} (hv : ValsAt w0 A m l) (s : Nat) (z : Blk W s 30 #[.slice A m c]) :
  ∃ An cn w5, (Builtin.append_ #[76, 76] 76 #[.slice Ao i co, .slice (some ⟨s, 0, none⟩) 1 1]).run Tryz.prog W = .ok (.slice An (i + 1) cn) w5 ∧ VO w0 (i + 1) An cn (outs ++ [l]) w5 := by
 obtain ⟨vs, r1, r2, r3⟩ := h.row
 obtain ⟨An, cn, w5, hrun, hown, hg, -⟩ := app_some tValss 76 r1 h.old.size ⟨s, 0, none⟩ 1 1 (by omega) [.slice A m c] rfl (fun j u hj => by
   rw [add_lit0, z.cell j]
   simpa using hj) (fun u hu => by
   simp only [List.mem_cons, List.not_mem_nil, or_false] at hu
   subst hu; rfl) (by unfold maxLen; omega) (by omega)
 have own_lt : ∀ b, (Value.slice Ao i co).ownBlock = some b → w0.heap.size ≤ b ∧ b < W.heap.size := r1.lt
 refine ⟨An, cn, w5, hrun, ⟨hg.os.trans h.old.os, hg.tape.trans h.old.tape, hg.output.trans h.old.output, Nat.le_trans h.old.size hg.size, fun k hk => ?_⟩, by simp [h.len], vs ++ [.slice A m c], hown, by simp [r2], fun j v l' hj hl => ?_⟩
 ·have := h.old.size
  rw [hg.block k (by omega) (fun e => by have := (own_lt k e.symm).1; omega)]
  exact h.old.block k hk
 ·by_cases hc : j < i
  ·rw [List.getElem?_append_left (by rw [r2]; exact hc)] at hj
   rw [List.getElem?_append_left (by rw [h.len]; exact hc)] at hl
   exact r3 j v l' hj hl
  ·have hj' : j = i := by
    have := (List.getElem?_eq_some_iff.1 hj).1
    rw [List.length_append, r2] at this
    simp at this; omega
   subst hj'
   rw [List.getElem?_append_right (by rw [r2]; exact Nat.le_refl _), r2] at hj
   rw [List.getElem?_append_right (by rw [h.len]; exact Nat.le_refl _), h.len] at hl
   obtain rfl : Value.slice A m c = v := by simpa using hj
   obtain rfl : l = l' := by simpa using hl
   exact ⟨A, m, c, rfl, hv⟩
theorem VO.cap {w0 W : World} {i : Nat} {Ao : Option Addr} {co : Nat} {outs : List (List Val)} (h : VO w0 i Ao co outs W) : i ≤ co := by
 obtain ⟨vs, r1, -, -⟩ := h.row
 exact (own_cap r1).2
theorem ValssAt.take {W : World} {A : Option Addr} {n m : Nat} {l : List (List Val)} (h : ValssAt W A n l) (hm : m ≤ n) : ValssAt W A m (l.take m) :=
 ⟨by rw [List.length_take, h.len]; omega, fun j vs hj => by
  have hl := (List.getElem?_eq_some_iff.1 hj).1
  rw [List.length_take] at hl
  rw [List.getElem?_take_of_lt (by omega)] at hj
  exact h.at_ j vs hj⟩
theorem VO.read {w0 W : World} {i : Nat} {Ao : Option Addr} {co : Nat} {outs : List (List Val)} (h : VO w0 i Ao co outs W) : ValssAt W Ao i outs := by
 obtain ⟨vs, r1, r2, r3⟩ := h.row
 refine ⟨h.len, fun j l hj => ?_⟩
 obtain ⟨v, hv⟩ : ∃ v, vs[j]? = some v := ⟨_, List.getElem?_eq_getElem (by rw [r2, ← h.len]; exact (List.getElem?_eq_some_iff.1 hj).1)⟩
 obtain ⟨A, m, c, rfl, ha⟩ := r3 j v l hv hj
 obtain ⟨g, e, hg, -, hc, -⟩ := own_at r1 hv
 exact ⟨g, 0, A, m, c, e, hg, by rw [Nat.zero_add]; exact hc, ha.below h.old⟩

/-- what a query comes to -/
def QueryPost (q : List (List Val) × Option Int) (w : World) (e : Ending) (w' : World) : Prop := ∃ (A : Option Addr) (n c : Nat), e = .returned (.tuple #[.slice A n c, errV q.2]) ∧ Hid (ValssAt w' A n q.1) ∧ Hid (Below w.heap.size w w') ∧ Hid (n ≤ c)

end Go.Proofs.YtbcmmecilheicaaGreatDoor

/- exec.Query: a part told of, whatever is told; its answer's laws. -/
namespace Go.Proofs.YtbcmmecilheicaaGreatDoor
open Go Go.RowKit

abbrev RowL := List (Int × List Val)
/-- what is told of a part -/
def tellsP (ofV : Ex → RowL → Res) (items : List Ex) (ords : List (Ex × Bool)) (rs : RowL) : List Res := items.map (ofV · rs) ++ ords.map (fun o => ofV o.1 rs)
def itsP (ofV : Ex → RowL → Res) (items : List Ex) (rs : RowL) : List Val := items.map fun x => (ofV x rs).1
def ordP (ofV : Ex → RowL → Res) (ords : List (Ex × Bool)) (rs : RowL) : List Val := ords.map fun o => (ofV o.1 rs).1
noncomputable def ranksP (ofV : Ex → RowL → Res) (ords : List (Ex × Bool)) (ps : List RowL) : List Nat := (refGroups (ordCmp (ords.map (·.2))) (fun p => ordP ofV ords (ps.getD p [])) ps.length).flatten
noncomputable def outsP (ofV : Ex → RowL → Res) (items : List Ex) (ords : List (Ex × Bool)) (ps : List RowL) : List (List Val) := (ranksP ofV ords ps).map fun p => itsP ofV items (ps.getD p [])
/-- how the parts of a query are told, ordered, cut -/
noncomputable def queryP (kept : RowL × Option Int) (ps : List RowL) (ofV : Ex → RowL → Res) (items : List Ex) (ords : List (Ex × Bool)) (lim : Int) : List (List Val) × Option Int :=
 match kept.2 with
 | some er => ([], some er)
 | none => match errL (ps.map (tellsP ofV items ords)).flatten with
  | some er => ([], some er)
  | none => (if 0 ≤ lim then (outsP ofV items ords ps).take lim.toNat else outsP ofV items ords ps, none)
theorem queryP_keep {kept : RowL × Option Int} {ps : List RowL} {ofV : Ex → RowL → Res} {items : List Ex} {ords : List (Ex × Bool)} {lim : Int} {er : Int} (h : kept.2 = some er) : queryP kept ps ofV items ords lim = ([], some er) := by
 unfold queryP
 rw [h]
theorem queryP_err {kept : RowL × Option Int} {ps : List RowL} {ofV : Ex → RowL → Res} {items : List Ex} {ords : List (Ex × Bool)} {lim : Int} {er : Int} (h : kept.2 = none) (he : errL (ps.map (tellsP ofV items ords)).flatten = some er) : queryP kept ps ofV items ords lim = ([], some er) := by
 unfold queryP
 rw [h]
 simp only []
 rw [he]
theorem queryP_ok {kept : RowL × Option Int} {ps : List RowL} {ofV : Ex → RowL → Res} {items : List Ex} {ords : List (Ex × Bool)} {lim : Int} (h : kept.2 = none) (he : errL (ps.map (tellsP ofV items ords)).flatten = none) : queryP kept ps ofV items ords lim = (if 0 ≤ lim then (outsP ofV items ords ps).take lim.toNat else outsP ofV items ords ps, none) := by
 unfold queryP
 rw [h]
 simp only []
 rw [he]
theorem errL_append : ∀ (a b : List Res), errL (a ++ b) = match errL a with | some er => some er | none => errL b
 | [], b => rfl
 | (v, some er) :: a, b => rfl
 | (v, none) :: a, b => by
  rw [List.cons_append, errL, errL]
  exact errL_append a b
theorem errL_flat : ∀ {l : List (List Res)} {j : Nat} {t : List Res} {er : Int}, (∀ i u, i < j → l[i]? = some u → errL u = none) → l[j]? = some t → errL t = some er → errL l.flatten = some er
 | [], _, _, _, _, h, _ => by simp at h
 | u :: l, 0, t, er, _, h, he => by
  obtain rfl : u = t := by simpa using h
  rw [List.flatten_cons, errL_append, he]
 | u :: l, j + 1, t, er, hn, h, he => by
  rw [List.flatten_cons, errL_append, hn 0 u (by omega) rfl]
  rw [List.getElem?_cons_succ] at h
  exact errL_flat (l := l) (j := j) (fun i w hi hw => hn (i + 1) w (by omega) (by rw [List.getElem?_cons_succ]; exact hw)) h he
theorem errL_flat_none : ∀ {l : List (List Res)}, (∀ u ∈ l, errL u = none) → errL l.flatten = none
 | [], _ => rfl
 | u :: l, h => by
  rw [List.flatten_cons, errL_append, h u List.mem_cons_self]
  exact errL_flat_none (l := l) fun w hw => h w (List.mem_cons_of_mem _ hw)

/-- the ranks of a query's parts -/
theorem ranks_of (ofV : Ex → RowL → Res) (ords : List (Ex × Bool)) (ps : List RowL) : Ranks (ordCmp (ords.map (·.2))) (fun p => ordP ofV ords (ps.getD p [])) ps.length (ranksP ofV ords ps) :=
 (ginv_ref (totO _) ps.length).ranks (totO _)
theorem outs_at (ofV : Ex → RowL → Res) (items : List Ex) (ords : List (Ex × Bool)) (ps : List RowL) {i : Nat} (hi : i < ps.length) : (outsP ofV items ords ps)[i]? = some (itsP ofV items (ps.getD (oR (ranksP ofV ords ps) i) [])) := by
 have hL := ranks_of ofV ords ps
 unfold outsP
 rw [List.getElem?_map, oR_at (by rw [hL.len]; exact hi)]
 rfl
theorem outs_len (ofV : Ex → RowL → Res) (items : List Ex) (ords : List (Ex × Bool)) (ps : List RowL) : (outsP ofV items ords ps).length = ps.length := by
 unfold outsP
 rw [List.length_map]
 exact (ranks_of ofV ords ps).len

/-- what runner.of is asked for -/
def OfC (x : Value) (w : World) (ofV : Ex → RowL → Res) (y : Ex) (rs : RowL) : Prop := ∀ W, Below w.heap.size w W → ∀ (RA : Option Addr) (rn rc : Nat) (i1 : Option Addr) (n1 c1 : Nat) (i2 : Option Addr) (n2 c2 : Nat) (A : Option Addr) (n c : Nat), RowsAt W RA rn rs → ExIs W y A n c →
 Calls Tryz.prog 93 #[x, .agg #[.slice RA rn rc, .slice i1 n1 c1, .slice i2 n2 c2], .agg #[.string y.op, .int .i64 y.kind, .int .i64 y.col, .int .i64 y.val.kind, .int .i64 y.val.int, .string y.val.text, .bool y.val.bool, .slice A n c]] W fun e w' => e = .returned (resV (ofV y rs)) ∧ Hid (Below W.heap.size W w')

theorem grown_old {w W W' : World} {g : Nat} (h : Below w.heap.size w W) (hg : W.grownBy W' (some g)) (hgB : w.heap.size ≤ g) : Below w.heap.size w W' :=
 ⟨hg.os.trans h.os, hg.tape.trans h.tape, hg.output.trans h.output, Nat.le_trans h.size hg.size, fun k hk => by
  rw [hg.block k (Nat.lt_of_lt_of_le hk h.size) (fun e => by injection e with e; omega)]
  exact h.block k hk⟩
/-- a part told of, in the loop -/
theorem query_tell {w : World} {tb : ByteArray} {T1 : Option Addr} {t1 u1 : Nat} {IA : Option Addr} {n1 u2 : Nat} {T3 : Option Addr} {t3 u3 : Nat} {T4 : Option Addr} {t4 u4 : Nat} {OA : Option Addr} {n2 u5 : Nat} {lim : Int} {ag : Bool} {T8 : Option Addr} {t8 u8 : Nat} {LA : Option Addr} {ln lc : Nat}
  {items : List Ex} {ords : List (Ex × Bool)} (hIt : ExsAt w IA n1 items) (hOr : OrdsAt w OA n2 ords) (hm1 : n1 ≤ 3518437208881) (hm2 : n2 ≤ 3518437208881) {ofV : Ex → RowL → Res} {ps : List RowL}
  (hOf : ∀ x rows, (x ∈ items ∨ x ∈ ords.map (·.1)) → rows ∈ ps → OfC (.agg #[.string tb, .slice T1 t1 u1, .slice IA n1 u2, .slice T3 t3 u3, .slice T4 t4 u4, .slice OA n2 u5, .int .i64 lim, .bool ag, .slice T8 t8 u8, .slice LA ln lc]) w ofV x rows)
  {w4 : World} (h4 : Below w.heap.size w w4) {g cap n j : Nat} (hgB : w.heap.size ≤ g) {els : List ElP} {wr : World} (I : QI w4 g cap n ps (itsP ofV items) (ordP ofV ords) j els wr) {rs : RowL} (hrs : ps[j]? = some rs) (hn : n = ps.length) :
  Calls Tryz.prog 57 #[.agg #[.string tb, .slice T1 t1 u1, .slice IA n1 u2, .slice T3 t3 u3, .slice T4 t4 u4, .slice OA n2 u5, .int .i64 lim, .bool ag, .slice T8 t8 u8, .slice LA ln lc], .pointer (some ⟨g, j * 3, none⟩)] wr
   fun e w' => e = .returned (errV (errL (tellsP ofV items ords rs))) ∧ Hid (errL (tellsP ofV items ords rs) = none → ∃ els', QI w4 g cap n ps (itsP ofV items) (ordP ofV ords) (j + 1) els' w') ∧ Hid (wr.grownBy w' (some g)) := by
 have hjn : j < n := by rw [hn]; exact (List.getElem?_eq_some_iff.1 hrs).1
 obtain ⟨e, he⟩ : ∃ e, els[j]? = some e := ⟨_, List.getElem?_eq_getElem (by rw [I.len]; exact hjn)⟩
 obtain ⟨cur, b1, b2, b3⟩ := I.blk
 obtain ⟨c0, c1, c2⟩ := b3 j e he
 obtain ⟨a1, a2, a3, a4, a5, a6⟩ := I.todo j e (Nat.le_refl _) he
 rw [a1, a2, a3] at c1
 rw [a4, a5, a6] at c2
 have hmem : rs ∈ ps := List.mem_of_getElem? hrs
 have hww : ∀ W, wr.grownBy W (some g) → Below w.heap.size w W := fun W hW => by
  have h := grown_two I.grown hW
  exact ⟨h.os.trans h4.os, h.tape.trans h4.tape, h.output.trans h4.output, Nat.le_trans h4.size h.size, fun k hk => by
   rw [h.block k (Nat.lt_of_lt_of_le hk h4.size) (fun e => by injection e with e; omega), h4.block k hk]⟩
 have hr0 := hww wr (grown_refl _ _)
 have rowsW : ∀ W, wr.grownBy W (some g) → RowsAt W e.a e.n rs := fun W hW => ((I.rows j e rs he hrs).keep (S' := fun _ => True) (fun b hb hl => hW.block b hl (fun x => hb (by injection x))) (fun _ _ _ => trivial) hW.size).is
 have key := tell30 wr tb T1 t1 u1 IA n1 u2 T3 t3 u3 T4 t4 u4 OA n2 u5 lim ag T8 t8 u8 LA ln lc g (j * 3) cur b1 e.a e.n e.c c0 c1 c2 (items.map (ofV · rs)) (ords.map fun o => ofV o.1 rs) (by rw [List.length_map]; exact hIt.len) (by rw [List.length_map]; exact hOr.len) hm1 hm2
  (fun k r hk => by
   rw [List.getElem?_map] at hk
   obtain ⟨x, hx, rfl⟩ := Option.map_eq_some_iff.1 hk
   obtain ⟨b, off, Ae, ne, ce, e1, hb, hc, hi⟩ := hIt.at_ k x hx
   exact ⟨b, off, x, Ae, ne, ce, e1, Nat.lt_of_lt_of_le hb hr0.size, by omega, hc.below hb hr0, fun W hW i1 m1 c1 i2 m2 c2 => hOf x rs (.inl (List.mem_of_getElem? hx)) hmem W (hww W hW) e.a e.n e.c i1 m1 c1 i2 m2 c2 Ae ne ce (rowsW W hW) (hi.bel (hww W hW))⟩)
  (fun k r hk => by
   rw [List.getElem?_map] at hk
   obtain ⟨x, hx, rfl⟩ := Option.map_eq_some_iff.1 hk
   obtain ⟨b, off, Ae, ne, ce, e1, hb, hc, hi, -⟩ := hOr.at_ k x hx
   exact ⟨b, off, x.1, Ae, ne, ce, e1, Nat.lt_of_lt_of_le hb hr0.size, by omega, hc.below hb hr0, fun W hW i1 m1 c1 i2 m2 c2 => hOf x.1 rs (.inr (List.mem_map.2 ⟨x, List.mem_of_getElem? hx, rfl⟩)) hmem W (hww W hW) e.a e.n e.c i1 m1 c1 i2 m2 c2 Ae ne ce (rowsW W hW) (hi.bel (hww W hW))⟩)
  (fun k hk => by
   obtain ⟨x, hx⟩ : ∃ x, ords[k]? = some x := ⟨_, List.getElem?_eq_getElem (by rw [hOr.len]; exact hk)⟩
   obtain ⟨b, off, Ae, ne, ce, e1, hb, -, -, hd⟩ := hOr.at_ k x hx
   exact ⟨b, off, x.2, e1, (hr0.cell (p := ⟨b, off + k * 9 + 8, none⟩) hb).trans hd⟩)
 refine key.mono ?_
 rintro ev w' ⟨h1, h2, h3⟩
 refine ⟨h1, Lib.hid (fun hno => ?_), h2⟩
 obtain ⟨An, cn, Bn, dn, cur', k1, k2, k3, k4, k5, o1, o2⟩ := h3.out hno
 have e1 : (items.map (ofV · rs)).map (·.1) = itsP ofV items rs := by simp [itsP]
 have e2 : (ords.map fun o => ofV o.1 rs).map (·.1) = ordP ofV ords rs := by simp [ordP]
 rw [e1] at o1
 rw [e2] at o2
 exact ⟨_, I.step he hrs b1 h2.out k1 k2 k3 k4 k5 o1 (by simp [itsP]) o2 (by simp [ordP])⟩

end Go.Proofs.YtbcmmecilheicaaGreatDoor

/- exec.Query, over whatever contracts of parts and of runner.of. -/
namespace Go.Proofs.YtbcmmecilheicaaGreatDoor
open Go Go.RowKit

set_option maxRecDepth 100000 in
set_option maxHeartbeats 16000000 in
theorem query15 (w : World) (tb : ByteArray) (T1 : Option Addr) (t1 u1 : Nat) (IA : Option Addr) (n1 u2 : Nat) (WA : Option Addr) (wn wc : Nat) (GA : Option Addr) (gn gc : Nat) (OA : Option Addr) (n2 u5 : Nat) (lim : Int) (ag : Bool) (RA : Option Addr) (rn rc : Nat) (LA : Option Addr) (ln lc : Nat)
  (rs : RowL) (lb : List ByteArray) (wh : List Ex) (hr : RowsAt w RA rn rs) (hrn : rn ≤ 65536) (htx : RowsTx rs) (hwh : ExsAt w WA wn wh) (hwn : wn ≤ 1466015503701) (hlb : StrsAt w LA ln lb) (hlt : ∀ z ∈ lb, z.size ≤ TB)
  (items : List Ex) (ords : List (Ex × Bool)) (hIt : ExsAt w IA n1 items) (hOr : OrdsAt w OA n2 ords) (hm1 : n1 ≤ 3518437208881) (hm2 : n2 ≤ 3518437208881) (hlim0 : -9223372036854775808 ≤ lim) (hlim1 : lim ≤ 9223372036854775807)
  (ofV : Ex → RowL → Res) (ps : List RowL) (hps : ps.length ≤ 65536)
  (hP : ∀ W (A : Option Addr) (k c : Nat), Below w.heap.size w W → RowsAt W A k (keepP lb wh rs).1 → k ≤ c → k ≤ rs.length → Calls Tryz.prog 56 #[.agg #[.string tb, .slice T1 t1 u1, .slice IA n1 u2, .slice WA wn wc, .slice GA gn gc, .slice OA n2 u5, .int .i64 lim, .bool ag, .slice A k c, .slice LA ln lc]] W (PartsPost ps W))
  (hOf : ∀ (A : Option Addr) (k c : Nat) x rows, (x ∈ items ∨ x ∈ ords.map (·.1)) → rows ∈ ps → OfC (.agg #[.string tb, .slice T1 t1 u1, .slice IA n1 u2, .slice WA wn wc, .slice GA gn gc, .slice OA n2 u5, .int .i64 lim, .bool ag, .slice A k c, .slice LA ln lc]) w ofV x rows) :
  Calls Tryz.prog 19 #[.agg #[.string tb, .slice T1 t1 u1, .slice IA n1 u2, .slice WA wn wc, .slice GA gn gc, .slice OA n2 u5, .int .i64 lim, .bool ag], .slice RA rn rc, .slice LA ln lc] w (QueryPost (queryP (keepP lb wh rs) ps ofV items ords lim) w) := by
 obtain ⟨w1, hw1⟩ : ∃ z, z = w.alloc (.cells #[.string tb, .slice T1 t1 u1, .slice IA n1 u2, .slice WA wn wc, .slice GA gn gc, .slice OA n2 u5, .int .i64 lim, .bool ag] 74) := ⟨_, rfl⟩
 have B1 := Lib.hid (show Below w.heap.size w w1 by rw [hw1]; exact below_alloc _ _)
 have Z1 := Lib.hid (show Blk w1 w.heap.size 74 #[.string tb, .slice T1 t1 u1, .slice IA n1 u2, .slice WA wn wc, .slice GA gn gc, .slice OA n2 u5, .int .i64 lim, .bool ag] by rw [hw1]; exact Blk.new w 74 _)
 have CF := Lib.hid (filter28 w1 WA wn wc wh (hwh.below B1.out) hwn RA rn rc rs (hr.below B1.out) (by omega) htx lb LA ln lc (hlb.below B1.out) hlt)
 have HP := Lib.hid hP
 have HOF := Lib.hid hOf
 have HIT := Lib.hid hIt
 have HOR := Lib.hid hOr
 have HPS := Lib.hid hps
 have hrn2 : ¬ (65536 : Int) < (rn : Int) := by omega
 clear hP hOf hIt hOr hr htx hwh hlb hlt hps
 obtain ⟨⟨krs, ke⟩, hke⟩ : ∃ q, q = keepP lb wh rs := ⟨_, rfl⟩
 unfold KeepPost at CF
 rw [← hke] at CF HP ⊢
 clear hke
 have z3 := Z1.out.cell 3
 have hs1 := Z1.out.lt
 go_enter Tryz.func19, Tryz.ntmps19
 go_wp2_with fail
 rw [← hw1]
 clear hw1
 refine CF.out.mono ?_
 clear CF z3
 rintro e w2 ⟨A, k, c, rfl, hk, hkc, hrows, hb⟩
 simp only [] at hrows ⊢
 have B2 := Lib.hid (bt hb.out B1.out)
 have Z2 := Lib.hid (Z1.out.below hb.out)
 have HROWS := hrows
 have HK := Lib.hid (And.intro hk hkc)
 clear hb hrows hk hkc hrn2
 have zc := Z2.out.cell
 have z0 := zc 0
 have z1 := zc 1
 have z2 := zc 2
 have z3 := zc 3
 have z4 := zc 4
 have z5 := zc 5
 have z6 := zc 6
 have z7 := zc 7
 have hs2 := Z2.out.lt
 clear zc
 cases ke with
 | some er =>
  simp only [errV]
  go_wp2_with fail
  go_ret2
  exact ⟨none, 0, 0, by rw [queryP_keep (er := er) rfl]; rfl, Lib.hid (by rw [queryP_keep (er := er) rfl]; exact ValssAt.nil _ _), B2, Lib.hid (Nat.le_refl 0)⟩
 | none =>
  simp only [errV]
  go_upto_region 7 with fail
  obtain ⟨w3, hw3⟩ : ∃ z, z = w2.alloc (.cells #[.string tb, .slice T1 t1 u1, .slice IA n1 u2, .slice WA wn wc, .slice GA gn gc, .slice OA n2 u5, .int .i64 lim, .bool ag, .slice A k c, .slice LA ln lc] 141) := ⟨_, rfl⟩
  have B3 := Lib.hid (show Below w.heap.size w w3 by rw [hw3]; exact bt (below_alloc _ _) B2.out)
  have Z3 := Lib.hid (show Blk w3 w.heap.size 74 _ by rw [hw3]; exact Z2.out.alloc _)
  have Y3 := Lib.hid (show Blk w3 w2.heap.size 141 #[.string tb, .slice T1 t1 u1, .slice IA n1 u2, .slice WA wn wc, .slice GA gn gc, .slice OA n2 u5, .int .i64 lim, .bool ag, .slice A k c, .slice LA ln lc] by rw [hw3]; exact Blk.new w2 141 _)
  have HR3 := Lib.hid (show RowsAt w3 A k krs by rw [hw3]; exact HROWS.out.below (below_alloc _ _))
  rw [← hw3]
  clear hw3 z0 z1 z2 z3 z4 z5 z6 z7
  have CP := Lib.hid (HP.out w3 A k c B3.out HR3.out HK.out.2 HK.out.1)
  unfold PartsPost at CP
  have zc := Y3.out.cell
  have y0 := zc 0
  have y1 := zc 1
  have y2 := zc 2
  have y3 := zc 3
  have y4 := zc 4
  have y5 := zc 5
  have y6 := zc 6
  have y7 := zc 7
  have y8 := zc 8
  have y9 := zc 9
  have hs3 := Y3.out.lt
  clear zc
  go_wp2_with fail
  refine CP.out.mono ?_
  clear CP y0 y1 y2 y3 y4 y5 y6 y7 y8 y9 hs3
  rintro e w4 ⟨PA, n, pc, gs, rfl, hn, h0, hgl, hown, hrw, hb4⟩
  have B4 := Lib.hid (bt hb4.out B3.out)
  have Z4 := Lib.hid (Z3.out.below hb4.out)
  have Y4 := Lib.hid (Y3.out.below hb4.out)
  have hs4 := hb4.out.size
  clear hb4
  rcases Nat.eq_zero_or_pos n with hn0 | hn0
  ·obtain ⟨rfl, rfl⟩ := h0.out hn0
   subst hn0
   obtain rfl : ps = [] := List.eq_nil_of_length_eq_zero hn.out.symm
   have EE := Lib.hid (show queryP (krs, none) [] ofV items ords lim = ([], none) by
    rw [queryP_ok (kept := (krs, none)) (ofV := ofV) (items := items) (ords := ords) (lim := lim) rfl rfl]
    have e : outsP ofV items ords [] = [] := rfl
    rw [e, List.take_nil, ite_self])
   clear hn h0 hgl hown hrw
   have zc := Y4.out.cell
   have y0 := zc 0
   have y1 := zc 1
   have y2 := zc 2
   have y3 := zc 3
   have y4 := zc 4
   have y5 := zc 5
   have y6 := zc 6
   have y7 := zc 7
   have y8 := zc 8
   have y9 := zc 9
   have hs5 := Y4.out.lt
   clear zc
   go_wp2_with fail
   refine wp_loop_rounds 1 ?_
   rw [rounds_succ]
   go_wp2_with fail
   refine (sortStable31_nil _ _).mono ?_
   rintro e w6 ⟨rfl, rfl⟩
   clear y0 y1 y2 y3 y4 y5 y6 y7 y8 y9
   have z6 := Z4.out.cell 6
   have hs6 := Z4.out.lt
   rcases (show lim < 0 ∨ 0 ≤ lim by omega) with hl | hl
   ·have hl3 : decide ((0 : Int) ≤ lim) = false := decide_eq_false (by omega)
    clear hl
    go_upto_region 18 with fail
    clear z6
    go_wp2_with fail
    refine wp_loop_rounds 1 ?_
    rw [rounds_succ]
    go_wp2_with fail
    go_ret2
    exact ⟨none, 0, 0, by rw [EE.out]; rfl, Lib.hid (by rw [EE.out]; exact ValssAt.nil _ _), B4, Lib.hid (Nat.le_refl 0)⟩
   ·obtain ⟨q, rfl⟩ : ∃ q : Nat, lim = q := ⟨lim.toNat, by omega⟩
    have hq9 : (q : Int) ≤ 9223372036854775807 := hlim1
    have hq0 : (0 : Int) ≤ (q : Int) := by omega
    rcases Nat.eq_zero_or_pos q with hqz | hqz
    ·subst hqz
     go_upto_region 18 with fail
     clear z6
     go_wp2_with fail
     refine wp_loop_rounds 1 ?_
     rw [rounds_succ]
     go_wp2_with fail
     go_ret2
     exact ⟨none, 0, 0, by rw [EE.out]; rfl, Lib.hid (by rw [EE.out]; exact ValssAt.nil _ _), B4, Lib.hid (Nat.le_refl 0)⟩
    ·have hqi : (0 : Int) < (q : Int) := by omega
     go_upto_region 18 with fail
     clear z6
     go_wp2_with fail
     refine wp_loop_rounds 1 ?_
     rw [rounds_succ]
     go_wp2_with fail
     go_ret2
     exact ⟨none, 0, 0, by rw [EE.out]; rfl, Lib.hid (by rw [EE.out]; exact ValssAt.nil _ _), B4, Lib.hid (Nat.le_refl 0)⟩
  ·obtain ⟨e0, he0⟩ : ∃ e, gs[0]? = some e := ⟨_, List.getElem?_eq_getElem (by rw [hgl.out]; exact hn0)⟩
   obtain ⟨g, rfl, hg4, hgB, -, -⟩ := own_at hown.out (j := 0 * 3) (pcells_at he0).1
   have QZ := Lib.hid (QI.zero hn.out hgl.out hown.out hrw.out (itsP ofV items) (ordP ofV ords))
   have hgw : w.heap.size ≤ g := Nat.le_trans B3.out.size hgB
   have hgr : w2.heap.size < g := Nat.lt_of_lt_of_le Y3.out.lt hgB
   have hn65 : n ≤ 65536 := by rw [hn.out]; exact HPS.out
   have hni : (n : Int) < 65537 := by omega
   clear hgl hown hrw h0 he0
   go_wp2_with fail
   go_loopg [40] n (fun kx s40 wr => ∃ j : Nat, s40 = .int .i64 j ∧ kx + j = n ∧ Hid ((∃ els, QI w4 g pc n ps (itsP ofV items) (ordP ofV ords) j els wr) ∧ ∀ i rs', i < j → ps[i]? = some rs' → errL (tellsP ofV items ords rs') = none))
   case atStart => exact ⟨0, rfl, rfl, Lib.hid ⟨⟨gs, QZ.out⟩, fun i rs' h => absurd h (Nat.not_lt_zero _)⟩⟩
   case round =>
    obtain ⟨j, rfl, hkj, I⟩ := hrel
    have hji : (j : Int) < 65538 := by omega
    have hj0 : (0 : Int) ≤ (j : Int) := by omega
    by_cases hj : j < n
    ·have hjz : (j : Int) < (n : Int) := by omega
     obtain ⟨rs', hrs⟩ : ∃ r, ps[j]? = some r := ⟨_, List.getElem?_eq_getElem (by rw [← hn.out]; exact hj)⟩
     obtain ⟨⟨els, q0⟩, hno⟩ := I.out
     have QQ := Lib.hid q0
     have NO := Lib.hid hno
     have HRS := Lib.hid hrs
     have Y5 := Lib.hid (blk_grown Y4.out q0.grown (by omega))
     have CT := Lib.hid (fun W (hW : Below wr.heap.size wr W) => query_tell HIT.out HOR.out hm1 hm2 (fun x rows h1 h2 => HOF.out A k c x rows h1 h2) B4.out hgw (QQ.out.keep hW) hrs hn.out)
     have BW := Lib.hid (grown_old B4.out q0.grown hgw)
     clear I q0 hno hrs
     go_upto_region 11 with fail
     have zc := Y5.out.cell
     have y0 := zc 0
     have y1 := zc 1
     have y2 := zc 2
     have y3 := zc 3
     have y4 := zc 4
     have y5 := zc 5
     have y6 := zc 6
     have y7 := zc 7
     have y8 := zc 8
     have y9 := zc 9
     have hs5 := Y5.out.lt
     clear zc
     go_cut [13] from 43 to 47 (fun s13 wx => s13 = errV (errL (tellsP ofV items ords rs')) ∧ Hid (errL (tellsP ofV items ords rs') = none → ∃ els', QI w4 g pc n ps (itsP ofV items) (ordP ofV ords) (j + 1) els' wx) ∧ Hid (Below w.heap.size w wx))
     case first =>
      go_region_law (first | (go_simp; go_at_call 57; refine (CT.out _ ?_).mono ?_; · go_grown
                              rintro e2 w5 ⟨rfl, h5, h6⟩; have b6 := Lib.hid (grown_old (bt (show Below wr.heap.size wr _ by go_grown) BW.out) h6.out hgw); clear h6))
      all_goals
       go_wp2_with fail
       go_meet
       case rel => exact ⟨rfl, h5, b6⟩
     case rest =>
      obtain ⟨rfl, H1, H2⟩ := hcut
      clear y0 y1 y2 y3 y4 y5 y6 y7 y8 y9 CT QQ
      obtain ⟨er, her⟩ : ∃ q, q = errL (tellsP ofV items ords rs') := ⟨_, rfl⟩
      rw [← her] at H1 ⊢
      cases er with
      | some er =>
       have EE := Lib.hid (queryP_err (kept := (krs, none)) (ofV := ofV) (items := items) (ords := ords) (lim := lim) rfl (errL_flat (l := ps.map (tellsP ofV items ords)) (j := j) (fun i u hi hu => by
        rw [List.getElem?_map] at hu
        obtain ⟨x, hx, rfl⟩ := Option.map_eq_some_iff.1 hu
        exact NO.out i x hi hx) (by rw [List.getElem?_map, HRS.out]; rfl) her.symm))
       clear her
       simp only [errV]
       go_wp2_with fail
       go_ret2
       exact ⟨none, 0, 0, by rw [EE.out]; rfl, Lib.hid (by rw [EE.out]; exact ValssAt.nil _ _), H2, Lib.hid (Nat.le_refl 0)⟩
      | none =>
       have NX := Lib.hid (And.intro (H1.out rfl) (fun i r (hi : i < j + 1) (hr : ps[i]? = some r) => show errL (tellsP ofV items ords r) = none by
        rcases Nat.lt_or_ge i j with h | h
        ·exact NO.out i r h hr
        ·obtain rfl : i = j := by omega
         obtain rfl := Option.some.inj (hr.symm.trans HRS.out)
         exact her.symm))
       clear her H1
       simp only [errV]
       go_wp2_with fail
       go_roundg (gk - 1)
       case measure => omega
       case rel => exact ⟨j + 1, by first | rfl | (simp; done), by omega, NX⟩
    ·have hjz : ¬ (j : Int) < (n : Int) := by omega
     obtain rfl : j = n := by omega
     obtain ⟨⟨els, q0⟩, hno⟩ := I.out
     obtain ⟨n, rfl⟩ : ∃ x, x = j := ⟨_, rfl⟩
     have ee : errL (ps.map (tellsP ofV items ords)).flatten = none := errL_flat_none fun u hu => by
      obtain ⟨x, hx, rfl⟩ := List.mem_map.1 hu
      obtain ⟨i, hi⟩ := List.getElem?_of_mem hx
      exact hno i x (by rw [hn.out]; exact (List.getElem?_eq_some_iff.1 hi).1) hi
     have EE := Lib.hid (queryP_ok (kept := (krs, none)) (ofV := ofV) (items := items) (ords := ords) (lim := lim) rfl ee)
     have hL := ranks_of ofV ords ps
     rw [← hn.out] at hL
     obtain ⟨L, hLe⟩ : ∃ L, L = ranksP ofV ords ps := ⟨_, rfl⟩
     rw [← hLe] at hL
     have hS := q0.sw ⟨none, 0, 0, none, 0, 0, none, 0, 0⟩ hL
     obtain ⟨el, hel⟩ : ∃ el : Nat → ElP, el = fun r => els.getD (oR L r) ⟨none, 0, 0, none, 0, 0, none, 0, 0⟩ := ⟨_, rfl⟩
     rw [← hel] at hS
     have HEL : ∀ r, r < n → els[oR L r]? = some (el r) ∧ ps[oR L r]? = some (ps.getD (oR L r) []) := fun r hr => by
      have hlt := hL.oR_lt hr
      refine ⟨?_, ?_⟩
      ·rw [hel]
       show _ = some (els.getD (oR L r) _)
       rw [List.getD_eq_getElem?_getD, List.getElem?_eq_getElem (by rw [q0.len]; exact hlt)]; rfl
      ·rw [List.getD_eq_getElem?_getD, List.getElem?_eq_getElem (by rw [← hn.out]; exact hlt)]; rfl
     have DONE : ∀ W, wr.grownBy W (some g) → ∀ r, r < n → ValsAt W (el r).a' (el r).n' (itsP ofV items (ps.getD (oR L r) [])) ∧ ValsAt W (el r).a2 (el r).n2 (ordP ofV ords (ps.getD (oR L r) [])) := fun W hW r hr => by
      obtain ⟨k1, k2⟩ := HEL r hr
      obtain ⟨d1, d2⟩ := q0.done _ _ _ (hL.oR_lt hr) k1 k2
      exact ⟨(d1.keep (S' := fun _ => True) (fun b hb hl => hW.block b hl (fun x => hb (by injection x))) (fun _ _ _ => trivial) hW.size).is, (d2.keep (S' := fun _ => True) (fun b hb hl => hW.block b hl (fun x => hb (by injection x))) (fun _ _ _ => trivial) hW.size).is⟩
     have LEN : ∀ r, r < n → (el r).n2 = n2 := fun r hr => by
      have := (DONE wr (grown_refl _ _) r hr).2.len
      rw [← this, ordP, List.length_map]
      exact HOR.out.len
     have HC : CmpP (.agg #[.string tb, .slice T1 t1 u1, .slice IA n1 u2, .slice WA wn wc, .slice GA gn gc, .slice OA n2 u5, .int .i64 lim, .bool ag, .slice A k c, .slice LA ln lc]) wr g n el (oR L) (fun r s => ordCmp (ords.map (·.2)) (ordP ofV ords (ps.getD (oR L r) [])) (ordP ofV ords (ps.getD (oR L s) []))) := ⟨fun W hW r s hr hs => before32 W _ _ _ _ _ _ _ _ _ _ _ _ _ _ _ _ _ _ _ _ _ _ _ _ (el r) (el s) ords (HOR.out.below (grown_old (grown_old B4.out q0.grown hgw) hW hgw)) hm2 _ _ (DONE W hW r hr).2 (DONE W hW s hs).2 (LEN r hr) (LEN s hs), fun r s hr hs ho => hL.lt (totO _) hr hs ho⟩
     have CS := Lib.hid (sortStable31 _ wr g pc n el (oR L) _ HC (by omega) (fR L) (fun k hk => hL.fR_lt hk) wr hS (fun k hk => hL.oR_fR hk))
     have FINW := Lib.hid (fun (W : World) (hW : ∃ F, SW wr g 147 3 pc n (encP el) F W ∧ ∀ k, k < n → F k = k) => show Below w.heap.size w W ∧ wr.grownBy W (some g) ∧ ∀ i l, (outsP ofV items ords ps)[i]? = some l → ∃ e : ElP, W.cell? ⟨g, i * 3, none⟩ = some (.slice e.a e.n e.c) ∧ W.cell? ⟨g, i * 3 + 1, none⟩ = some (.slice e.a' e.n' e.c') ∧ W.cell? ⟨g, i * 3 + 2, none⟩ = some (.slice e.a2 e.n2 e.c2) ∧ ValsAt W e.a' e.n' l by
      obtain ⟨F, hF, hFk⟩ := hW
      refine ⟨grown_old (grown_old B4.out q0.grown hgw) hF.grown hgw, hF.grown, fun i l hl => ?_⟩
      have hi : i < n := by
       have := (List.getElem?_eq_some_iff.1 hl).1
       rw [outs_len, ← hn.out] at this; exact this
      have e1 := outs_at ofV items ords ps (i := i) (by rw [← hn.out]; exact hi)
      rw [hl, ← hLe] at e1
      obtain rfl := Option.some.inj e1
      have c0 := hF.cell (i := i) (c := 0) hi (by omega)
      have c1 := hF.cell (i := i) (c := 1) hi (by omega)
      have c2 := hF.cell (i := i) (c := 2) hi (by omega)
      rw [hFk i hi] at c0 c1 c2
      exact ⟨el i, c0, c1, c2, (DONE W hF.grown i hi).1⟩)
     have Y5 := Lib.hid (blk_grown Y4.out q0.grown (by omega))
     have Z5 := Lib.hid (blk_grown Z4.out q0.grown (by omega))
     have hpc := Lib.hid q0.caps.1
     have hgr4 := Lib.hid q0.grown.size
     clear I q0 hno ee hL hLe hS hel HEL DONE LEN HC QZ
     have zc := Y5.out.cell
     have y0 := zc 0
     have y1 := zc 1
     have y2 := zc 2
     have y3 := zc 3
     have y4 := zc 4
     have y5 := zc 5
     have y6 := zc 6
     have y7 := zc 7
     have y8 := zc 8
     have y9 := zc 9
     have hs5 := Y5.out.lt
     clear zc
     go_wp2_with fail
     refine CS.out.mono ?_
     clear CS y0 y1 y2 y3 y4 y5 y6 y7 y8 y9 hs5
     rintro e w6 ⟨rfl, h6⟩
     obtain ⟨b6, g6, fin⟩ := FINW.out w6 h6.out
     have B6 := Lib.hid b6
     have FIN := Lib.hid fin
     have z6 := (blk_grown Z5.out g6 (by omega)).cell 6
     have hs6 := (blk_grown Z5.out g6 (by omega)).lt
     have hlen := outs_len ofV items ords ps
     rw [← hn.out] at hlen
     have HLEN := Lib.hid hlen
     have hpc0 := hpc.out
     have hg6 : g < w6.heap.size := Nat.lt_of_lt_of_le (Nat.lt_of_lt_of_le hg4 hgr4.out) g6.size
     clear FINW h6 b6 g6 fin Y5 Z5 hlen
     rcases (show lim < 0 ∨ 0 ≤ lim by omega) with hl | hl
     ·have hl2 : ¬ (0 : Int) ≤ lim := by omega
      have hl3 : decide ((0 : Int) ≤ lim) = false := decide_eq_false hl2
      have HQ := Lib.hid (show queryP (krs, none) ps ofV items ords lim = ((outsP ofV items ords ps).take n, none) by
       rw [EE.out, if_neg hl2, List.take_of_length_le (by rw [HLEN.out]; exact Nat.le_refl _)])
      have hmn := Nat.le_refl n
      clear hl hl2
      go_upto_region 18 with fail
      clear z6
      have hmi : (n : Int) < 65538 := by omega
      go_wp2_with fail
      go_loopg [14, 68] n (fun kx s14 s68 wr => ∃ (i : Nat) (Ao : Option Addr) (co : Nat), s14 = .slice Ao i co ∧ s68 = .int .i64 i ∧ kx + i = n ∧ Hid (VO w6 i Ao co ((outsP ofV items ords ps).take i) wr))
      case atStart => exact ⟨0, none, 0, rfl, rfl, by omega, Lib.hid (by rw [List.take_zero]; exact VO.zero w6)⟩
      case round =>
       obtain ⟨i, Ao, co, rfl, rfl, hki, V⟩ := hrel
       have hii : (i : Int) < 65539 := by omega
       have hi0 : (0 : Int) ≤ (i : Int) := by omega
       by_cases hi : i < n
       ·have hiz : (i : Int) < (n : Int) := by omega
        obtain ⟨l, hl⟩ : ∃ l, (outsP ofV items ords ps)[i]? = some l := ⟨_, List.getElem?_eq_getElem (by rw [HLEN.out]; omega)⟩
        obtain ⟨e, c0, c1, c2, hv⟩ := FIN.out i l hl
        have hgz := Nat.lt_of_lt_of_le hg6 V.out.old.size
        have x0 := (V.out.old.cell (p := ⟨g, i * 3, none⟩) hg6).trans c0
        have x1 := (V.out.old.cell (p := ⟨g, i * 3 + 1, none⟩) hg6).trans c1
        have x2 := (V.out.old.cell (p := ⟨g, i * 3 + 2, none⟩) hg6).trans c2
        have b7 : Below wr.heap.size wr ((wr.alloc (.cells #[.slice e.a e.n e.c, .slice e.a' e.n' e.c', .slice e.a2 e.n2 e.c2] 147)).alloc (.cells #[.slice e.a' e.n' e.c'] 30)) := bt (below_alloc _ _) (below_alloc _ _)
        obtain ⟨An, cn, w7, hrun, hvo⟩ := (V.out.keep b7).step (by omega) hv (wr.heap.size + 1) (blk_new' (w := wr.alloc _) rfl (by simp))
        have e2 : (outsP ofV items ords ps).take i ++ [l] = (outsP ofV items ords ps).take (i + 1) := by rw [List.take_add_one, hl]; rfl
        rw [e2] at hvo
        have HRUN := Lib.hid hrun
        have NX := Lib.hid hvo
        clear hl c0 c1 c2 hv b7 hrun hvo e2 V
        go_wp2_with (at_builtin; refine wpList_append_runI _ rfl _ _ 76 76 rfl (.slice Ao i co) (.slice (some ⟨wr.heap.size + 1, 0, none⟩) 1 1) rfl rfl HRUN.out ?_)
        go_roundg (gk - 1)
        case measure => omega
        case rel => exact ⟨i + 1, An, cn, by first | rfl | (simp; done), by first | rfl | (simp; done), by omega, NX⟩
       ·have hiz : ¬ (i : Int) < (n : Int) := by omega
        obtain rfl : i = n := by omega
        go_wp2_with fail
        go_ret2
        exact ⟨Ao, i, co, by rw [HQ.out]; rfl, Lib.hid (by rw [HQ.out]; exact V.out.read), Lib.hid (bt V.out.old B6.out), Lib.hid V.out.cap⟩
     ·obtain ⟨q, rfl⟩ : ∃ q : Nat, lim = q := ⟨lim.toNat, by omega⟩
      have hq9 : (q : Int) ≤ 9223372036854775807 := hlim1
      have hq0 : (0 : Int) ≤ (q : Int) := by omega
      rcases Nat.lt_or_ge n q with hqn | hqn
      ·have hqz : (n : Int) < (q : Int) := by omega
       have hqc : n ≤ pc := by omega
       have hmn := Nat.le_refl n
       have HQ := Lib.hid (show queryP (krs, none) ps ofV items ords q = ((outsP ofV items ords ps).take n, none) by
        rw [EE.out, if_pos hq0, List.take_of_length_le (i := (q : Int).toNat) (by rw [HLEN.out]; omega), List.take_of_length_le (by rw [HLEN.out]; exact Nat.le_refl _)])
       go_upto_region 18 with fail
       clear z6
       have hmi : (n : Int) < 65538 := by omega
       go_wp2_with fail
       go_loopg [14, 68] n (fun kx s14 s68 wr => ∃ (i : Nat) (Ao : Option Addr) (co : Nat), s14 = .slice Ao i co ∧ s68 = .int .i64 i ∧ kx + i = n ∧ Hid (VO w6 i Ao co ((outsP ofV items ords ps).take i) wr))
       case atStart => exact ⟨0, none, 0, rfl, rfl, by omega, Lib.hid (by rw [List.take_zero]; exact VO.zero w6)⟩
       case round =>
        obtain ⟨i, Ao, co, rfl, rfl, hki, V⟩ := hrel
        have hii : (i : Int) < 65539 := by omega
        have hi0 : (0 : Int) ≤ (i : Int) := by omega
        by_cases hi : i < n
        ·have hiz : (i : Int) < (n : Int) := by omega
         obtain ⟨l, hl⟩ : ∃ l, (outsP ofV items ords ps)[i]? = some l := ⟨_, List.getElem?_eq_getElem (by rw [HLEN.out]; omega)⟩
         obtain ⟨e, c0, c1, c2, hv⟩ := FIN.out i l hl
         have hgz := Nat.lt_of_lt_of_le hg6 V.out.old.size
         have x0 := (V.out.old.cell (p := ⟨g, i * 3, none⟩) hg6).trans c0
         have x1 := (V.out.old.cell (p := ⟨g, i * 3 + 1, none⟩) hg6).trans c1
         have x2 := (V.out.old.cell (p := ⟨g, i * 3 + 2, none⟩) hg6).trans c2
         have b7 : Below wr.heap.size wr ((wr.alloc (.cells #[.slice e.a e.n e.c, .slice e.a' e.n' e.c', .slice e.a2 e.n2 e.c2] 147)).alloc (.cells #[.slice e.a' e.n' e.c'] 30)) := bt (below_alloc _ _) (below_alloc _ _)
         obtain ⟨An, cn, w7, hrun, hvo⟩ := (V.out.keep b7).step (by omega) hv (wr.heap.size + 1) (blk_new' (w := wr.alloc _) rfl (by simp))
         have e2 : (outsP ofV items ords ps).take i ++ [l] = (outsP ofV items ords ps).take (i + 1) := by rw [List.take_add_one, hl]; rfl
         rw [e2] at hvo
         have HRUN := Lib.hid hrun
         have NX := Lib.hid hvo
         clear hl c0 c1 c2 hv b7 hrun hvo e2 V
         go_wp2_with (at_builtin; refine wpList_append_runI _ rfl _ _ 76 76 rfl (.slice Ao i co) (.slice (some ⟨wr.heap.size + 1, 0, none⟩) 1 1) rfl rfl HRUN.out ?_)
         go_roundg (gk - 1)
         case measure => omega
         case rel => exact ⟨i + 1, An, cn, by first | rfl | (simp; done), by first | rfl | (simp; done), by omega, NX⟩
        ·have hiz : ¬ (i : Int) < (n : Int) := by omega
         obtain rfl : i = n := by omega
         go_wp2_with fail
         go_ret2
         exact ⟨Ao, i, co, by rw [HQ.out]; rfl, Lib.hid (by rw [HQ.out]; exact V.out.read), Lib.hid (bt V.out.old B6.out), Lib.hid V.out.cap⟩
      ·have hqz : ¬ (n : Int) < (q : Int) := by omega
       have hqz2 : ¬ n < q := by omega
       have hqc : q ≤ pc := by omega
       have hmn := hqn
       have HQ := Lib.hid (show queryP (krs, none) ps ofV items ords q = ((outsP ofV items ords ps).take q, none) by
        rw [EE.out, if_pos hq0]; rfl)
       go_upto_region 18 with fail
       clear z6
       have hmi : (q : Int) < 65538 := by omega
       go_wp2_with fail
       go_loopg [14, 68] q (fun kx s14 s68 wr => ∃ (i : Nat) (Ao : Option Addr) (co : Nat), s14 = .slice Ao i co ∧ s68 = .int .i64 i ∧ kx + i = q ∧ Hid (VO w6 i Ao co ((outsP ofV items ords ps).take i) wr))
       case atStart => exact ⟨0, none, 0, rfl, rfl, by omega, Lib.hid (by rw [List.take_zero]; exact VO.zero w6)⟩
       case round =>
        obtain ⟨i, Ao, co, rfl, rfl, hki, V⟩ := hrel
        have hii : (i : Int) < 65539 := by omega
        have hi0 : (0 : Int) ≤ (i : Int) := by omega
        by_cases hi : i < q
        ·have hiz : (i : Int) < (q : Int) := by omega
         obtain ⟨l, hl⟩ : ∃ l, (outsP ofV items ords ps)[i]? = some l := ⟨_, List.getElem?_eq_getElem (by rw [HLEN.out]; omega)⟩
         obtain ⟨e, c0, c1, c2, hv⟩ := FIN.out i l hl
         have hgz := Nat.lt_of_lt_of_le hg6 V.out.old.size
         have x0 := (V.out.old.cell (p := ⟨g, i * 3, none⟩) hg6).trans c0
         have x1 := (V.out.old.cell (p := ⟨g, i * 3 + 1, none⟩) hg6).trans c1
         have x2 := (V.out.old.cell (p := ⟨g, i * 3 + 2, none⟩) hg6).trans c2
         have b7 : Below wr.heap.size wr ((wr.alloc (.cells #[.slice e.a e.n e.c, .slice e.a' e.n' e.c', .slice e.a2 e.n2 e.c2] 147)).alloc (.cells #[.slice e.a' e.n' e.c'] 30)) := bt (below_alloc _ _) (below_alloc _ _)
         obtain ⟨An, cn, w7, hrun, hvo⟩ := (V.out.keep b7).step (by omega) hv (wr.heap.size + 1) (blk_new' (w := wr.alloc _) rfl (by simp))
         have e2 : (outsP ofV items ords ps).take i ++ [l] = (outsP ofV items ords ps).take (i + 1) := by rw [List.take_add_one, hl]; rfl
         rw [e2] at hvo
         have HRUN := Lib.hid hrun
         have NX := Lib.hid hvo
         clear hl c0 c1 c2 hv b7 hrun hvo e2 V
         go_wp2_with (at_builtin; refine wpList_append_runI _ rfl _ _ 76 76 rfl (.slice Ao i co) (.slice (some ⟨wr.heap.size + 1, 0, none⟩) 1 1) rfl rfl HRUN.out ?_)
         go_roundg (gk - 1)
         case measure => omega
         case rel => exact ⟨i + 1, An, cn, by first | rfl | (simp; done), by first | rfl | (simp; done), by omega, NX⟩
        ·have hiz : ¬ (i : Int) < (q : Int) := by omega
         obtain rfl : i = q := by omega
         go_wp2_with fail
         go_ret2
         exact ⟨Ao, i, co, by rw [HQ.out]; rfl, Lib.hid (by rw [HQ.out]; exact V.out.read), Lib.hid (bt V.out.old B6.out), Lib.hid V.out.cap⟩

end Go.Proofs.YtbcmmecilheicaaGreatDoor

