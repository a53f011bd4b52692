/- exec.cell, exec.cells; barbicanref23.cells. Lists of lists of numbers in memory, of one's own; ranks of places in an order; rows as they are read. -/
import Derived.Test.YtbcmmecilheicaaGreatDoorApp
import Derived.Test.YtbcmmecilheicaaGreatDoorOrdA

/- exec.cell, exec.cells; barbicanref23.cells. -/
namespace Go.Proofs.YtbcmmecilheicaaGreatDoor
open Go Go.RowKit

/-- a row's value at a place -/
def cellP (vals : List Val) (c : Int) : Val := if c < 0 ∨ (vals.length : Int) ≤ c then Val.null else vals.getD c.toNat Val.null
theorem cellP_out {vals : List Val} {c : Int} (h : c < 0 ∨ (vals.length : Int) ≤ c) : cellP vals c = Val.null := if_pos h
theorem cellP_in {vals : List Val} {i : Nat} {v : Val} (h : vals[i]? = some v) : cellP vals (i : Int) = v := by
 have hl := (List.getElem?_eq_some_iff.1 h).1
 unfold cellP
 rw [if_neg (by omega), Int.toNat_natCast, List.getD_eq_getElem?_getD, h]
 rfl

theorem valc_blk {W : World} {b : Nat} {t : TypeId} {v : Val} (z : Blk W b t #[.int .i64 v.kind, .int .i64 v.int, .string v.text, .bool v.bool]) : ValC W b 0 v := ⟨z.cell 0, z.cell 1, z.cell 2, z.cell 3⟩

set_option maxRecDepth 100000 in
set_option maxHeartbeats 8000000 in
theorem cell40 (w : World) (at_ : Int) (VA : Option Addr) (vn vc : Nat) (vals : List Val) (hv : ValsAt w VA vn vals) (hn : vn ≤ 140737488355328) (c : Int) :
  Calls Tryz.prog 101 #[.agg #[.int .i64 at_, .slice VA vn vc], .int .i64 c] w fun e w' => e = .returned (.agg (cellP vals c).cells) ∧ Hid (Below w.heap.size w w') := by
 have hlen := hv.len
 by_cases h0 : c < 0
 ·have hd : decide (c < 0) = true := decide_eq_true h0
  rw [cellP_out (.inl h0)]
  clear hv
  go_enter Tryz.func101, Tryz.ntmps101
  go_wp2_with fail
  refine (null34 _).mono ?_
  rintro e w2 ⟨rfl, h2⟩
  have zb := (blk_new' (w := w.alloc _) rfl (by simp) : Blk _ (w.heap.size + 1) 26 _).below h2.out
  have hfz := fun o => zb.frozen o
  have q0 := zb.cell 0
  have q1 := zb.cell 1
  have q2 := zb.cell 2
  have q3 := zb.cell 3
  have ZB := Lib.hid zb
  have HB := Lib.hid h2.out.from2
  clear zb h2
  go_wp2_with fail
  refine bodyPost_ret (results_c (s := 4) (v := Val.null) rfl rfl (val_set ZB.out _ _ _ _)) rfl ⟨rfl, Lib.hid (by have hb := HB.out; have hs := hb.size; go_grown)⟩
 ·obtain ⟨i, rfl⟩ : ∃ i : Nat, c = i := ⟨c.toNat, by omega⟩
  have hd : decide ((i : Int) < 0) = false := decide_eq_false h0
  by_cases h1 : vn ≤ i
  ·have hd2 : decide (vn ≤ i) = true := decide_eq_true h1
   rw [cellP_out (.inr (by omega))]
   clear hv h0
   go_enter Tryz.func101, Tryz.ntmps101
   go_wp2_with fail
   refine (null34 _).mono ?_
   rintro e w2 ⟨rfl, h2⟩
   have zx := (Blk.new w 32 #[.int .i64 at_, .slice VA vn vc]).alloc (.cells #[.int .i64 0, .int .i64 0, .string ⟨#[]⟩, .bool false] 26)
   have zb := (blk_new' (w := w.alloc _) rfl (by simp) : Blk _ (w.heap.size + 1) 26 _).below h2.out
   have hfz := fun o => zb.frozen o
   have q0 := zb.cell 0
   have q1 := zb.cell 1
   have q2 := zb.cell 2
   have q3 := zb.cell 3
   have ZB := Lib.hid zb
   have HB := Lib.hid h2.out.from2
   clear zb h2
   go_wp2_with fail
   refine bodyPost_ret (results_c (s := 4) (v := Val.null) rfl rfl (val_set ZB.out _ _ _ _)) rfl ⟨rfl, Lib.hid (by have hb := HB.out; have hs := hb.size; go_grown)⟩
  ·have hd2 : decide (vn ≤ i) = false := decide_eq_false h1
   have hiz : (i : Int) < (vn : Int) := by omega
   have hi9 : (i : Int) < 140737488355329 := by omega
   obtain ⟨v, hv1⟩ : ∃ v, vals[i]? = some v := ⟨_, List.getElem?_eq_getElem (by omega)⟩
   rw [cellP_in hv1]
   obtain ⟨b, off, rfl, hb, c0, c1, c2, c3⟩ := hv.at_ i v hv1
   have hb1 : b < w.heap.size + 1 := by omega
   clear hv hv1 h0
   go_enter Tryz.func101, Tryz.ntmps101
   go_wp2_with fail
   refine bodyPost_ret (results_c (s := 4) (v := v) rfl rfl (valc_blk (blk_new' (w := w.alloc _) rfl (by simp)))) rfl ⟨rfl, Lib.hid (by go_grown)⟩

/-- what exec.cells leaves: the values, in a row of its own -/
def CellsPost (vals : List Val) (cols : List Int) (cn : Nat) (w : World) (e : Ending) (w' : World) : Prop := ∃ (A' : Option Addr) (c' : Nat), e = .returned (.slice A' cn c') ∧ Hid (w'.ownsRow w.heap.size 26 4 (.slice A' cn c') cn (valCells (cols.map (cellP vals)))) ∧ Hid (Below w.heap.size w w')

end Go.Proofs.YtbcmmecilheicaaGreatDoor

/- Lists of lists of numbers in memory, of one's own; ranks of places in an order; rows as they are read. -/
namespace Go.Proofs.YtbcmmecilheicaaGreatDoor
open Go Go.RowKit

def intsV (g : List Nat) : List Value := g.map fun (k : Nat) => Value.int .i64 k
theorem intsV_snoc (g : List Nat) (j : Nat) : intsV (g ++ [j]) = intsV g ++ [.int .i64 j] := by simp [intsV]
/-- the inner rows: each of its own, apart from one another, their blocks of a kind -/
structure Inn (W : World) (B : Nat) (S : Nat → Prop) (vs : List Value) (gs : List (List Nat)) : Prop where
 len : vs.length = gs.length
 row : ∀ (a : Nat) (u : Value) (g : List Nat), vs[a]? = some u → gs[a]? = some g → W.ownsRow B 3 1 u g.length (intsV g) ∧ ∀ k, u.ownBlock = some k → S k
 apart : ∀ (a b : Nat) (u u' : Value) (k : Nat), a ≠ b → vs[a]? = some u → vs[b]? = some u' → u.ownBlock = some k → u'.ownBlock ≠ some k
theorem Inn.nil (W : World) (B : Nat) (S : Nat → Prop) : Inn W B S [] [] := ⟨rfl, fun a u g h => by simp at h, fun a b u u' k _ h => by simp at h⟩
theorem Inn.keep {W W' : World} {B : Nat} {S S' : Nat → Prop} {vs : List Value} {gs : List (List Nat)} (h : Inn W B S vs gs) (hW : ∀ b, S b → b < W.heap.size → W'.heap[b]? = W.heap[b]?) (hS : ∀ b, S b → b < W.heap.size → S' b) : Inn W' B S' vs gs :=
 ⟨h.len, fun a u g hu hg => by
  obtain ⟨h1, h2⟩ := h.row a u g hu hg
  exact ⟨own_blk h1 (fun k hk => hW k (h2 k hk) (h1.lt k hk).2), fun k hk => hS k (h2 k hk) (h1.lt k hk).2⟩, h.apart⟩
theorem Inn.append {W : World} {B : Nat} {S : Nat → Prop} {vs vs' : List Value} {gs gs' : List (List Nat)} (h : Inn W B S vs gs) (h' : Inn W B S vs' gs') (hap : ∀ (a b : Nat) (u u' : Value) (k : Nat), vs[a]? = some u → vs'[b]? = some u' → u.ownBlock = some k → u'.ownBlock ≠ some k) : Inn W B S (vs ++ vs') (gs ++ gs') := by
 have hl := h.len
 refine ⟨by simp [h.len, h'.len], fun a u g hu hg => ?_, fun a b u u' k hab hu hu' hk => ?_⟩
 ·by_cases c : a < vs.length
  ·rw [List.getElem?_append_left c] at hu
   rw [List.getElem?_append_left (by omega)] at hg
   exact h.row a u g hu hg
  ·rw [List.getElem?_append_right (by omega)] at hu
   rw [List.getElem?_append_right (by omega), ← hl] at hg
   exact h'.row _ u g hu hg
 ·by_cases c : a < vs.length <;> by_cases d : b < vs.length
  ·rw [List.getElem?_append_left c] at hu
   rw [List.getElem?_append_left d] at hu'
   exact h.apart a b u u' k hab hu hu' hk
  ·rw [List.getElem?_append_left c] at hu
   rw [List.getElem?_append_right (by omega)] at hu'
   exact hap a _ u u' k hu hu' hk
  ·rw [List.getElem?_append_right (by omega)] at hu
   rw [List.getElem?_append_left d] at hu'
   exact fun e => hap b _ u' u k hu' hu e hk
  ·rw [List.getElem?_append_right (by omega)] at hu
   rw [List.getElem?_append_right (by omega)] at hu'
   exact h'.apart (a - vs.length) (b - vs.length) u u' k (by omega) hu hu' hk
theorem Inn.one {W : World} {B : Nat} {S : Nat → Prop} {u : Value} {g : List Nat} (h : W.ownsRow B 3 1 u g.length (intsV g)) (hS : ∀ k, u.ownBlock = some k → S k) : Inn W B S [u] [g] :=
 ⟨rfl, fun a v k hv hk => by
  match a, hv, hk with
  | 0, hv, hk =>
   obtain rfl : u = v := by simpa using hv
   obtain rfl : g = k := by simpa using hk
   exact ⟨h, hS⟩
  | a + 1, hv, _ => simp at hv, fun a b v v' k hab hv hv' => by
  match a, b, hv, hv' with
  | 0, 0, _, _ => exact absurd rfl hab
  | a + 1, _, hv, _ => simp at hv
  | 0, b + 1, _, hv' => simp at hv'⟩

/-- the outer row and the inner rows -/
structure Mat (W : World) (B : Nat) (A : Option Addr) (n c : Nat) (vs : List Value) (gs : List (List Nat)) : Prop where
 outer : W.ownsRow B 65 1 (.slice A n c) n vs
 inn : Inn W B (fun b => B ≤ b ∧ some b ≠ (Value.slice A n c).ownBlock) vs gs
theorem Mat.len {W : World} {B : Nat} {A : Option Addr} {n c : Nat} {vs : List Value} {gs : List (List Nat)} (h : Mat W B A n c vs gs) : gs.length = n ∧ vs.length = n := by
 have h1 := h.outer.1
 rw [Nat.mul_one] at h1
 exact ⟨by rw [← h.inn.len, h1], h1⟩
theorem Mat.nil (W : World) (B : Nat) : Mat W B none 0 0 [] [] := ⟨World.ownsRow_nil _ _ _ _, Inn.nil _ _ _⟩
theorem Mat.below {W W' : World} {B : Nat} {A : Option Addr} {n c : Nat} {vs : List Value} {gs : List (List Nat)} (h : Mat W B A n c vs gs) (hb : Below W.heap.size W W') : Mat W' B A n c vs gs :=
 ⟨own_below h.outer hb, h.inn.keep (fun b _ hl => hb.block b hl) (fun _b hb _ => hb)⟩
theorem Inn.slices {W : World} {B : Nat} {S : Nat → Prop} {vs : List Value} {gs : List (List Nat)} (h : Inn W B S vs gs) : ∀ u ∈ vs, ∃ A n c, u = Value.slice A n c := fun u hu => by
 obtain ⟨a, ha⟩ := List.getElem?_of_mem hu
 have hl := (List.getElem?_eq_some_iff.1 ha).1
 obtain ⟨g, hg⟩ : ∃ g, gs[a]? = some g := ⟨_, List.getElem?_eq_getElem (by rw [← h.len]; exact hl)⟩
 obtain ⟨A, c, e⟩ := own_slice (h.row a u g ha hg).1
 exact ⟨A, _, c, e⟩

/-- an empty row more -/
theorem Mat.push {W : World} {B : Nat} {A : Option Addr} {n c : Nat} {vs : List Value} {gs : List (List Nat)} (h : Mat W B A n c vs gs) (hB : B ≤ W.heap.size) (hn : n + 1 ≤ 1000001) (s : Nat) (z : Blk W s 65 #[.slice none 0 0]) :
  ∃ An cn W', (Builtin.append_ #[193, 193] 193 #[.slice A n c, .slice (some ⟨s, 0, none⟩) 1 1]).run Tryz.prog W = .ok (.slice An (n + 1) cn) W' ∧ Mat W' B An (n + 1) cn (vs ++ [.slice none 0 0]) (gs ++ [[]]) ∧ W.grownBy W' (Value.slice A n c).ownBlock := by
 obtain ⟨An, cn, W', hr, hown, hg, hnew⟩ := app_some tIntss 193 h.outer hB ⟨s, 0, none⟩ 1 1 (by omega) [.slice none 0 0] rfl (fun j u hj => by
  rw [add_lit0, z.cell j]
  simpa using hj) (fun u hu => by simp at hu; subst hu; rfl) (by unfold maxLen; omega) (by omega)
 refine ⟨An, cn, W', hr, ⟨hown, ?_⟩, hg⟩
 have k := h.inn.keep (W' := W') (S' := fun b => B ≤ b ∧ some b ≠ (Value.slice An (n + 1) cn).ownBlock) (fun b hb hl => hg.block b hl hb.2) (fun b hb hl => ⟨hb.1, fun e => by
  rcases hnew with hn | hn
  ·exact hb.2 (e.trans hn)
  ·rw [hn] at e; injection e with e; omega⟩)
 exact k.append (Inn.one (g := []) (World.ownsRow_nil _ _ _ _) (fun k hk => by cases hk)) (fun a b u u' k hu hu' hk => by
  match b, hu' with
  | 0, hu' => obtain rfl : Value.slice none 0 0 = u' := by simpa using hu'
              intro e; cases e
  | b + 1, hu' => simp at hu')
/-- a number more in one of the rows -/
theorem Mat.add {W : World} {B g : Nat} {n c : Nat} {vs : List Value} {gs : List (List Nat)} (h : Mat W B (some ⟨g, 0, none⟩) n c vs gs) (hB : B ≤ W.heap.size) {a : Nat} {Ao : Option Addr} {m co : Nat} {l : List Nat} (hu : vs[a]? = some (.slice Ao m co)) (hl : gs[a]? = some l) (hm : m + 1 ≤ 1000001) (j : Nat) (s : Nat) (z : Blk W s 3 #[.int .i64 j]) :
  m = l.length ∧ ∃ An cn W', (Builtin.append_ #[65, 65] 65 #[.slice Ao m co, .slice (some ⟨s, 0, none⟩) 1 1]).run Tryz.prog W = .ok (.slice An (m + 1) cn) W' ∧ W'.cell? ⟨g, a, none⟩ = some (.slice Ao m co) ∧ W'.frozen? ⟨g, a, none⟩ = false ∧
   Mat (W'.setCell ⟨g, a, none⟩ (.slice An (m + 1) cn)) B (some ⟨g, 0, none⟩) n c (vs.set a (.slice An (m + 1) cn)) (gs.set a (l ++ [j])) ∧ Below B W (W'.setCell ⟨g, a, none⟩ (.slice An (m + 1) cn)) ∧
   (∀ k, k < W.heap.size → some k ≠ (Value.slice Ao m co).ownBlock → k ≠ g → (W'.setCell ⟨g, a, none⟩ (.slice An (m + 1) cn)).heap[k]? = W.heap[k]?) ∧ ((Value.slice An (m + 1) cn).ownBlock = (Value.slice Ao m co).ownBlock ∨ (Value.slice An (m + 1) cn).ownBlock = some W.heap.size) := by
 obtain ⟨hrow, hS⟩ := h.inn.row a _ l hu hl
 obtain ⟨hml, hmc⟩ := own_cap hrow
 subst hml
 refine ⟨rfl, ?_⟩
 obtain ⟨An, cn, W', hr, hown, hg, hnew⟩ := app_some tInts 65 hrow hB ⟨s, 0, none⟩ 1 1 (by omega) [.int .i64 j] rfl (fun k u hk => by
  rw [add_lit0, z.cell k]
  simpa using hk) (fun u hu => by simp at hu; subst hu; rfl) (by unfold maxLen; omega) (by omega)
 obtain ⟨g0, e0, hg0, hBg, hcell, hfz⟩ := own_at h.outer hu
 injection e0 with e0
 injection e0 with e0
 subst e0
 have han : a < n := by
  have := (List.getElem?_eq_some_iff.1 hu).1
  rw [h.len.2] at this; exact this
 have hgne : some g ≠ (Value.slice Ao l.length co).ownBlock := fun e => (hS g e.symm).2 rfl
 have hgb : W'.heap[g]? = W.heap[g]? := hg.block g hg0 hgne
 have howng : W'.ownsRow B 65 1 (.slice (some ⟨g, 0, none⟩) n c) n vs := own_blk h.outer (fun k hk => by
  obtain rfl : g = k := by injection hk
  exact hgb)
 refine ⟨An, cn, W', hr, (World.cell?_of_block (a := ⟨g, a, none⟩) hgb).trans hcell, (World.frozen?_of_block (a := ⟨g, a, none⟩) hgb).trans (hfz a), ⟨own_put howng (by omega) _, ?_⟩, ?_, fun k hk hne hkg => by
  rw [Below.heap_setCell _ _ _ _ (by exact hkg)]; exact hg.block k hk hne, hnew⟩
 ·have hnewb : ∀ k, (Value.slice An (l.length + 1) cn).ownBlock = some k → k = W.heap.size ∨ (Value.slice Ao l.length co).ownBlock = some k := fun k hk => by
   rcases hnew with hn | hn
   ·rw [hn] at hk; exact .inr hk
   ·rw [hn] at hk; injection hk with hk; exact .inl hk.symm
  have others : Inn (W'.setCell ⟨g, a, none⟩ (.slice An (l.length + 1) cn)) B (fun b => B ≤ b ∧ some b ≠ (Value.slice (some ⟨g, 0, none⟩) n c).ownBlock) (vs.set a (.slice An (l.length + 1) cn)) (gs.set a (l ++ [j])) := by
   have hgn : ∀ k, (Value.slice An (l.length + 1) cn).ownBlock = some k → k ≠ g := fun k hk => by
    rcases hnewb k hk with e | e
    ·omega
    ·exact fun e2 => (hS k e).2 (by rw [e2]; rfl)
   have rowNew : (W'.setCell ⟨g, a, none⟩ (.slice An (l.length + 1) cn)).ownsRow B 3 1 (.slice An (l.length + 1) cn) (l ++ [j]).length (intsV (l ++ [j])) := by
    rw [intsV_snoc, List.length_append]
    exact own_blk hown (fun k hk => Below.heap_setCell _ _ _ _ (hgn k hk))
   refine ⟨by simp [h.inn.len], fun b v k hv hk => ?_, fun b b' v v' k hbc hv hv' hk => ?_⟩
   ·by_cases e : b = a
    ·subst e
     have hl1 := (List.getElem?_eq_some_iff.1 hv).1
     have hl2 := (List.getElem?_eq_some_iff.1 hk).1
     rw [List.length_set] at hl1 hl2
     rw [List.getElem?_set_self hl1] at hv
     rw [List.getElem?_set_self hl2] at hk
     injection hv with hv
     injection hk with hk
     subst hv hk
     exact ⟨rowNew, fun k hk => ⟨(rowNew.lt k hk).1, fun e => hgn k hk (by injection e)⟩⟩
    ·rw [List.getElem?_set_ne (fun h => e h.symm)] at hv hk
     obtain ⟨r1, r2⟩ := h.inn.row b v k hv hk
     refine ⟨own_blk r1 (fun q hq => ?_), r2⟩
     rw [Below.heap_setCell _ _ _ _ (fun e => (r2 q hq).2 (by rw [show q = g from e]; rfl)), hg.block q (r1.lt q hq).2 (fun e' => h.inn.apart b a v _ q e hv hu hq e'.symm)]
   ·have far : ∀ (b : Nat) (u' : Value) (k : Nat), b ≠ a → vs[b]? = some u' → (Value.slice An (l.length + 1) cn).ownBlock = some k → u'.ownBlock ≠ some k := fun b u' k hb hu' hk e => by
     rcases hnewb k hk with q | q
     ·obtain ⟨g', hg'⟩ : ∃ g', gs[b]? = some g' := ⟨_, List.getElem?_eq_getElem (by rw [← h.inn.len]; exact (List.getElem?_eq_some_iff.1 hu').1)⟩
      have := ((h.inn.row b u' g' hu' hg').1.lt k e).2
      omega
     ·exact h.inn.apart b a u' _ k hb hu' hu e q
    by_cases e : b = a
    ·subst e
     have hl1 := (List.getElem?_eq_some_iff.1 hv).1
     rw [List.length_set] at hl1
     rw [List.getElem?_set_self hl1] at hv
     injection hv with hv
     subst hv
     rw [List.getElem?_set_ne hbc] at hv'
     exact far b' v' k (fun h => hbc h.symm) hv' hk
    ·rw [List.getElem?_set_ne (fun h => e h.symm)] at hv
     by_cases e2 : b' = a
     ·subst e2
      have hl1 := (List.getElem?_eq_some_iff.1 hv').1
      rw [List.length_set] at hl1
      rw [List.getElem?_set_self hl1] at hv'
      injection hv' with hv'
      subst hv'
      exact fun q => far b v k e hv q hk
     ·rw [List.getElem?_set_ne (fun h => e2 h.symm)] at hv'
      exact h.inn.apart b b' v v' k hbc hv hv' hk
  exact others
 ·refine ⟨hg.os, hg.tape, hg.output, by simp [World.setCell]; exact hg.size, fun k hk => ?_⟩
  rw [Below.heap_setCell _ _ _ _ (by show k ≠ g; omega), hg.block k (by omega) (fun e => by have := (hS k e.symm).1; omega)]

/-! ### ranks -/
section
variable {κ : Type} {cmp : κ → κ → Int} {key : Nat → κ}
def oR (L : List Nat) (r : Nat) : Nat := L.getD r 0
def fR (L : List Nat) (p : Nat) : Nat := L.idxOf p
theorem oR_at {L : List Nat} {r : Nat} (h : r < L.length) : L[r]? = some (oR L r) := by
 unfold oR
 rw [List.getD_eq_getElem?_getD, List.getElem?_eq_getElem h]; rfl
structure Ranks (cmp : κ → κ → Int) (key : Nat → κ) (n : Nat) (L : List Nat) : Prop where
 len : L.length = n
 mem : ∀ j, j ∈ L ↔ j < n
 lex : L.Pairwise (lexR cmp key)
theorem GInv.ranks (T : TotP cmp) {n : Nat} {out : List (List Nat)} (h : GInv cmp key n out) : Ranks cmp key n out.flatten := ⟨h.length T, h.mem, h.lex⟩
theorem Ranks.fR_lt {n : Nat} {L : List Nat} (h : Ranks cmp key n L) {p : Nat} (hp : p < n) : fR L p < n := by
 rw [← h.len]; exact List.idxOf_lt_length_of_mem ((h.mem p).2 hp)
theorem Ranks.oR_fR {n : Nat} {L : List Nat} (h : Ranks cmp key n L) {p : Nat} (hp : p < n) : oR L (fR L p) = p := by
 have hm := (h.mem p).2 hp
 have hl := List.idxOf_lt_length_of_mem hm
 have := oR_at (L := L) (r := fR L p) hl
 unfold fR at this ⊢
 rw [List.getElem?_eq_getElem hl, List.getElem_idxOf hl] at this
 injection this with this
 exact this.symm
theorem Ranks.oR_lt {n : Nat} {L : List Nat} (h : Ranks cmp key n L) {r : Nat} (hr : r < n) : oR L r < n :=
 (h.mem _).1 (List.mem_of_getElem? (oR_at (by rw [h.len]; exact hr)))
theorem Ranks.lt (T : TotP cmp) {n : Nat} {L : List Nat} (h : Ranks cmp key n L) {r s : Nat} (hr : r < n) (hs : s < n) (ho : oR L s < oR L r) : cmp (key (oR L r)) (key (oR L s)) < 0 ↔ r < s := by
 have pw : ∀ i j, i < j → j < n → lexR cmp key (oR L i) (oR L j) := fun i j hij hj => by
  have a := oR_at (L := L) (r := i) (by rw [h.len]; omega)
  have b := oR_at (L := L) (r := j) (by rw [h.len]; exact hj)
  obtain ⟨ha, ea⟩ := List.getElem?_eq_some_iff.1 a
  obtain ⟨hb, eb⟩ := List.getElem?_eq_some_iff.1 b
  have := List.pairwise_iff_getElem.1 h.lex i j ha hb hij
  rw [ea, eb] at this
  exact this
 constructor
 ·intro hc
  rcases Nat.lt_trichotomy r s with c | c | c
  ·exact c
  ·subst c; omega
  ·exfalso
   rcases pw s r c hr with q | ⟨q, -⟩
   ·rw [T.flip (key (oR L r))] at q; omega
   ·rw [T.flip (key (oR L r))] at q; omega
 ·intro c
  rcases pw r s c hs with q | ⟨-, q⟩
  ·exact q
  ·omega
end

/-- rows, as they are read -/
structure RowsAt (W : World) (A : Option Addr) (n : Nat) (rs : List (Int × List Val)) : Prop where
 len : rs.length = n
 at_ : ∀ (j : Nat) (r : Int × List Val), rs[j]? = some r → ∃ b off VA vn vc, A = some ⟨b, off, none⟩ ∧ b < W.heap.size ∧ W.cell? ⟨b, off + j * 2, none⟩ = some (.int .i64 r.1) ∧ W.cell? ⟨b, off + j * 2 + 1, none⟩ = some (.slice VA vn vc) ∧ ValsAt W VA vn r.2 ∧ vn * 40 ≤ 140737488355328
theorem RowsAt.below {W W' : World} {A : Option Addr} {n : Nat} {rs : List (Int × List Val)} (h : RowsAt W A n rs) (hW : Below W.heap.size W W') : RowsAt W' A n rs :=
 ⟨h.len, fun j r hj => by
  obtain ⟨b, off, VA, vn, vc, e, hb, c0, c1, hv, hn⟩ := h.at_ j r hj
  exact ⟨b, off, VA, vn, vc, e, Nat.lt_of_lt_of_le hb hW.size, (hW.cell (p := ⟨b, off + j * 2, none⟩) hb).trans c0, (hW.cell (p := ⟨b, off + j * 2 + 1, none⟩) hb).trans c1, hv.below hW, hn⟩⟩
/-- the key of a row -/
def keyOf (rs : List (Int × List Val)) (cols : List Int) (i : Nat) : List Val := cols.map (cellP (rs.getD i (0, [])).2)
theorem keyOf_at {rs : List (Int × List Val)} {cols : List Int} {i : Nat} {r : Int × List Val} (h : rs[i]? = some r) : keyOf rs cols i = cols.map (cellP r.2) := by
 unfold keyOf
 rw [List.getD_eq_getElem?_getD, h]; rfl

end Go.Proofs.YtbcmmecilheicaaGreatDoor
