/- exec.Groups: its first loop, and what the sort leaves. -/
import Derived.Test.YtbcmmecilheicaaMat
import Derived.Test.YtbcmmecilheicaaSrtFK
import Derived.Deep.RegionLaw
namespace Go.Proofs.Ytbcmmecilheicaa
open Go Go.RowKit

def kcells (gs : List ElK) : List Value := (gs.map fun e => [Value.slice e.a e.n e.c, .int .i64 e.z]).flatten
theorem kcells_len (gs : List ElK) : (kcells gs).length = gs.length * 2 := by
  induction gs with
  | nil => rfl
  | cons p l ih => simp only [kcells, List.map_cons, List.flatten_cons, List.length_append, List.length_cons, List.length_nil] at ih ⊢; omega
theorem kcells_append (a b : List ElK) : kcells (a ++ b) = kcells a ++ kcells b := by simp [kcells]
theorem kcells_one {gs : List ElK} : ∀ u ∈ kcells gs, u.oneCell' = true := by
  intro u hu
  obtain ⟨c, hc, huc⟩ := List.mem_flatten.1 hu
  obtain ⟨p, hp, rfl⟩ := List.mem_map.1 hc
  simp only [List.mem_cons, List.not_mem_nil, or_false] at huc
  rcases huc with rfl | rfl <;> rfl
theorem rowF_list {enc : Nat → List Value} {f : Nat → Nat} : ∀ {n : Nat} {gs : List ElK}, gs.length = n → (∀ j e, gs[j]? = some e → enc (f j) = [.slice e.a e.n e.c, .int .i64 e.z]) → rowF enc f n = kcells gs := by
  intro n
  induction n with
  | zero =>
    intro gs hl _
    obtain rfl : gs = [] := List.eq_nil_of_length_eq_zero hl
    rfl
  | succ n ih =>
    intro gs hl h
    obtain ⟨gs', e, rfl⟩ : ∃ gs' e, gs = gs' ++ [e] := by
      rcases List.eq_nil_or_concat gs with rfl | ⟨g, e, rfl⟩
      · simp at hl
      · exact ⟨g, e, by rw [List.concat_eq_append]⟩
    have hl' : gs'.length = n := by simpa using hl
    rw [rowF_succ, kcells_append, ih hl' (fun j e' hj => h j e' (by rw [List.getElem?_append_left (List.getElem?_eq_some_iff.1 hj).1]; exact hj))]
    congr 1
    have hlast : (gs' ++ [e])[n]? = some e := by rw [← hl', List.getElem?_append_right (Nat.le_refl _)]; simp
    rw [h n e hlast]
    rfl

/-- what the first loop keeps -/
structure GrI (rs : List (Int × List Val)) (cols : List Int) (cn : Nat) (w wr : World) (i : Nat) (Ao : Option Addr) (co : Nat) (gs : List ElK) : Prop where
  old : Below w.heap.size w wr
  row : wr.ownsRow w.heap.size 70 2 (.slice Ao i co) i (kcells gs)
  len : gs.length = i
  key : ∀ (j : Nat) (e : ElK), gs[j]? = some e → e.n = cn ∧ e.z = j ∧ ValsIn wr (fun b => w.heap.size ≤ b ∧ some b ≠ (Value.slice Ao i co).ownBlock) e.a cn (keyOf rs cols j)
theorem GrI.zero (rs : List (Int × List Val)) (cols : List Int) (cn : Nat) (w : World) : GrI rs cols cn w w 0 none 0 [] :=
  ⟨Below.refl _ _, World.ownsRow_nil _ _ _ _, rfl, fun j e h => by simp at h⟩
/-- one round -/
theorem GrI.step {rs : List (Int × List Val)} {cols : List Int} {cn : Nat} {w wr : World} {i : Nat} {Ao : Option Addr} {co : Nat} {gs : List ElK} (I : GrI rs cols cn w wr i Ao co gs) (hi : i + 1 ≤ 1000001) {r : Int × List Val} (hr : rs[i]? = some r) (hcl : cols.length = cn) {w2 : World} (h2 : Below wr.heap.size wr w2) {A' : Option Addr} {c' : Nat} (hk : w2.ownsRow wr.heap.size 23 4 (.slice A' cn c') cn (valCells (cols.map (cellP r.2)))) :
    ∃ An cn' w3, (Builtin.append_ #[67, 67] 67 #[.slice Ao i co, .slice (some ⟨w2.heap.size, 0, none⟩) 1 1]).run Try.prog (w2.alloc (.cells #[.slice A' cn c', .int .i64 i] 70)) = .ok (.slice An (i + 1) cn') w3 ∧ GrI rs cols cn w w3 (i + 1) An cn' (gs ++ [⟨A', cn, c', i⟩]) := by
  have ow3 := own_below (own_below I.row h2) (below_alloc w2 (.cells #[.slice A' cn c', .int .i64 i] 70))
  have hs2 := h2.size
  have hs0 := I.old.size
  obtain ⟨An, cn', w3, hrun, hown, hg, hnew⟩ := app_some tKeyed 67 ow3 (by simp; omega) ⟨w2.heap.size, 0, none⟩ 1 1 (by omega) (kcells [⟨A', cn, c', i⟩]) (kcells_len _) (fun j u hj => by
    rw [add_lit0, (Blk.new w2 70 _).cell j]
    simpa [kcells] using hj) kcells_one (by unfold maxLen; omega) (by omega)
  have own_lt : ∀ k, (Value.slice Ao i co).ownBlock = some k → w.heap.size ≤ k ∧ k < wr.heap.size := I.row.lt
  have keepB : ∀ b, b < w2.heap.size → some b ≠ (Value.slice Ao i co).ownBlock → w3.heap[b]? = w2.heap[b]? := fun b hb hne => by
    rw [hg.block b (by simp; omega) hne]
    exact Below.heap_alloc w2 _ b hb
  have newne : ∀ b, b < w2.heap.size → some b ≠ (Value.slice Ao i co).ownBlock → some b ≠ (Value.slice An (i + 1) cn').ownBlock := fun b hb hne e => by
    rcases hnew with hn | hn
    · exact hne (e.trans hn)
    · rw [hn] at e
      injection e with e
      simp at e; omega
  refine ⟨An, cn', w3, hrun, ?_, ?_, by simp [I.len], fun j e hj => ?_⟩
  · refine ⟨hg.os.trans (h2.os.trans I.old.os), hg.tape.trans (h2.tape.trans I.old.tape), hg.output.trans (h2.output.trans I.old.output), by have := hg.size; simp at this; omega, fun k hk => ?_⟩
    rw [keepB k (by omega) (fun e => by have := (own_lt k e.symm).1; omega), h2.block k (by omega), I.old.block k hk]
  · rw [kcells_append]; exact hown
  · by_cases c : j < i
    · rw [List.getElem?_append_left (by rw [I.len]; exact c)] at hj
      obtain ⟨e1, e2, e3⟩ := I.key j e hj
      refine ⟨e1, e2, e3.keep (fun b hb hl => ?_) (fun b hb hl => ⟨hb.1, newne b (by omega) hb.2⟩) (by have := hg.size; simp at this; omega)⟩
      rw [keepB b (by omega) hb.2, h2.block b hl]
    · have hj' : j = i := by
        have := (List.getElem?_eq_some_iff.1 hj).1
        rw [List.length_append, I.len] at this
        simp at this; omega
      subst hj'
      rw [List.getElem?_append_right (by rw [I.len]; exact Nat.le_refl _), I.len] at hj
      obtain rfl : (⟨A', cn, c', (j : Int)⟩ : ElK) = e := by simpa using hj
      refine ⟨rfl, rfl, ?_⟩
      rw [keyOf_at hr]
      have hv := ValsIn.of_own hk (by simp [hcl])
      refine hv.keep (fun b hb hl => ?_) (fun b hb hl => ?_) (by have := hg.size; simp at this; omega)
      · exact keepB b hl (fun e => by have := (own_lt b e.symm).2; omega)
      · refine ⟨by omega, newne b hl (fun e => by have := (own_lt b e.symm).2; omega)⟩

/-- what lies there behind the sort -/
structure GrS (rs : List (Int × List Val)) (cols : List Int) (cn n : Nat) (L : List Nat) (w ws : World) (Ao : Option Addr) (co : Nat) : Prop where
  old : Below w.heap.size w ws
  row : ∀ i, i < n → ∃ g A c, Ao = some ⟨g, 0, none⟩ ∧ g < ws.heap.size ∧ ws.cell? ⟨g, i * 2, none⟩ = some (.slice A cn c) ∧ ws.cell? ⟨g, i * 2 + 1, none⟩ = some (.int .i64 (oR L i)) ∧ ValsAt ws A cn (keyOf rs cols (oR L i))

set_option maxRecDepth 100000 in
set_option maxHeartbeats 8000000 in
/-- the sort of the keyed rows -/
theorem sortKeyed {rs : List (Int × List Val)} {cols : List Int} {cn n : Nat} {w wr : World} {Ao : Option Addr} {co : Nat} {gs : List ElK} (I : GrI rs cols cn w wr n Ao co gs) (hn : n ≤ 1000000) (hcn : cn ≤ 1000000) {L : List Nat} (hL : Ranks keyCmp (keyOf rs cols) n L) :
    Calls Try.prog 22 #[.slice Ao n co, .func (.func 23) #[] #[]] wr fun e w' => e = .returned (.tuple #[]) ∧ Hid (GrS rs cols cn n L w w' Ao co) := by
  rcases Nat.eq_zero_or_pos n with h0 | h0
  · subst h0
    have e : Value.slice Ao 0 co = .slice none 0 0 ∨ ∃ g, Ao = some ⟨g, 0, none⟩ ∧ g < wr.heap.size := by
      obtain ⟨-, h2⟩ := I.row
      rcases h2 with ⟨h2, -⟩ | ⟨g, cap, cur, h2, h3, h4, -⟩
      · exact .inl h2
      · injection h2 with h2
        exact .inr ⟨g, h2, (Array.getElem?_eq_some_iff.1 h4).1⟩
    have hz : ∀ W, W = wr → GrS rs cols cn 0 L w W Ao co := fun W hW => ⟨by rw [hW]; exact I.old, fun i hi => absurd hi (Nat.not_lt_zero _)⟩
    rcases e with e | ⟨g, e, hg⟩
    · rw [e]
      exact (sortStable22_nil wr).mono fun ev w' ⟨h1, h2⟩ => ⟨h1, Lib.hid (hz w' h2.symm)⟩
    · subst e
      have hS : SW wr g 70 2 co 0 (encK fun _ => ⟨none, 0, 0, 0⟩) (fun k => k) wr := SW.of_own (B := w.heap.size) (by
        have h := I.row
        have hg0 : gs = [] := List.eq_nil_of_length_eq_zero I.len
        rw [hg0] at h
        exact h) (fun _ => rfl)
      refine (sortStable22 wr g co 0 (fun _ => ⟨none, 0, 0, 0⟩) (fun k => k) (fun _ _ => 0) ⟨fun W _ r s hr => absurd hr (Nat.not_lt_zero _), fun r s hr => absurd hr (Nat.not_lt_zero _)⟩ (Nat.zero_le _) (fun k => k) (fun k hk => absurd hk (Nat.not_lt_zero _)) wr hS (fun k hk => absurd hk (Nat.not_lt_zero _))).mono fun ev w' ⟨h1, h2⟩ => ?_
      obtain ⟨F, hF, -⟩ := h2.out
      refine ⟨h1, Lib.hid ⟨?_, fun i hi => absurd hi (Nat.not_lt_zero _)⟩⟩
      have hgr := hF.grown
      have hlt := (I.row.lt g rfl).1
      exact ⟨hgr.os.trans I.old.os, hgr.tape.trans I.old.tape, hgr.output.trans I.old.output, Nat.le_trans I.old.size hgr.size, fun k hk => by
        rw [hgr.block k (Nat.lt_of_lt_of_le hk I.old.size) (fun e => by injection e with e; omega), I.old.block k hk]⟩
  · obtain ⟨e0, he0⟩ : ∃ e, gs[0]? = some e := ⟨_, List.getElem?_eq_getElem (by rw [I.len]; exact h0)⟩
    have hc0 : (kcells gs)[0]? = some (.slice e0.a e0.n e0.c) := by
      cases gs with
      | nil => simp at he0
      | cons a l =>
        obtain rfl : a = e0 := by simpa using he0
        simp [kcells]
    obtain ⟨g, rfl, hg, hBg, -, -⟩ := own_at I.row hc0
    let D : ElK := ⟨none, 0, 0, 0⟩
    let el : Nat → ElK := fun r => gs.getD (oR L r) D
    have hel : ∀ r, r < n → gs[oR L r]? = some (el r) := fun r hr => by
      have := hL.oR_lt hr
      show _ = some (gs.getD (oR L r) D)
      rw [List.getD_eq_getElem?_getD, List.getElem?_eq_getElem (by rw [I.len]; exact this)]; rfl
    have hS : SW wr g 70 2 co n (encK el) (fR L) wr := SW.of_own (B := w.heap.size) (by
      rw [rowF_list (gs := gs) I.len (fun j e hj => by
        have hjn : j < n := by rw [← I.len]; exact (List.getElem?_eq_some_iff.1 hj).1
        have h1 := hel (fR L j) (hL.fR_lt hjn)
        rw [hL.oR_fR hjn, hj] at h1
        injection h1 with h1
        show [Value.slice (el (fR L j)).a (el (fR L j)).n (el (fR L j)).c, Value.int .i64 (el (fR L j)).z] = _
        rw [← h1])]
      exact I.row) (fun _ => rfl)
    have keyS : ∀ W, wr.grownBy W (some g) → ∀ r, r < n → ValsAt W (el r).a cn (keyOf rs cols (oR L r)) ∧ (el r).n = cn ∧ (el r).z = (oR L r : Nat) := fun W hW r hr => by
      obtain ⟨k1, k2, k3⟩ := I.key _ _ (hel r hr)
      exact ⟨(k3.keep (S' := fun _ => True) (fun b hb hl => hW.block b hl hb.2) (fun _ _ _ => trivial) hW.size).is, k1, k2⟩
    have HC : CmpK wr g n el (oR L) (fun r s => keyCmp (keyOf rs cols (oR L r)) (keyOf rs cols (oR L s))) := ⟨fun W hW r s hr hs => by
      obtain ⟨a1, a2, a3⟩ := keyS W hW r hr
      obtain ⟨b1, b2, b3⟩ := keyS W hW s hs
      rw [a2, b2]
      exact keyed23 W _ cn _ _ cn _ _ _ _ _ a1 b1 hcn hcn, fun r s hr hs ho => hL.lt totK hr hs ho⟩
    refine (sortStable22 wr g co n el (oR L) _ HC hn (fR L) (fun k hk => hL.fR_lt hk) wr hS (fun k hk => hL.oR_fR hk)).mono fun ev w' ⟨h1, h2⟩ => ?_
    obtain ⟨F, hF, hFk⟩ := h2.out
    have hgr := hF.grown
    refine ⟨h1, Lib.hid ⟨?_, fun i hi => ?_⟩⟩
    · exact ⟨hgr.os.trans I.old.os, hgr.tape.trans I.old.tape, hgr.output.trans I.old.output, Nat.le_trans I.old.size hgr.size, fun k hk => by
        rw [hgr.block k (Nat.lt_of_lt_of_le hk I.old.size) (fun e => by injection e with e; omega), I.old.block k hk]⟩
    · obtain ⟨k1, k2, k3⟩ := keyS w' hgr i hi
      have c0 := hF.cell (i := i) (c := 0) hi (by omega)
      have c1 := hF.cell (i := i) (c := 1) hi (by omega)
      rw [hFk i hi] at c0 c1
      refine ⟨g, (el i).a, (el i).c, rfl, hF.ltW, ?_, ?_, k1⟩
      · rw [← k2]; exact c0
      · rw [← k3]; exact c1

end Go.Proofs.Ytbcmmecilheicaa
