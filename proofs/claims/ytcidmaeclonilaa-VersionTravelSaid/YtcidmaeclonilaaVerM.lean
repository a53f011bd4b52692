/- Chains of versions in memory; slices.Clip, an append behind it. -/
import Derived.Test.YtcidmaeclonilaaSeqPC
import Derived.Laws.AppendOwn
import Derived.Handy
namespace Go.Proofs.Ytcidmaeclonilaa
open Go Go.RowKit

/-- a version: from which commit on, its row (a slice), and is it gone -/
structure Ver where
  at_ : Int
  row : Option Addr × Nat × Nat
  gone : Bool
def Ver.rv (v : Ver) : Value := .slice v.row.1 v.row.2.1 v.row.2.2
def cellsV (vs : List Ver) : List Value := (vs.map fun v => [Value.int .i64 v.at_, v.rv, .bool v.gone]).flatten
theorem cellsV_len (l : List Ver) : (cellsV l).length = l.length * 3 := by
  induction l with
  | nil => rfl
  | cons p l ih => simp only [cellsV, List.map_cons, List.flatten_cons, List.length_append, List.length_cons, List.length_nil] at ih ⊢; omega
theorem cellsV_append (a b : List Ver) : cellsV (a ++ b) = cellsV a ++ cellsV b := by simp [cellsV]
theorem cellsV_at : ∀ {l : List Ver} {i : Nat} {p : Ver}, l[i]? = some p → (cellsV l)[i * 3]? = some (.int .i64 p.at_) ∧ (cellsV l)[i * 3 + 1]? = some p.rv ∧ (cellsV l)[i * 3 + 2]? = some (.bool p.gone)
  | [], _, _, h => by simp at h
  | q :: l, 0, p, h => by
    obtain rfl : q = p := by simpa using h
    exact ⟨rfl, rfl, rfl⟩
  | q :: l, i + 1, p, h => by
    have ih := cellsV_at (l := l) (i := i) (p := p) (by simpa using h)
    have e : cellsV (q :: l) = Value.int .i64 q.at_ :: q.rv :: .bool q.gone :: cellsV l := rfl
    rw [e, show (i + 1) * 3 = i * 3 + 1 + 1 + 1 by omega, show i * 3 + 1 + 1 + 1 + 1 = (i * 3 + 1) + 1 + 1 + 1 by omega, show i * 3 + 1 + 1 + 1 + 2 = (i * 3 + 2) + 1 + 1 + 1 by omega]
    simp only [List.getElem?_cons_succ]
    exact ih
theorem cellsV_one {l : List Ver} : ∀ u ∈ cellsV l, u.oneCell' = true := by
  intro u hu
  obtain ⟨c, hc, huc⟩ := List.mem_flatten.1 hu
  obtain ⟨p, hp, rfl⟩ := List.mem_map.1 hc
  simp only [List.mem_cons, List.not_mem_nil, or_false] at huc
  rcases huc with rfl | rfl | rfl <;> rfl
/-- a chain, as it is read -/
structure ChainAt (W : World) (A : Option Addr) (n : Nat) (vs : List Ver) : Prop where
  len : vs.length = n
  form : (A = none ∧ n = 0) ∨ ∃ g, A = some ⟨g, 0, none⟩ ∧ g < W.heap.size ∧ ∀ j u, (cellsV vs)[j]? = some u → W.cell? ⟨g, j, none⟩ = some u
theorem ChainAt.below {W W' : World} {A : Option Addr} {n : Nat} {vs : List Ver} (H : ChainAt W A n vs) (hb : Below W.heap.size W W') : ChainAt W' A n vs := by
  refine ⟨H.len, ?_⟩
  rcases H.form with h | ⟨g, h1, h2, h3⟩
  · exact .inl h
  · exact .inr ⟨g, h1, Nat.lt_of_lt_of_le h2 hb.size, fun j u hj => (hb.cell (p := ⟨g, j, none⟩) h2).trans (h3 j u hj)⟩
theorem ChainAt.nil (W : World) : ChainAt W none 0 [] := ⟨rfl, .inl ⟨rfl, rfl⟩⟩
theorem ChainAt.at_ {W : World} {A : Option Addr} {n : Nat} {vs : List Ver} (H : ChainAt W A n vs) {i : Nat} {v : Ver} (h : vs[i]? = some v) :
    ∃ g, A = some ⟨g, 0, none⟩ ∧ g < W.heap.size ∧ W.cell? ⟨g, i * 3, none⟩ = some (.int .i64 v.at_) ∧ W.cell? ⟨g, i * 3 + 1, none⟩ = some v.rv ∧ W.cell? ⟨g, i * 3 + 2, none⟩ = some (.bool v.gone) := by
  have hlt := (List.getElem?_eq_some_iff.1 h).1
  rcases H.form with ⟨-, h0⟩ | ⟨g, h1, h2, h3⟩
  · have := H.len; omega
  · obtain ⟨c1, c2, c3⟩ := cellsV_at h
    exact ⟨g, h1, h2, h3 _ _ c1, h3 _ _ c2, h3 _ _ c3⟩
theorem infoVer : ∃ i, Try.prog.info? 120 = some i ∧ i.zero = some (.agg #[.int .i64 0, .slice none 0 0, .bool false]) ∧ i.size = 3 ∧ i.bytes = 40 := by
  have h : (Try.prog.info? 120).map (fun i => (i.zero, i.size, i.bytes)) = some (some (.agg #[.int .i64 0, .slice none 0 0, .bool false]), 3, 40) := by kernel_rfl
  obtain ⟨i0, hi, hz0, hz1, hz2⟩ := info_parts h
  exact ⟨i0, hi, hz0, hz1, hz2⟩

/-- append of one version to a chain without room -/
theorem chain_app {W : World} {A : Option Addr} {n : Nat} {vs : List Ver} (H : ChainAt W A n vs) (hn : n ≤ 100000) (v : Ver) (b : Nat) (c0 : W.cell? ⟨b, 0, none⟩ = some (.int .i64 v.at_)) (c1 : W.cell? ⟨b, 1, none⟩ = some v.rv) (c2 : W.cell? ⟨b, 2, none⟩ = some (.bool v.gone)) :
    ∃ c' W', (Builtin.append_ #[113, 113] 113 #[.slice A n n, .slice (some ⟨b, 0, none⟩) 1 1]).run Try.prog W = .ok (.slice (some ⟨W.heap.size, 0, none⟩) (n + 1) c') W' ∧ n + 1 ≤ c' ∧ c' ≤ maxLen ∧ ChainAt W' (some ⟨W.heap.size, 0, none⟩) (n + 1) (vs ++ [v]) ∧ Below W.heap.size W W' := by
  obtain ⟨i, hi, hz, hsz, hby⟩ := infoVer
  have hnews : ∀ j u, (cellsV [v])[j]? = some u → W.cell? ((⟨b, 0, none⟩ : Addr).add j) = some u := fun j u hj => by
    rw [add_lit0]
    match j, hj with
    | 0, hj => obtain rfl : Value.int .i64 v.at_ = u := by simpa [cellsV] using hj
               exact c0
    | 1, hj => obtain rfl : v.rv = u := by simpa [cellsV] using hj
               exact c1
    | 2, hj => obtain rfl : Value.bool v.gone = u := by simpa [cellsV] using hj
               exact c2
    | j + 3, hj => simp [cellsV] at hj
  have hml : n + 1 ≤ maxLen := by unfold maxLen; omega
  have fin : ∀ (old : Nat), ChainAt (W.drew.alloc (.cells ((cellsV vs).toArray ++ (cellsV [v]).toArray ++ Builtin.zeroCells (Value.cells (.agg #[.int .i64 0, .slice none 0 0, .bool false])) (grownCap W (n + 1) old 120 - (n + 1))) 120)) (some ⟨W.heap.size, 0, none⟩) (n + 1) (vs ++ [v]) ∧ Below W.heap.size W (W.drew.alloc (.cells ((cellsV vs).toArray ++ (cellsV [v]).toArray ++ Builtin.zeroCells (Value.cells (.agg #[.int .i64 0, .slice none 0 0, .bool false])) (grownCap W (n + 1) old 120 - (n + 1))) 120)) := fun old => by
    have hb := Below.refl W.heap.size W
    refine ⟨⟨by simp [H.len], .inr ⟨W.heap.size, rfl, by simp, fun j u hj => ?_⟩⟩, by go_grown⟩
    have hB : Blk (W.drew.alloc (.cells ((cellsV vs).toArray ++ (cellsV [v]).toArray ++ Builtin.zeroCells (Value.cells (.agg #[.int .i64 0, .slice none 0 0, .bool false])) (grownCap W (n + 1) old 120 - (n + 1))) 120)) W.heap.size 120 _ := Blk.new W.drew 120 _
    rw [hB.cell j]
    rw [cellsV_append] at hj
    rw [Array.getElem?_append_left (by
      have := (List.getElem?_eq_some_iff.1 hj).1
      simpa using this)]
    simpa using hj
  rcases H.form with ⟨rfl, rfl⟩ | ⟨g, rfl, hg, hc⟩
  · have hx : vs = [] := List.eq_nil_of_length_eq_zero H.len
    subst hx
    have hr := run_append_nil (P := Try.prog) W 113 113 120 i _ Try.underlying113 hi hz ⟨b, 0, none⟩ 1 1 (cellsV [v]) (by rw [cellsV_len, hsz]; rfl) hnews (by omega) (by omega) (by rw [hby]; omega)
    have hf := fin 0
    refine ⟨_, _, hr, grownCap_ge W 1 0 120, grownCap_le_maxLen W 1 0 120 hml, ?_, ?_⟩
    · have := hf.1
      simpa [cellsV] using this
    · have := hf.2
      simpa [cellsV] using this
  · have hr := run_append_grow (P := Try.prog) W 113 113 120 i _ Try.underlying113 hi hz ⟨g, 0, none⟩ n n (cellsV vs) (by rw [cellsV_len, hsz, H.len]) (fun j u hj => by rw [add_lit0]; exact hc j u hj) ⟨b, 0, none⟩ 1 1 (cellsV [v]) (by rw [cellsV_len, hsz]; rfl) hnews (by omega) (by omega) (growslice_fits (by omega) (by rw [hby]; omega))
    have hf := fin n
    exact ⟨_, _, hr, grownCap_ge W (n + 1) n 120, grownCap_le_maxLen W (n + 1) n 120 hml, hf.1, hf.2⟩

set_option maxHeartbeats 1000000 in
/-- slices.Clip -/
theorem clip70 (w : World) (A : Option Addr) (n c : Nat) (hc : n ≤ c) (h0 : A = none → c = 0) : Calls Try.prog 70 #[.slice A n c] w fun e w' => e = .returned (.slice A n n) ∧ w' = w := by
  have hz : (n : Int) ≤ (c : Int) := by omega
  have hz0 : (0 : Int) ≤ (n : Int) := by omega
  cases A with
  | none =>
    obtain rfl : c = 0 := h0 rfl
    obtain rfl : n = 0 := by omega
    go_enter Try.func70, Try.ntmps70
    go_wp2
    go_ret
    exact ⟨rfl, rfl⟩
  | some a =>
    go_enter Try.func70, Try.ntmps70
    go_wp2
    go_ret
    exact ⟨by simp, rfl⟩

end Go.Proofs.Ytcidmaeclonilaa
