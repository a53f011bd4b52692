/- The rows of a tree, level by level: no program in sight. -/
import Derived.Test.YtcidmaeclonilaaShaped
namespace Go.Proofs.Ytcidmaeclonilaa
open Go

/-- the nodes one level down -/
def kidsOf (ts : List GT) : List GT := (ts.map GT.cs).flatten
def klens (ts : List GT) : List Nat := ts.map fun t => t.ks.length
/-- the rows from a level on -/
def rowsOf : Nat → List GT → List (List Nat)
  | 0, ts => [klens ts]
  | h + 1, ts => klens ts :: rowsOf h (kidsOf ts)

theorem rowsOf_len (h : Nat) : ∀ ts, (rowsOf h ts).length = h + 1 := by
  induction h with
  | zero => intro ts; rfl
  | succ h ih => intro ts; simp [rowsOf, ih]
theorem rowsOf_head (h : Nat) (ts : List GT) : (rowsOf h ts)[0]? = some (klens ts) := by cases h <;> rfl
theorem kids_len {h : Nat} : ∀ {ts : List GT}, (∀ t ∈ ts, BT (h + 1) t) → (kidsOf ts).length = (klens ts).sum + ts.length
  | [], _ => rfl
  | t :: ts, H => by
    have ih := kids_len (ts := ts) fun t ht => H t (by simp [ht])
    have h1 := (H t (by simp)).1
    simp only [kidsOf, klens, List.map_cons, List.flatten_cons, List.length_append, List.sum_cons, List.length_cons] at ih ⊢
    omega
theorem kids_bt {h : Nat} {ts : List GT} (H : ∀ t ∈ ts, BT (h + 1) t) : ∀ t ∈ kidsOf ts, BT h t ∧ 3 ≤ t.ks.length := by
  intro t ht
  obtain ⟨l, hl, htl⟩ := List.mem_flatten.1 ht
  obtain ⟨s, hs, rfl⟩ := List.mem_map.1 hl
  exact (H s hs).kid htl
theorem kids_leaf {ts : List GT} (H : ∀ t ∈ ts, BT 0 t) : kidsOf ts = [] := by
  unfold kidsOf
  rw [List.flatten_eq_nil_iff]
  intro l hl
  obtain ⟨s, hs, rfl⟩ := List.mem_map.1 hl
  exact (H s hs).1
theorem wr_len : ∀ (ps : List KV) (cs : List (List KV)), cs.length = ps.length → (wr ps cs).length = (cs.map List.length).sum + ps.length
  | [], [], _ => rfl
  | p :: ps, c :: cs, h => by
    have := wr_len ps cs (by simpa using h)
    simp only [wr, List.length_append, List.length_cons, this, List.map_cons, List.sum_cons]
    omega
  | [], _ :: _, h => by simp at h
  | _ :: _, [], h => by simp at h
theorem weave_len (cs : List (List KV)) (ps : List KV) (h : cs.length = ps.length + 1) : (weave cs ps).length = (cs.map List.length).sum + ps.length := by
  cases cs with
  | nil => simp at h
  | cons c cs =>
    have := wr_len ps cs (by simpa using h)
    simp only [weave, List.length_append, this, List.map_cons, List.sum_cons]
    omega
/-- how many pairs below a level -/
def cnt (h : Nat) (ts : List GT) : Nat := (ts.map fun t => (toL h t).length).sum
theorem cnt_append (h : Nat) (a b : List GT) : cnt h (a ++ b) = cnt h a + cnt h b := by simp [cnt]
theorem cnt_step {h : Nat} : ∀ {ts : List GT}, (∀ t ∈ ts, BT (h + 1) t) → cnt (h + 1) ts = (klens ts).sum + cnt h (kidsOf ts)
  | [], _ => rfl
  | t :: ts, H => by
    have ih := cnt_step (ts := ts) fun t ht => H t (by simp [ht])
    have B := H t (by simp)
    have h1 : (toL (h + 1) t).length = cnt h t.cs + t.ks.length := by
      show (weave (t.cs.map (toL h)) t.ps).length = _
      rw [weave_len _ _ (by rw [List.length_map, B.1, B.ps_len]), B.ps_len]
      simp [cnt, Function.comp_def]
    have e1 : cnt (h + 1) (t :: ts) = (toL (h + 1) t).length + cnt (h + 1) ts := by simp [cnt]
    have e2 : kidsOf (t :: ts) = t.cs ++ kidsOf ts := by simp [kidsOf]
    have e3 : (klens (t :: ts)).sum = t.ks.length + (klens ts).sum := by simp [klens]
    rw [e1, e2, e3, cnt_append, h1, ih]
    omega
theorem cnt_leaf : ∀ {ts : List GT}, (∀ t ∈ ts, BT 0 t) → cnt 0 ts = (klens ts).sum
  | [], _ => rfl
  | t :: ts, H => by
    have ih := cnt_leaf (ts := ts) fun t ht => H t (by simp [ht])
    have B := H t (by simp)
    have h1 : (toL 0 t).length = t.ks.length := B.ps_len
    simp only [cnt, klens, List.map_cons, List.sum_cons] at ih ⊢
    omega
theorem rows_sum {h : Nat} : ∀ {ts : List GT}, (∀ t ∈ ts, BT h t) → ((rowsOf h ts).map List.sum).sum = cnt h ts := by
  induction h with
  | zero => intro ts H; rw [cnt_leaf H]; simp [rowsOf]
  | succ h ih =>
    intro ts H
    rw [cnt_step H, ← ih fun t ht => (kids_bt H t ht).1]
    simp [rowsOf]
theorem rows_nxt {h : Nat} : ∀ {ts : List GT}, (∀ t ∈ ts, BT h t) → ∀ (i : Nat) (r r' : List Nat), (rowsOf h ts)[i]? = some r → (rowsOf h ts)[i + 1]? = some r' → r'.length = r.sum + r.length := by
  induction h with
  | zero => intro ts H i r r' h1 h2; simp [rowsOf] at h2
  | succ h ih =>
    intro ts H i r r' h1 h2
    cases i with
    | zero =>
      simp only [rowsOf, List.getElem?_cons_zero, List.getElem?_cons_succ, Option.some.injEq] at h1 h2
      rw [rowsOf_head] at h2
      cases h2
      subst h1
      rw [show (klens (kidsOf ts)).length = (kidsOf ts).length by simp [klens], kids_len H]
      simp [klens]
    | succ i =>
      simp only [rowsOf, List.getElem?_cons_succ] at h1 h2
      exact ih (fun t ht => (kids_bt H t ht).1) i r r' h1 h2
theorem rows_le {h : Nat} : ∀ {ts : List GT} {m : Nat}, (∀ t ∈ ts, BT h t ∧ m ≤ t.ks.length) → ∀ (i : Nat) (r : List Nat), (rowsOf h ts)[i]? = some r → ∀ c ∈ r, c ≤ 7 ∧ (0 < i → 3 ≤ c) ∧ (i = 0 → m ≤ c) := by
  have head : ∀ {h : Nat} {ts : List GT} {m : Nat}, (∀ t ∈ ts, BT h t ∧ m ≤ t.ks.length) → ∀ c ∈ klens ts, c ≤ 7 ∧ m ≤ c := fun H c hc => by
    obtain ⟨t, ht, rfl⟩ := List.mem_map.1 hc
    exact ⟨(H t ht).1.ks, (H t ht).2⟩
  induction h with
  | zero =>
    intro ts m H i r hr c hc
    cases i with
    | zero =>
      obtain rfl : klens ts = r := by simpa [rowsOf] using hr
      have := head H c hc
      exact ⟨this.1, fun h => absurd h (by omega), fun _ => this.2⟩
    | succ i => simp [rowsOf] at hr
  | succ h ih =>
    intro ts m H i r hr c hc
    cases i with
    | zero =>
      obtain rfl : klens ts = r := by simpa [rowsOf] using hr
      have := head H c hc
      exact ⟨this.1, fun h => absurd h (by omega), fun _ => this.2⟩
    | succ i =>
      simp only [rowsOf, List.getElem?_cons_succ] at hr
      have := ih (m := 3) (fun t ht => kids_bt (fun t ht => (H t ht).1) t ht) i r hr c hc
      refine ⟨this.1, fun _ => ?_, fun h => absurd h (by omega)⟩
      cases i with
      | zero => exact this.2.2 rfl
      | succ i => exact this.2.1 (by omega)
/-- a tree of height h with nodes at least half full holds many -/
theorem cnt_most {h : Nat} : ∀ {ts : List GT}, (∀ t ∈ ts, BT h t ∧ 3 ≤ t.ks.length) → ts.length * 4 ^ (h + 1) ≤ cnt h ts + ts.length := by
  have sum3 : ∀ {h : Nat} {ts : List GT}, (∀ t ∈ ts, BT h t ∧ 3 ≤ t.ks.length) → 3 * ts.length ≤ (klens ts).sum := by
    intro h ts
    induction ts with
    | nil => intro _; simp
    | cons t ts ih =>
      intro H
      have h1 := (H t (by simp)).2
      have h2 := ih fun t ht => H t (by simp [ht])
      simp only [klens, List.map_cons, List.sum_cons, List.length_cons] at h2 ⊢
      omega
  induction h with
  | zero =>
    intro ts H
    have := sum3 H
    rw [cnt_leaf fun t ht => (H t ht).1]
    omega
  | succ h ih =>
    intro ts H
    have B : ∀ t ∈ ts, BT (h + 1) t := fun t ht => (H t ht).1
    have h1 := ih (ts := kidsOf ts) (kids_bt B)
    have h2 := sum3 H
    rw [cnt_step B]
    have h3 := kids_len B
    have h4 : 4 * ts.length * 4 ^ (h + 1) ≤ (kidsOf ts).length * 4 ^ (h + 1) := Nat.mul_le_mul_right _ (by omega)
    have h5 : ts.length * 4 ^ (h + 1 + 1) = 4 * ts.length * 4 ^ (h + 1) := by rw [Nat.pow_succ]; ac_rfl
    omega
theorem rows_shp {h : Nat} {t : GT} (B : BT h t) (h0 : 0 < t.ks.length) : Shp (rowsOf h [t]) (toL h t).length := by
  have B1 : ∀ s ∈ [t], BT h s ∧ 1 ≤ s.ks.length := fun s hs => by
    obtain rfl : s = t := by simpa using hs
    exact ⟨B, h0⟩
  refine ⟨by rw [rowsOf_len]; omega, ?_, fun r hr => ?_, fun i r hr c hc => ?_, rows_nxt fun s hs => (B1 s hs).1, ?_⟩
  · rw [rowsOf_len, Nat.add_sub_cancel]
    cases h with
    | zero =>
      have : (toL 0 t).length = t.ks.length := B.ps_len
      omega
    | succ h =>
      have e := cnt_step (ts := [t]) fun s hs => (B1 s hs).1
      have h1 := cnt_most (ts := kidsOf [t]) (kids_bt fun s hs => (B1 s hs).1)
      have h2 := kids_len (ts := [t]) fun s hs => (B1 s hs).1
      have h3 : 2 * 4 ^ (h + 1) ≤ (kidsOf [t]).length * 4 ^ (h + 1) := Nat.mul_le_mul_right _ (by
        rw [h2]; simp [klens]; omega)
      simp only [cnt, klens, List.map_cons, List.map_nil, List.sum_cons, List.sum_nil, List.length_cons, List.length_nil] at e h1 h2
      omega
  · rw [rowsOf_head] at hr
    cases hr; rfl
  · have := rows_le B1 i r hr c hc
    refine ⟨?_, this.1, this.2.1⟩
    cases i with
    | zero => exact this.2.2 rfl
    | succ i => have := this.2.1 (by omega); omega
  · rw [rows_sum fun s hs => (B1 s hs).1]; simp [cnt]

end Go.Proofs.Ytcidmaeclonilaa
