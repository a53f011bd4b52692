/- What the arguments hold, opened; bounds by their bulk. What the arguments of layer 23's statements hold, opened: a statement, tables, rows, labels. -/
import Derived.Test.YtbcmmecilheicaaGreatDoorRows
import Derived.Test.YtbcmmecilheicaaGreatDoorOfA
import Derived.ProofKit
import Derived.Deep.Slices
import Derived.SliceStrings
import Derived.Lib.SmallJoins
import Derived.Lib.Hide
import Derived.Deep.Fields
import Derived.ChangeSame
import Derived.SizedLaws
import Derived.Test.YtbcmmecilheicaaGreatDoorQpA
import Derived.Test.YtbcmmecilheicaaGreatDoorSumA
import Derived.Test.YtbcmmecilheicaaGreatDoorCelA

/- What the arguments hold, opened; bounds by their bulk. -/
namespace Go.Proofs.YtbcmmecilheicaaGreatDoor
open Go Go.Deep Go.Joins Go.ChangeShapes Go.WideShapes Go.ChangeAt Go.RowKit

theorem cells26 : Tryz.prog.cellsOf 26 = 4 := by kernel_rfl
theorem cells9 : Tryz.prog.cellsOf 9 = 1 := by kernel_rfl
theorem cells3 : Tryz.prog.cellsOf 3 = 1 := by kernel_rfl
theorem cells4 : Tryz.prog.cellsOf 4 = 1 := by kernel_rfl
theorem cells22 : Tryz.prog.cellsOf 22 = 1 := by kernel_rfl
theorem cells24 : Tryz.prog.cellsOf 24 = 2 := by kernel_rfl
theorem cells27 : Tryz.prog.cellsOf 27 = 1 := by kernel_rfl
theorem cells29 : Tryz.prog.cellsOf 29 = 7 := by kernel_rfl
theorem cells30 : Tryz.prog.cellsOf 30 = 1 := by kernel_rfl
theorem cells32 : Tryz.prog.cellsOf 32 = 2 := by kernel_rfl
theorem cells33 : Tryz.prog.cellsOf 33 = 1 := by kernel_rfl
theorem cells106 : Tryz.prog.cellsOf 106 = 4 := by kernel_rfl
theorem add_offR (b off j : Nat) : (⟨b, off, none⟩ : Addr).add j = ⟨b, off + j, none⟩ := by
 unfold Addr.add; split <;> simp_all

theorem bulk_one {H : Type} (d : DataW H) : 1 ≤ Rows.uptoBulk d := by
 cases d with
 | lit l => cases l <;> simp [Rows.uptoBulk]
 | nil => simp [Rows.uptoBulk]
 | ptr d => simp [Rows.uptoBulk]
 | slice elems spare => simp [Rows.uptoBulk]
 | agg parts => simp [Rows.uptoBulk]
 | iface t d => simp [Rows.uptoBulk]
 | map entries => simp [Rows.uptoBulk]
 | held h => simp [Rows.uptoBulk]
theorem bulk_part {H : Type} {d : DataW H} {l : List (DataW H)} (h : d ∈ l) : Rows.uptoBulk d ≤ Rows.uptoBulkAll l := by
 induction l with
 | nil => cases h
 | cons x r ih =>
  simp only [Rows.uptoBulkAll]
  cases List.mem_cons.1 h with
  | inl e => subst e; omega
  | inr e => have := ih e; omega
theorem bulk_len {H : Type} (l : List (DataW H)) : l.length ≤ Rows.uptoBulkAll l := by
 induction l with
 | nil => simp [Rows.uptoBulkAll]
 | cons x r ih => have := bulk_one x; simp only [Rows.uptoBulkAll, List.length_cons]; omega
theorem bulk_field {H : Type} {xs : List (DataW H × List MemPlace)} {j : Nat} {y : DataW H × List MemPlace} (hy : xs[j]? = some y) : Rows.uptoBulk y.1 + 1 ≤ Rows.uptoBulk (DataW.agg (xs.map (·.1))) := by
 have := bulk_part (List.mem_map.2 ⟨y, List.mem_of_getElem? hy, rfl⟩ : y.1 ∈ xs.map (·.1))
 simp only [Rows.uptoBulk]
 omega

section
variable {H : Type} {enc : TypeId × Value → H} {W : World} {sp : Nat → Bool} {held : Bool}
theorem open_str {fuel : Nat} {cs : List Value} {x : DataW H × List MemPlace} (h : DataW.trod enc Tryz.prog W 0 sp held fuel 9 cs = some x) : ∃ z : ByteArray, cs = [.string z] ∧ z.size ≤ Rows.uptoBulk x.1 := by
 obtain ⟨z, e, q, -⟩ := DataW.trod_string Tryz.underlying9 h
 refine ⟨z, e, ?_⟩
 rw [q]
 simp only [Rows.uptoBulk]
 rw [show z.data.toList.length = z.size from by rw [Array.length_toList]; rfl]
 omega
set_option maxRecDepth 100000 in
/-- a value, opened -/
theorem open_val {fuel : Nat} {cs : List Value} {x : DataW H × List MemPlace} (h : DataW.trod enc Tryz.prog W 0 sp held fuel 26 cs = some x) :
  ∃ v : Val, cs = [.int .i64 v.kind, .int .i64 v.int, .string v.text, .bool v.bool] ∧ v.text.size ≤ Rows.uptoBulk x.1 := by
 obtain ⟨xs, n, -, hx, hlen, hxl, hf⟩ := DataW.trod_struct Tryz.underlying26 h
 rw [cells26] at hlen
 match cs, hlen, xs, hxl with
 | [c0, c1, c2, c3], _, [y0, y1, y2, y3], _ =>
  have h0 : DataW.trod enc Tryz.prog W 0 sp held n 3 ((List.drop 0 [c0, c1, c2, c3]).take (Tryz.prog.cellsOf 3)) = some y0 := hf 0 _ rfl
  have h1 : DataW.trod enc Tryz.prog W 0 sp held n 3 ((List.drop 1 [c0, c1, c2, c3]).take (Tryz.prog.cellsOf 3)) = some y1 := hf 1 _ rfl
  have h2 : DataW.trod enc Tryz.prog W 0 sp held n 9 ((List.drop 2 [c0, c1, c2, c3]).take (Tryz.prog.cellsOf 9)) = some y2 := hf 2 _ rfl
  have h3 : DataW.trod enc Tryz.prog W 0 sp held n 4 ((List.drop 3 [c0, c1, c2, c3]).take (Tryz.prog.cellsOf 4)) = some y3 := hf 3 _ rfl
  rw [cells3] at h0 h1
  rw [cells9] at h2
  rw [cells4] at h3
  obtain ⟨k, e0, -, -⟩ := DataW.trod_int Tryz.underlying3 h0
  obtain ⟨i, e1, -, -⟩ := DataW.trod_int Tryz.underlying3 h1
  obtain ⟨z, e2, q2⟩ := open_str h2
  obtain ⟨g, e3, -⟩ := DataW.trod_bool Tryz.underlying4 h3
  simp at e0 e1 e2 e3
  subst e0 e1 e2 e3
  refine ⟨⟨k, i, z, g⟩, rfl, ?_⟩
  have := bulk_field (xs := [y0, y1, y2, y3]) (j := 2) rfl
  rw [hx]
  show z.size ≤ Rows.uptoBulk (DataW.agg ([y0, y1, y2, y3].map (·.1)))
  omega
/-- a slice, opened: its elements -/
theorem open_elems {t e : TypeId} {fuel : Nat} {v : Value} {x : DataW H × List MemPlace} (ht : Tryz.prog.underlying t = some (.slice e)) (h : DataW.trod enc Tryz.prog W 0 sp held fuel t [v] = some x) :
  (v = .slice none 0 0) ∨ ∃ (a : Addr) (len cap n : Nat), n < fuel ∧ v = .slice (some a) len cap ∧ len + 1 ≤ Rows.uptoBulk x.1 ∧
   ∀ i, i < len → ∃ cs' y, W.cells? 0 (a.add (i * Tryz.prog.cellsOf e)) (Tryz.prog.cellsOf e) = some cs' ∧ DataW.trod enc Tryz.prog W 0 sp held n e cs' = some y ∧ Rows.uptoBulk y.1 + 1 ≤ Rows.uptoBulk x.1 := by
 rcases DataW.trod_slice ht h with ⟨h0, -⟩ | ⟨a, len, cap, elems, rest, n, hn, hv, hx, -, -, -, hlen, hel, -, -⟩
 ·exact .inl (by simpa using h0)
 ·have hb : Rows.uptoBulk x.1 = Rows.uptoBulkAll (elems.map (·.1)) + Rows.uptoBulkAll (rest.map (·.1)) + 1 := by rw [hx]; simp only [Rows.uptoBulk]
  refine .inr ⟨a, len, cap, n, by omega, by simpa using hv, ?_, fun i hi => ?_⟩
  ·have := bulk_len (elems.map (·.1))
   rw [List.length_map, hlen] at this
   omega
  ·have hi' : i < elems.length := by omega
   have key := hel i hi
   rw [List.getElem?_eq_getElem hi'] at key
   obtain ⟨cs', h1, h2⟩ := Option.bind_eq_some_iff.1 key
   refine ⟨cs', _, h1, h2, ?_⟩
   have := bulk_part (List.mem_map.2 ⟨elems[i], List.getElem_mem hi', rfl⟩ : elems[i].1 ∈ elems.map (·.1))
   omega
theorem spot_none {a : Addr} {v : Value} (h : W.cell? a = some v) : a = ⟨a.block, a.off, none⟩ := by
 obtain ⟨b, off, spot⟩ := a
 have := World.cell?_spot h
 simp at this
 subst this
 rfl
theorem spot0 {a : Addr} {v : Value} (h : W.cell? (a.add 0) = some v) : ∃ b off, a = ⟨b, off, none⟩ ∧ b < W.heap.size := by
 have hz : a.add 0 = a := by
  obtain ⟨b, off, spot⟩ := a
  unfold Addr.add
  split <;> simp_all
 rw [hz] at h
 exact ⟨a.block, a.off, spot_none h, World.block_lt_of_cell? _ _ h⟩
/-- the seven cells -/
@[reducible] def pexL (x : PEx) (A : Option Addr) (n c : Nat) : List Value :=
 [.string x.op, .int .i64 x.val.kind, .int .i64 x.val.int, .string x.val.text, .bool x.val.bool, .string x.name, .slice A n c]
theorem depthL_le {k : Nat} : ∀ (l : List PEx), (∀ e ∈ l, depthP e ≤ k) → depthL l ≤ k
 | [], _ => by rw [depthL_nil]; exact Nat.zero_le _
 | x :: xs, h => by
  rw [depthL_cons]
  exact Nat.max_le.2 ⟨h x (by simp), depthL_le xs (fun e he => h e (by simp [he]))⟩
set_option maxRecDepth 100000 in
/-- a parsed expression, opened -/
theorem open_pex : ∀ (fuel : Nat) (cs : List Value) (x : DataW H × List MemPlace), DataW.trod enc Tryz.prog W 0 sp held fuel 29 cs = some x → Rows.uptoBulk x.1 ≤ 1048576 →
  ∃ (e : PEx) (A : Option Addr) (n c : Nat), cs = pexL e A n c ∧ PExIs W e A n c ∧ depthP e ≤ Rows.uptoBulk x.1 := by
 intro fuel
 induction fuel using Nat.strongRecOn with
 | _ fuel ih =>
  intro cs x h hs
  obtain ⟨xs, n, hn, hx, hlen, hxl, hf⟩ := DataW.trod_struct Tryz.underlying29 h
  rw [cells29] at hlen
  match cs, hlen, xs, hxl with
  | [c0, c1, c2, c3, c4, c5, c6], _, [y0, y1, y2, y3], _ =>
   have h0 : DataW.trod enc Tryz.prog W 0 sp held n 9 ((List.drop 0 [c0, c1, c2, c3, c4, c5, c6]).take (Tryz.prog.cellsOf 9)) = some y0 := hf 0 _ rfl
   have h1 : DataW.trod enc Tryz.prog W 0 sp held n 26 ((List.drop 1 [c0, c1, c2, c3, c4, c5, c6]).take (Tryz.prog.cellsOf 26)) = some y1 := hf 1 _ rfl
   have h2 : DataW.trod enc Tryz.prog W 0 sp held n 9 ((List.drop 5 [c0, c1, c2, c3, c4, c5, c6]).take (Tryz.prog.cellsOf 9)) = some y2 := hf 2 _ rfl
   have h3 : DataW.trod enc Tryz.prog W 0 sp held n 27 ((List.drop 6 [c0, c1, c2, c3, c4, c5, c6]).take (Tryz.prog.cellsOf 27)) = some y3 := hf 3 _ rfl
   rw [cells9] at h0 h2
   rw [cells26] at h1
   rw [cells27] at h3
   have u0 := bulk_field (xs := [y0, y1, y2, y3]) (j := 0) rfl
   have u1 := bulk_field (xs := [y0, y1, y2, y3]) (j := 1) rfl
   have u2 := bulk_field (xs := [y0, y1, y2, y3]) (j := 2) rfl
   have u3 := bulk_field (xs := [y0, y1, y2, y3]) (j := 3) rfl
   have hxb : Rows.uptoBulk x.1 = Rows.uptoBulk (DataW.agg ([y0, y1, y2, y3].map (·.1))) := by rw [hx]
   rw [← hxb] at u0 u1 u2 u3
   obtain ⟨op, e0, z0⟩ := open_str h0
   obtain ⟨v, e1, z1⟩ := open_val h1
   obtain ⟨nm, e2, z2⟩ := open_str h2
   simp at e0 e1 e2
   obtain ⟨e10, e11, e12, e13⟩ := e1
   subst e0 e10 e11 e12 e13 e2
   have t0 : op.size ≤ TB := by unfold TB; omega
   have t1 : v.text.size ≤ TB := by unfold TB; omega
   have t2 : nm.size ≤ TB := by unfold TB; omega
   have h3' : DataW.trod enc Tryz.prog W 0 sp held n 27 [c6] = some y3 := h3
   rcases open_elems Tryz.underlying27 h3' with rfl | ⟨a, len, cap, m, hm, rfl, hby, hi⟩
   ·refine ⟨.mk op v nm [], none, 0, 0, rfl, .mk op v nm [] none 0 0 rfl (Nat.zero_le _) t0 t1 t2 0 0 (fun h => absurd h (Nat.lt_irrefl 0)) (fun _ => none) (fun _ => 0) (fun _ => 0) (fun j e hj => by simp at hj) (fun j e hj => by simp at hj), ?_⟩
    rw [depthP_mk, depthL_nil]
    omega
   ·simp only [cells29] at hi
    classical
    have pick : ∀ j : Nat, ∃ p : PEx × Option Addr × Nat × Nat, j < len → W.cells? 0 (a.add (j * 7)) 7 = some (pexL p.1 p.2.1 p.2.2.1 p.2.2.2) ∧ PExIs W p.1 p.2.1 p.2.2.1 p.2.2.2 ∧ depthP p.1 + 1 ≤ Rows.uptoBulk y3.1 := fun j => by
     by_cases hj : j < len
     ·obtain ⟨cs', y, hc, hy, hw⟩ := hi j hj
      obtain ⟨e, A, k, c, rfl, he, hd⟩ := ih m (by omega) cs' y hy (by omega)
      exact ⟨(e, A, k, c), fun _ => ⟨hc, he, by show depthP e + 1 ≤ _; omega⟩⟩
     ·exact ⟨(.mk ⟨#[]⟩ Val.null ⟨#[]⟩ [], none, 0, 0), fun h => absurd h hj⟩
    let F : Nat → PEx × Option Addr × Nat × Nat := fun j => (pick j).choose
    have hF : ∀ j, j < len → W.cells? 0 (a.add (j * 7)) 7 = some (pexL (F j).1 (F j).2.1 (F j).2.2.1 (F j).2.2.2) ∧ PExIs W (F j).1 (F j).2.1 (F j).2.2.1 (F j).2.2.2 ∧ depthP (F j).1 + 1 ≤ Rows.uptoBulk y3.1 := fun j => (pick j).choose_spec
    have hl : ∀ (j : Nat) (e : PEx), ((List.range len).map fun j => (F j).1)[j]? = some e → j < len ∧ e = (F j).1 := fun j e hj => by
     have hj1 : j < len := by
      have := (List.getElem?_eq_some_iff.1 hj).1
      simpa using this
     rw [List.getElem?_map, List.getElem?_range hj1] at hj
     exact ⟨hj1, (by simpa using hj.symm)⟩
    have hpos : ∀ j, j < len → a = ⟨a.block, a.off, none⟩ ∧ a.block < W.heap.size := fun j hj => by
     obtain ⟨-, -, hat⟩ := World.cells?_some (hF 0 (by omega)).1
     have h0 := hat 0 (by omega)
     rw [Nat.zero_mul, Go.Deep.add_add, Nat.add_zero] at h0
     have hz : a.add 0 = a := by
      obtain ⟨b, off, spot⟩ := a
      unfold Addr.add
      split <;> simp_all
     rw [hz] at h0
     exact ⟨spot_none h0, World.block_lt_of_cell? _ _ h0⟩
    refine ⟨.mk op v nm ((List.range len).map fun j => (F j).1), some a, len, cap, rfl, .mk op v nm _ (some a) len cap (by simp) (by omega) t0 t1 t2 a.block a.off (fun h => ⟨congrArg some (hpos 0 h).1, (hpos 0 h).2⟩)
     (fun j => (F j).2.1) (fun j => (F j).2.2.1) (fun j => (F j).2.2.2) (fun j e hj => ?_) (fun j e hj => ?_), ?_⟩
    ·obtain ⟨hj1, rfl⟩ := hl j e hj
     obtain ⟨ha, -⟩ := hpos j hj1
     obtain ⟨-, -, hat⟩ := World.cells?_some (hF j hj1).1
     have each : ∀ k, k < 7 → W.cell? ⟨a.block, a.off + j * 7 + k, none⟩ = (pexL (F j).1 (F j).2.1 (F j).2.2.1 (F j).2.2.2)[k]? := fun k hk => by
      have := hat k hk
      rw [ha, add_offR, add_offR] at this
      exact this
     exact ⟨each 0 (by omega), each 1 (by omega), each 2 (by omega), each 3 (by omega), each 4 (by omega), each 5 (by omega), each 6 (by omega)⟩
    ·obtain ⟨hj1, rfl⟩ := hl j e hj
     exact (hF j hj1).2.1
    ·rw [depthP_mk]
     have := depthL_le (k := Rows.uptoBulk y3.1) ((List.range len).map fun j => (F j).1) (fun e he => by
      obtain ⟨j, hj, rfl⟩ := List.mem_map.1 he
      have := (hF j (List.mem_range.1 hj)).2.2
      omega)
     omega
/-- a slice of values, opened -/
theorem open_vals {fuel : Nat} {v : Value} {x : DataW H × List MemPlace} (h : DataW.trod enc Tryz.prog W 0 sp held fuel 30 [v] = some x) :
  ∃ (A : Option Addr) (n c : Nat) (l : List Val), v = .slice A n c ∧ ValsAt W A n l ∧ (∀ u ∈ l, u.text.size ≤ Rows.uptoBulk x.1) ∧ n ≤ Rows.uptoBulk x.1 := by
 rcases open_elems Tryz.underlying30 h with rfl | ⟨a, len, cap, m, -, rfl, hlen, hi⟩
 ·exact ⟨none, 0, 0, [], rfl, ValsAt.nil W none, (fun u hu => by cases hu), Nat.zero_le _⟩
 ·simp only [cells26] at hi
  classical
  have pick : ∀ j : Nat, ∃ u : Val, j < len → W.cells? 0 (a.add (j * 4)) 4 = some [.int .i64 u.kind, .int .i64 u.int, .string u.text, .bool u.bool] ∧ u.text.size ≤ Rows.uptoBulk x.1 := fun j => by
   by_cases hj : j < len
   ·obtain ⟨cs', y, hc, hy, hw⟩ := hi j hj
    obtain ⟨u, rfl, hu⟩ := open_val hy
    exact ⟨u, fun _ => ⟨hc, by omega⟩⟩
   ·exact ⟨Val.null, fun h => absurd h hj⟩
  let F : Nat → Val := fun j => (pick j).choose
  have hF : ∀ j, j < len → W.cells? 0 (a.add (j * 4)) 4 = some [.int .i64 (F j).kind, .int .i64 (F j).int, .string (F j).text, .bool (F j).bool] ∧ (F j).text.size ≤ Rows.uptoBulk x.1 := fun j => (pick j).choose_spec
  refine ⟨some a, len, cap, (List.range len).map F, rfl, ⟨by simp, fun j u hj => ?_⟩, fun u hu => ?_, by omega⟩
  ·have hj1 : j < len := by
    have := (List.getElem?_eq_some_iff.1 hj).1
    simpa using this
   rw [List.getElem?_map, List.getElem?_range hj1] at hj
   obtain rfl : F j = u := by simpa using hj
   obtain ⟨-, -, hat⟩ := World.cells?_some (hF j hj1).1
   obtain ⟨-, -, hat0⟩ := World.cells?_some (hF 0 (by omega)).1
   have h00 := hat0 0 (by omega)
   rw [Nat.zero_mul, Go.Deep.add_add, Nat.add_zero] at h00
   obtain ⟨b, off, ha, hb⟩ := spot0 h00
   have each : ∀ k, k < 4 → W.cell? ⟨b, off + j * 4 + k, none⟩ = ([.int .i64 (F j).kind, .int .i64 (F j).int, .string (F j).text, .bool (F j).bool] : List Value)[k]? := fun k hk => by
    have := hat k hk
    rw [ha, add_offR, add_offR] at this
    exact this
   exact ⟨b, off, congrArg some ha, hb, each 0 (by omega), each 1 (by omega), each 2 (by omega), each 3 (by omega)⟩
  ·obtain ⟨j, hj, rfl⟩ := List.mem_map.1 hu
   exact (hF j (List.mem_range.1 hj)).2
/-- a slice of texts, opened -/
theorem open_strs {fuel : Nat} {v : Value} {x : DataW H × List MemPlace} (h : DataW.trod enc Tryz.prog W 0 sp held fuel 33 [v] = some x) :
  ∃ (A : Option Addr) (n c : Nat) (l : List ByteArray), v = .slice A n c ∧ StrsAt W A n l ∧ (∀ u ∈ l, u.size ≤ Rows.uptoBulk x.1) ∧ n ≤ Rows.uptoBulk x.1 := by
 rcases open_elems Tryz.underlying33 h with rfl | ⟨a, len, cap, m, -, rfl, hlen, hi⟩
 ·exact ⟨none, 0, 0, [], rfl, ⟨rfl, fun j z hz => by simp at hz⟩, (fun u hu => by cases hu), Nat.zero_le _⟩
 ·simp only [cells9, Nat.mul_one] at hi
  classical
  have pick : ∀ j : Nat, ∃ u : ByteArray, j < len → W.cells? 0 (a.add j) 1 = some [.string u] ∧ u.size ≤ Rows.uptoBulk x.1 := fun j => by
   by_cases hj : j < len
   ·obtain ⟨cs', y, hc, hy, hw⟩ := hi j hj
    obtain ⟨z, rfl, q⟩ := open_str hy
    exact ⟨z, fun _ => ⟨hc, by omega⟩⟩
   ·exact ⟨⟨#[]⟩, fun h => absurd h hj⟩
  let F : Nat → ByteArray := fun j => (pick j).choose
  have hF : ∀ j, j < len → W.cells? 0 (a.add j) 1 = some [.string (F j)] ∧ (F j).size ≤ Rows.uptoBulk x.1 := fun j => (pick j).choose_spec
  refine ⟨some a, len, cap, (List.range len).map F, rfl, ⟨by simp, fun j u hj => ?_⟩, fun u hu => ?_, by omega⟩
  ·have hj1 : j < len := by
    have := (List.getElem?_eq_some_iff.1 hj).1
    simpa using this
   rw [List.getElem?_map, List.getElem?_range hj1] at hj
   obtain rfl : F j = u := by simpa using hj
   obtain ⟨-, -, hat⟩ := World.cells?_some (hF j hj1).1
   obtain ⟨-, -, hat0⟩ := World.cells?_some (hF 0 (by omega)).1
   have h00 := hat0 0 (by omega)
   rw [Go.Deep.add_add, Nat.add_zero] at h00
   obtain ⟨b, off, ha, hb⟩ := spot0 h00
   have h0 := hat 0 (by omega)
   rw [ha, add_offR, add_offR, Nat.add_zero] at h0
   exact ⟨b, off, congrArg some ha, hb, h0⟩
  ·obtain ⟨j, hj, rfl⟩ := List.mem_map.1 hu
   exact (hF j (List.mem_range.1 hj)).2
set_option maxRecDepth 100000 in
/-- a column, opened -/
theorem open_col {fuel : Nat} {cs : List Value} {x : DataW H × List MemPlace} (h : DataW.trod enc Tryz.prog W 0 sp held fuel 106 cs = some x) :
  ∃ c : Col, cs = [.string c.name, .int .i64 c.kind, .bool c.key, .bool c.null] := by
 obtain ⟨xs, n, -, hx, hlen, hxl, hf⟩ := DataW.trod_struct Tryz.underlying106 h
 rw [cells106] at hlen
 match cs, hlen, xs, hxl with
 | [c0, c1, c2, c3], _, [y0, y1, y2, y3], _ =>
  have h0 : DataW.trod enc Tryz.prog W 0 sp held n 9 ((List.drop 0 [c0, c1, c2, c3]).take (Tryz.prog.cellsOf 9)) = some y0 := hf 0 _ rfl
  have h1 : DataW.trod enc Tryz.prog W 0 sp held n 3 ((List.drop 1 [c0, c1, c2, c3]).take (Tryz.prog.cellsOf 3)) = some y1 := hf 1 _ rfl
  have h2 : DataW.trod enc Tryz.prog W 0 sp held n 4 ((List.drop 2 [c0, c1, c2, c3]).take (Tryz.prog.cellsOf 4)) = some y2 := hf 2 _ rfl
  have h3 : DataW.trod enc Tryz.prog W 0 sp held n 4 ((List.drop 3 [c0, c1, c2, c3]).take (Tryz.prog.cellsOf 4)) = some y3 := hf 3 _ rfl
  rw [cells9] at h0
  rw [cells3] at h1
  rw [cells4] at h2 h3
  obtain ⟨z, e0, -⟩ := open_str h0
  obtain ⟨k, e1, -, -⟩ := DataW.trod_int Tryz.underlying3 h1
  obtain ⟨g, e2, -⟩ := DataW.trod_bool Tryz.underlying4 h2
  obtain ⟨q, e3, -⟩ := DataW.trod_bool Tryz.underlying4 h3
  simp at e0 e1 e2 e3
  subst e0 e1 e2 e3
  exact ⟨⟨z, k, g, q⟩, rfl⟩
/-- a slice of columns, opened -/
theorem open_cols {fuel : Nat} {v : Value} {x : DataW H × List MemPlace} (h : DataW.trod enc Tryz.prog W 0 sp held fuel 22 [v] = some x) :
  ∃ (A : Option Addr) (n c : Nat) (l : List Col), v = .slice A n c ∧ ColsAt W A n l ∧ n ≤ Rows.uptoBulk x.1 := by
 rcases open_elems Tryz.underlying22 h with rfl | ⟨a, len, cap, m, -, rfl, hlen, hi⟩
 ·exact ⟨none, 0, 0, [], rfl, ⟨rfl, fun j e hj => by simp at hj⟩, Nat.zero_le _⟩
 ·simp only [cells106] at hi
  classical
  have pick : ∀ j : Nat, ∃ u : Col, j < len → W.cells? 0 (a.add (j * 4)) 4 = some [.string u.name, .int .i64 u.kind, .bool u.key, .bool u.null] := fun j => by
   by_cases hj : j < len
   ·obtain ⟨cs', y, hc, hy, hw⟩ := hi j hj
    obtain ⟨u, rfl⟩ := open_col hy
    exact ⟨u, fun _ => hc⟩
   ·exact ⟨⟨⟨#[]⟩, 0, false, false⟩, fun h => absurd h hj⟩
  let F : Nat → Col := fun j => (pick j).choose
  have hF : ∀ j, j < len → W.cells? 0 (a.add (j * 4)) 4 = some [.string (F j).name, .int .i64 (F j).kind, .bool (F j).key, .bool (F j).null] := fun j => (pick j).choose_spec
  refine ⟨some a, len, cap, (List.range len).map F, rfl, ⟨by simp, fun j u hj => ?_⟩, by omega⟩
  have hj1 : j < len := by
   have := (List.getElem?_eq_some_iff.1 hj).1
   simpa using this
  rw [List.getElem?_map, List.getElem?_range hj1] at hj
  obtain rfl : F j = u := by simpa using hj
  obtain ⟨-, -, hat⟩ := World.cells?_some (hF j hj1)
  obtain ⟨-, -, hat0⟩ := World.cells?_some (hF 0 (by omega))
  have h00 := hat0 0 (by omega)
  rw [Nat.zero_mul, Go.Deep.add_add, Nat.add_zero] at h00
  obtain ⟨b, off, ha, hb⟩ := spot0 h00
  have each : ∀ k, k < 4 → W.cell? ⟨b, off + j * 4 + k, none⟩ = ([.string (F j).name, .int .i64 (F j).kind, .bool (F j).key, .bool (F j).null] : List Value)[k]? := fun k hk => by
   have := hat k hk
   rw [ha, add_offR, add_offR] at this
   exact this
  exact ⟨b, off, congrArg some ha, hb, each 0 (by omega), each 1 (by omega), each 2 (by omega), each 3 (by omega)⟩
set_option maxRecDepth 100000 in
/-- a table, opened -/
theorem open_table {fuel : Nat} {cs : List Value} {x : DataW H × List MemPlace} (h : DataW.trod enc Tryz.prog W 0 sp held fuel 24 cs = some x) :
  ∃ (tn : ByteArray) (A : Option Addr) (n c : Nat) (cols : List Col), cs = [.string tn, .slice A n c] ∧ ColsAt W A n cols ∧ n ≤ Rows.uptoBulk x.1 ∧ tn.size ≤ Rows.uptoBulk x.1 := by
 obtain ⟨xs, n, -, hx, hlen, hxl, hf⟩ := DataW.trod_struct Tryz.underlying24 h
 rw [cells24] at hlen
 match cs, hlen, xs, hxl with
 | [c0, c1], _, [y0, y1], _ =>
  have h0 : DataW.trod enc Tryz.prog W 0 sp held n 9 ((List.drop 0 [c0, c1]).take (Tryz.prog.cellsOf 9)) = some y0 := hf 0 _ rfl
  have h1 : DataW.trod enc Tryz.prog W 0 sp held n 22 ((List.drop 1 [c0, c1]).take (Tryz.prog.cellsOf 22)) = some y1 := hf 1 _ rfl
  rw [cells9] at h0
  rw [cells22] at h1
  have u0 := bulk_field (xs := [y0, y1]) (j := 0) rfl
  have u1 := bulk_field (xs := [y0, y1]) (j := 1) rfl
  have hxb : Rows.uptoBulk x.1 = Rows.uptoBulk (DataW.agg ([y0, y1].map (·.1))) := by rw [hx]
  rw [← hxb] at u0 u1
  obtain ⟨tn, e0, z0⟩ := open_str h0
  simp at e0
  subst e0
  obtain ⟨A, k, c, cols, rfl, hc, hk⟩ := open_cols (v := c1) h1
  exact ⟨tn, A, k, c, cols, rfl, hc, by omega, by omega⟩
end

end Go.Proofs.YtbcmmecilheicaaGreatDoor

/- What the arguments of layer 23's statements hold, opened: a statement, tables, rows, labels. -/
namespace Go.Proofs.YtbcmmecilheicaaGreatDoor
open Go Go.Deep Go.Joins Go.ChangeShapes Go.WideShapes Go.ChangeAt Go.RowKit

theorem cells55 : Tryz.prog.cellsOf 55 = 1 := by kernel_rfl
theorem cells56 : Tryz.prog.cellsOf 56 = 1 := by kernel_rfl
theorem cells58 : Tryz.prog.cellsOf 58 = 7 := by kernel_rfl
theorem cells59 : Tryz.prog.cellsOf 59 = 1 := by kernel_rfl
theorem cells60 : Tryz.prog.cellsOf 60 = 1 := by kernel_rfl
theorem cells62 : Tryz.prog.cellsOf 62 = 3 := by kernel_rfl
theorem cells124 : Tryz.prog.cellsOf 124 = 8 := by kernel_rfl
theorem cells131 : Tryz.prog.cellsOf 131 = 8 := by kernel_rfl

section
variable {H : Type} {enc : TypeId × Value → H} {W : World} {sp : Nat → Bool} {held : Bool}
/-- a slice of whatever elements, opened -/
theorem open_list {t e : TypeId} {k fuel : Nat} {v : Value} {x : DataW H × List MemPlace} {α : Type} (P : α → List Value → Prop) (d : α) (ht : Tryz.prog.underlying t = some (.slice e)) (hk : Tryz.prog.cellsOf e = k) (hk0 : 0 < k)
  (each : ∀ (m : Nat) (cs : List Value) (y : DataW H × List MemPlace), DataW.trod enc Tryz.prog W 0 sp held m e cs = some y → Rows.uptoBulk y.1 + 1 ≤ Rows.uptoBulk x.1 → ∃ u, P u cs)
  (h : DataW.trod enc Tryz.prog W 0 sp held fuel t [v] = some x) :
  ∃ (A : Option Addr) (n c : Nat) (l : List α), v = .slice A n c ∧ n ≤ c ∧ l.length = n ∧ n ≤ Rows.uptoBulk x.1 ∧ ∀ (j : Nat) (u : α), l[j]? = some u → ∃ b off cs, A = some ⟨b, off, none⟩ ∧ b < W.heap.size ∧ P u cs ∧ ∀ i, i < k → W.cell? ⟨b, off + j * k + i, none⟩ = cs[i]? := by
 rcases DataW.trod_slice ht h with ⟨h0, -⟩ | ⟨a, len, cap, elems, rest, n, hn, hv, hx, -, hlc, -, hlen, hel, -, -⟩
 ·exact ⟨none, 0, 0, [], by simpa using h0, Nat.le_refl _, rfl, Nat.zero_le _, fun j u hj => by simp at hj⟩
 ·rw [hk] at hel
  have hb : Rows.uptoBulk x.1 = Rows.uptoBulkAll (elems.map (·.1)) + Rows.uptoBulkAll (rest.map (·.1)) + 1 := by rw [hx]; simp only [Rows.uptoBulk]
  have hl := bulk_len (elems.map (·.1))
  rw [List.length_map, hlen] at hl
  classical
  have pick : ∀ j : Nat, ∃ u : α, j < len → ∃ cs, W.cells? 0 (a.add (j * k)) k = some cs ∧ P u cs := fun j => by
   by_cases hj : j < len
   ·have hi' : j < elems.length := by omega
    have key := hel j hj
    rw [List.getElem?_eq_getElem hi'] at key
    obtain ⟨cs', h1, h2⟩ := Option.bind_eq_some_iff.1 key
    have hp := bulk_part (List.mem_map.2 ⟨elems[j], List.getElem_mem hi', rfl⟩ : elems[j].1 ∈ elems.map (·.1))
    obtain ⟨u, hu⟩ := each n cs' _ h2 (by omega)
    exact ⟨u, fun _ => ⟨cs', h1, hu⟩⟩
   ·exact ⟨d, fun h => absurd h hj⟩
  let F : Nat → α := fun j => (pick j).choose
  have hF : ∀ j, j < len → ∃ cs, W.cells? 0 (a.add (j * k)) k = some cs ∧ P (F j) cs := fun j => (pick j).choose_spec
  refine ⟨some a, len, cap, (List.range len).map F, by simpa using hv, hlc, by simp, by omega, fun j u hj => ?_⟩
  have hj1 : j < len := by
   have := (List.getElem?_eq_some_iff.1 hj).1
   simpa using this
  rw [List.getElem?_map, List.getElem?_range hj1] at hj
  obtain rfl : F j = u := by simpa using hj
  obtain ⟨cs, hc, hP⟩ := hF j hj1
  obtain ⟨cs0, hc0, -⟩ := hF 0 (by omega)
  obtain ⟨-, -, hat⟩ := World.cells?_some hc
  obtain ⟨-, hcl0, hat0⟩ := World.cells?_some hc0
  have h00 := hat0 0 hk0
  rw [Nat.zero_mul, Go.Deep.add_add, Nat.add_zero] at h00
  obtain ⟨b, off, ha, hb⟩ := spot0 (h00.trans (List.getElem?_eq_getElem (by rw [hcl0]; exact hk0)))
  refine ⟨b, off, cs, congrArg some ha, hb, hP, fun i hi => ?_⟩
  have := hat i hi
  rw [ha, add_offR, add_offR] at this
  exact this
theorem pex_at {b o : Nat} {e : PEx} {A : Option Addr} {n c : Nat} {tl : List Value} (h : ∀ i, i < 7 → W.cell? ⟨b, o + i, none⟩ = (pexL e A n c ++ tl)[i]?) : PExC W b o e A n c :=
 ⟨h 0 (by omega), h 1 (by omega), h 2 (by omega), h 3 (by omega), h 4 (by omega), h 5 (by omega), h 6 (by omega)⟩
set_option maxRecDepth 100000 in
theorem open_items {fuel : Nat} {v : Value} {x : DataW H × List MemPlace} (h : DataW.trod enc Tryz.prog W 0 sp held fuel 55 [v] = some x) (hs : Rows.uptoBulk x.1 ≤ 1048576) :
  ∃ (A : Option Addr) (n c : Nat) (l : List (PEx × ByteArray)), v = .slice A n c ∧ PItemsAt W A n l ∧ n ≤ 1048576 ∧ (∀ e ∈ l, depthP e.1 ≤ 1048576 ∧ e.2.size ≤ 1048576) := by
 obtain ⟨A, n, c, l, hv, -, hl, hn, hat⟩ := open_list (k := 8) (fun (u : PEx × ByteArray) cs => ∃ A n c, cs = pexL u.1 A n c ++ [.string u.2] ∧ PExIs W u.1 A n c ∧ depthP u.1 ≤ 1048576 ∧ u.2.size ≤ 1048576) (.mk ⟨#[]⟩ Val.null ⟨#[]⟩ [], ⟨#[]⟩) Tryz.underlying55 cells124 (by omega) (fun m cs y hy hb => by
  obtain ⟨xs, k, -, hx, hlen, hxl, hf⟩ := DataW.trod_struct Tryz.underlying124 hy
  rw [cells124] at hlen
  match cs, hlen, xs, hxl with
  | [c0, c1, c2, c3, c4, c5, c6, c7], _, [y0, y1], _ =>
   have h0 : DataW.trod enc Tryz.prog W 0 sp held k 29 ((List.drop 0 [c0, c1, c2, c3, c4, c5, c6, c7]).take (Tryz.prog.cellsOf 29)) = some y0 := hf 0 _ rfl
   have h1 : DataW.trod enc Tryz.prog W 0 sp held k 9 ((List.drop 7 [c0, c1, c2, c3, c4, c5, c6, c7]).take (Tryz.prog.cellsOf 9)) = some y1 := hf 1 _ rfl
   rw [cells29] at h0
   rw [cells9] at h1
   have u0 := bulk_field (xs := [y0, y1]) (j := 0) rfl
   have u1 := bulk_field (xs := [y0, y1]) (j := 1) rfl
   have hxb : Rows.uptoBulk y.1 = Rows.uptoBulk (DataW.agg ([y0, y1].map (·.1))) := by rw [hx]
   rw [← hxb] at u0 u1
   obtain ⟨e, A, n, c, he, hi, hd⟩ := open_pex k _ _ h0 (by omega)
   obtain ⟨s, es, hss⟩ := open_str h1
   simp at he es
   obtain ⟨e0, e1, e2, e3, e4, e5, e6⟩ := he
   subst e0 e1 e2 e3 e4 e5 e6 es
   exact ⟨(e, s), A, n, c, rfl, hi, by show depthP e ≤ _; omega, by show s.size ≤ _; omega⟩) h
 refine ⟨A, n, c, l, hv, ⟨hl, fun j e hj => ?_⟩, by omega, fun e he => ?_⟩
 ·obtain ⟨b, off, cs, hA, hb, ⟨Ae, ne, ce, rfl, hi, -, -⟩, hc⟩ := hat j e hj
  exact ⟨b, off, Ae, ne, ce, hA, hb, pex_at fun i hi => hc i (by omega), hi, hc 7 (by omega)⟩
 ·obtain ⟨j, hj⟩ := List.getElem?_of_mem he
  obtain ⟨b, off, cs, hA, hb, ⟨Ae, ne, ce, rfl, hi, h1, h2⟩, hc⟩ := hat j e hj
  exact ⟨h1, h2⟩
set_option maxRecDepth 100000 in
theorem open_sorts {fuel : Nat} {v : Value} {x : DataW H × List MemPlace} (h : DataW.trod enc Tryz.prog W 0 sp held fuel 56 [v] = some x) (hs : Rows.uptoBulk x.1 ≤ 1048576) :
  ∃ (A : Option Addr) (n c : Nat) (l : List (PEx × Bool)), v = .slice A n c ∧ PSortsAt W A n l ∧ n ≤ 1048576 ∧ (∀ e ∈ l, depthP e.1 ≤ 1048576) := by
 obtain ⟨A, n, c, l, hv, -, hl, hn, hat⟩ := open_list (k := 8) (fun (u : PEx × Bool) cs => ∃ A n c, cs = pexL u.1 A n c ++ [.bool u.2] ∧ PExIs W u.1 A n c ∧ depthP u.1 ≤ 1048576) (.mk ⟨#[]⟩ Val.null ⟨#[]⟩ [], false) Tryz.underlying56 cells131 (by omega) (fun m cs y hy hb => by
  obtain ⟨xs, k, -, hx, hlen, hxl, hf⟩ := DataW.trod_struct Tryz.underlying131 hy
  rw [cells131] at hlen
  match cs, hlen, xs, hxl with
  | [c0, c1, c2, c3, c4, c5, c6, c7], _, [y0, y1], _ =>
   have h0 : DataW.trod enc Tryz.prog W 0 sp held k 29 ((List.drop 0 [c0, c1, c2, c3, c4, c5, c6, c7]).take (Tryz.prog.cellsOf 29)) = some y0 := hf 0 _ rfl
   have h1 : DataW.trod enc Tryz.prog W 0 sp held k 4 ((List.drop 7 [c0, c1, c2, c3, c4, c5, c6, c7]).take (Tryz.prog.cellsOf 4)) = some y1 := hf 1 _ rfl
   rw [cells29] at h0
   rw [cells4] at h1
   have u0 := bulk_field (xs := [y0, y1]) (j := 0) rfl
   have hxb : Rows.uptoBulk y.1 = Rows.uptoBulk (DataW.agg ([y0, y1].map (·.1))) := by rw [hx]
   rw [← hxb] at u0
   obtain ⟨e, A, n, c, he, hi, hd⟩ := open_pex k _ _ h0 (by omega)
   obtain ⟨g, eg, -⟩ := DataW.trod_bool Tryz.underlying4 h1
   simp at he eg
   obtain ⟨e0, e1, e2, e3, e4, e5, e6⟩ := he
   subst e0 e1 e2 e3 e4 e5 e6 eg
   exact ⟨(e, g), A, n, c, rfl, hi, by show depthP e ≤ _; omega⟩) h
 refine ⟨A, n, c, l, hv, ⟨hl, fun j e hj => ?_⟩, by omega, fun e he => ?_⟩
 ·obtain ⟨b, off, cs, hA, hb, ⟨Ae, ne, ce, rfl, hi, -⟩, hc⟩ := hat j e hj
  exact ⟨b, off, Ae, ne, ce, hA, hb, pex_at fun i hi => hc i (by omega), hi, hc 7 (by omega)⟩
 ·obtain ⟨j, hj⟩ := List.getElem?_of_mem he
  obtain ⟨b, off, cs, hA, hb, ⟨Ae, ne, ce, rfl, hi, h1⟩, hc⟩ := hat j e hj
  exact h1
theorem open_pexs {fuel : Nat} {v : Value} {x : DataW H × List MemPlace} (h : DataW.trod enc Tryz.prog W 0 sp held fuel 27 [v] = some x) (hs : Rows.uptoBulk x.1 ≤ 1048576) :
  ∃ (A : Option Addr) (n c : Nat) (l : List PEx), v = .slice A n c ∧ n ≤ c ∧ PExsAt W A n l ∧ n ≤ 1048576 ∧ (∀ e ∈ l, depthP e ≤ 1048576) := by
 obtain ⟨A, n, c, l, hv, hnc, hl, hn, hat⟩ := open_list (k := 7) (fun (u : PEx) cs => ∃ A n c, cs = pexL u A n c ∧ PExIs W u A n c ∧ depthP u ≤ 1048576) (.mk ⟨#[]⟩ Val.null ⟨#[]⟩ []) Tryz.underlying27 cells29 (by omega) (fun m cs y hy hb => by
  obtain ⟨e, A, n, c, he, hi, hd⟩ := open_pex m _ _ hy (by omega)
  exact ⟨e, A, n, c, he, hi, by omega⟩) h
 refine ⟨A, n, c, l, hv, hnc, ⟨hl, fun j e hj => ?_⟩, by omega, fun e he => ?_⟩
 ·obtain ⟨b, off, cs, hA, hb, ⟨Ae, ne, ce, rfl, hi, -⟩, hc⟩ := hat j e hj
  exact ⟨b, off, Ae, ne, ce, hA, hb, pex_at (tl := []) fun i hi => by rw [List.append_nil]; exact hc i hi, hi⟩
 ·obtain ⟨j, hj⟩ := List.getElem?_of_mem he
  obtain ⟨b, off, cs, hA, hb, ⟨Ae, ne, ce, rfl, hi, h1⟩, hc⟩ := hat j e hj
  exact h1
theorem open_tabs {fuel : Nat} {v : Value} {x : DataW H × List MemPlace} (h : DataW.trod enc Tryz.prog W 0 sp held fuel 59 [v] = some x) (hs : Rows.uptoBulk x.1 ≤ 1048576) :
  ∃ (A : Option Addr) (n c : Nat) (l : List Tab), v = .slice A n c ∧ TabsAt W A n l ∧ n ≤ 1048576 := by
 obtain ⟨A, n, c, l, hv, -, hl, hn, hat⟩ := open_list (k := 2) (fun (u : Tab) cs => ∃ A n c, cs = [.string u.name, .slice A n c] ∧ ColsAt W A n u.cols ∧ n ≤ 1048576) ⟨⟨#[]⟩, []⟩ Tryz.underlying59 cells24 (by omega) (fun m cs y hy hb => by
  obtain ⟨tn, A, n, c, cols, he, hc, hn, -⟩ := open_table hy
  exact ⟨⟨tn, cols⟩, A, n, c, he, hc, by omega⟩) h
 refine ⟨A, n, c, l, hv, ⟨hl, fun j e hj => ?_⟩, by omega⟩
 obtain ⟨b, off, cs, hA, hb, ⟨Ae, ne, ce, rfl, hi, h1⟩, hc⟩ := hat j e hj
 exact ⟨b, off, Ae, ne, ce, hA, hb, hc 0 (by omega), hc 1 (by omega), hi, h1⟩
set_option maxRecDepth 100000 in
theorem open_rows {fuel : Nat} {v : Value} {x : DataW H × List MemPlace} (h : DataW.trod enc Tryz.prog W 0 sp held fuel 60 [v] = some x) (hs : Rows.uptoBulk x.1 ≤ 1048576) :
  ∃ (A : Option Addr) (n c : Nat) (l : List (Int × List Val)), v = .slice A n c ∧ RowsAt W A n l ∧ n ≤ 1048576 ∧ RowsTx l := by
 obtain ⟨A, n, c, l, hv, -, hl, hn, hat⟩ := open_list (k := 2) (fun (u : Int × List Val) cs => ∃ A n c, cs = [.int .i64 u.1, .slice A n c] ∧ ValsAt W A n u.2 ∧ n ≤ 1048576 ∧ ∀ z ∈ u.2, z.text.size ≤ TB) (0, []) Tryz.underlying60 cells32 (by omega) (fun m cs y hy hb => by
  obtain ⟨xs, k, -, hx, hlen, hxl, hf⟩ := DataW.trod_struct Tryz.underlying32 hy
  rw [cells32] at hlen
  match cs, hlen, xs, hxl with
  | [c0, c1], _, [y0, y1], _ =>
   have h0 : DataW.trod enc Tryz.prog W 0 sp held k 3 ((List.drop 0 [c0, c1]).take (Tryz.prog.cellsOf 3)) = some y0 := hf 0 _ rfl
   have h1 : DataW.trod enc Tryz.prog W 0 sp held k 30 ((List.drop 1 [c0, c1]).take (Tryz.prog.cellsOf 30)) = some y1 := hf 1 _ rfl
   rw [cells3] at h0
   rw [cells30] at h1
   have u1 := bulk_field (xs := [y0, y1]) (j := 1) rfl
   have hxb : Rows.uptoBulk y.1 = Rows.uptoBulk (DataW.agg ([y0, y1].map (·.1))) := by rw [hx]
   rw [← hxb] at u1
   obtain ⟨z, ez, -, -⟩ := DataW.trod_int Tryz.underlying3 h0
   simp at ez
   subst ez
   obtain ⟨A, n, c, l, rfl, hl, ht, hn⟩ := open_vals (v := c1) h1
   exact ⟨(z, l), A, n, c, rfl, hl, by omega, fun u hu => by have := ht u hu; unfold TB; omega⟩) h
 refine ⟨A, n, c, l, hv, ⟨hl, fun j e hj => ?_⟩, by omega, fun e he => ?_⟩
 ·obtain ⟨b, off, cs, hA, hb, ⟨Ae, ne, ce, rfl, hi, h1, -⟩, hc⟩ := hat j e hj
  exact ⟨b, off, Ae, ne, ce, hA, hb, hc 0 (by omega), hc 1 (by omega), hi, by omega⟩
 ·obtain ⟨j, hj⟩ := List.getElem?_of_mem he
  obtain ⟨b, off, cs, hA, hb, ⟨Ae, ne, ce, rfl, hi, -, h1⟩, hc⟩ := hat j e hj
  exact h1
set_option maxRecDepth 100000 in
/-- a statement, opened -/
theorem open_stmt {fuel : Nat} {cs : List Value} {x : DataW H × List MemPlace} (h : DataW.trod enc Tryz.prog W 0 sp held fuel 58 cs = some x) (hs : Rows.uptoBulk x.1 ≤ 1048576) :
  ∃ (s : St) (l : StL), cs = (stCells s l).toList ∧ StAt W s l ∧ (∀ e ∈ s.all, depthP e ≤ 1048576) ∧ s.table.size ≤ 1048576 ∧ (∀ e ∈ s.items, e.2.size ≤ 1048576) ∧ (∀ z ∈ s.group, z.size ≤ 1048576) := by
 obtain ⟨xs, n, -, hx, hlen, hxl, hf⟩ := DataW.trod_struct Tryz.underlying58 h
 rw [cells58] at hlen
 match cs, hlen, xs, hxl with
 | [c0, c1, c2, c3, c4, c5, c6], _, [y0, y1, y2, y3, y4, y5, y6], _ =>
  have h0 : DataW.trod enc Tryz.prog W 0 sp held n 3 ((List.drop 0 [c0, c1, c2, c3, c4, c5, c6]).take (Tryz.prog.cellsOf 3)) = some y0 := hf 0 _ rfl
  have h1 : DataW.trod enc Tryz.prog W 0 sp held n 9 ((List.drop 1 [c0, c1, c2, c3, c4, c5, c6]).take (Tryz.prog.cellsOf 9)) = some y1 := hf 1 _ rfl
  have h2 : DataW.trod enc Tryz.prog W 0 sp held n 55 ((List.drop 2 [c0, c1, c2, c3, c4, c5, c6]).take (Tryz.prog.cellsOf 55)) = some y2 := hf 2 _ rfl
  have h3 : DataW.trod enc Tryz.prog W 0 sp held n 27 ((List.drop 3 [c0, c1, c2, c3, c4, c5, c6]).take (Tryz.prog.cellsOf 27)) = some y3 := hf 3 _ rfl
  have h4 : DataW.trod enc Tryz.prog W 0 sp held n 33 ((List.drop 4 [c0, c1, c2, c3, c4, c5, c6]).take (Tryz.prog.cellsOf 33)) = some y4 := hf 4 _ rfl
  have h5 : DataW.trod enc Tryz.prog W 0 sp held n 56 ((List.drop 5 [c0, c1, c2, c3, c4, c5, c6]).take (Tryz.prog.cellsOf 56)) = some y5 := hf 5 _ rfl
  have h6 : DataW.trod enc Tryz.prog W 0 sp held n 3 ((List.drop 6 [c0, c1, c2, c3, c4, c5, c6]).take (Tryz.prog.cellsOf 3)) = some y6 := hf 6 _ rfl
  rw [cells3] at h0 h6
  rw [cells9] at h1
  rw [cells55] at h2
  rw [cells27] at h3
  rw [cells33] at h4
  rw [cells56] at h5
  have u1 := bulk_field (xs := [y0, y1, y2, y3, y4, y5, y6]) (j := 1) rfl
  have u2 := bulk_field (xs := [y0, y1, y2, y3, y4, y5, y6]) (j := 2) rfl
  have u3 := bulk_field (xs := [y0, y1, y2, y3, y4, y5, y6]) (j := 3) rfl
  have u4 := bulk_field (xs := [y0, y1, y2, y3, y4, y5, y6]) (j := 4) rfl
  have u5 := bulk_field (xs := [y0, y1, y2, y3, y4, y5, y6]) (j := 5) rfl
  have hxb : Rows.uptoBulk x.1 = Rows.uptoBulk (DataW.agg ([y0, y1, y2, y3, y4, y5, y6].map (·.1))) := by rw [hx]
  rw [← hxb] at u1 u2 u3 u4 u5
  obtain ⟨kd, e0, -, -⟩ := DataW.trod_int Tryz.underlying3 h0
  obtain ⟨lim, e6, -, -⟩ := DataW.trod_int Tryz.underlying3 h6
  obtain ⟨tb, e1, z1⟩ := open_str h1
  simp at e0 e1 e6
  subst e0 e1 e6
  obtain ⟨ia, ni, ci, its, rfl, hi, hni, hid⟩ := open_items (v := c2) h2 (by omega)
  obtain ⟨wa, nw, cw, wh, rfl, hwc, hw, hnw, hwd⟩ := open_pexs (v := c3) h3 (by omega)
  obtain ⟨ga, ng, cg, gr, rfl, hg, hgz, hng⟩ := open_strs (v := c4) h4
  obtain ⟨oa, no, co, ord, rfl, ho, hno, hod⟩ := open_sorts (v := c5) h5 (by omega)
  refine ⟨⟨kd, tb, its, wh, gr, ord, lim⟩, ⟨ia, ni, ci, wa, nw, cw, ga, ng, cg, oa, no, co⟩, rfl, ⟨hi, hw, hg, ho, hni, hnw, hwc, (show ng ≤ 1048576 by omega), hno⟩, fun e he => ?_, (show tb.size ≤ 1048576 by omega), fun e he => (hid e he).2, fun z hz => by have := hgz z hz; omega⟩
  simp only [St.all, List.mem_append, List.mem_map] at he
  rcases he with (⟨a, ha, rfl⟩ | ha) | ⟨a, ha, rfl⟩
  ·exact (hid a ha).1
  ·exact hwd e ha
  ·exact hod a ha
set_option maxRecDepth 100000 in
/-- tables, rows, labels, opened -/
theorem open_overL {fuel : Nat} {cs : List Value} {x : DataW H × List MemPlace} (h : DataW.trod enc Tryz.prog W 0 sp held fuel 62 cs = some x) (hs : Rows.uptoBulk x.1 ≤ 1048576) :
  ∃ (TA : Option Addr) (tn tc : Nat) (ts : List Tab) (RA : Option Addr) (rn rc : Nat) (rs : List (Int × List Val)) (LA : Option Addr) (ln lc : Nat) (lb : List ByteArray), cs = [.slice TA tn tc, .slice RA rn rc, .slice LA ln lc] ∧ TabsAt W TA tn ts ∧ tn ≤ 1048576 ∧ RowsAt W RA rn rs ∧ RowsTx rs ∧ StrsAt W LA ln lb ∧ (∀ z ∈ lb, z.size ≤ TB) := by
 obtain ⟨xs, n, -, hx, hlen, hxl, hf⟩ := DataW.trod_struct Tryz.underlying62 h
 rw [cells62] at hlen
 match cs, hlen, xs, hxl with
 | [c0, c1, c2], _, [y0, y1, y2], _ =>
  have h0 : DataW.trod enc Tryz.prog W 0 sp held n 59 ((List.drop 0 [c0, c1, c2]).take (Tryz.prog.cellsOf 59)) = some y0 := hf 0 _ rfl
  have h1 : DataW.trod enc Tryz.prog W 0 sp held n 60 ((List.drop 1 [c0, c1, c2]).take (Tryz.prog.cellsOf 60)) = some y1 := hf 1 _ rfl
  have h2 : DataW.trod enc Tryz.prog W 0 sp held n 33 ((List.drop 2 [c0, c1, c2]).take (Tryz.prog.cellsOf 33)) = some y2 := hf 2 _ rfl
  rw [cells59] at h0
  rw [cells60] at h1
  rw [cells33] at h2
  have u0 := bulk_field (xs := [y0, y1, y2]) (j := 0) rfl
  have u1 := bulk_field (xs := [y0, y1, y2]) (j := 1) rfl
  have u2 := bulk_field (xs := [y0, y1, y2]) (j := 2) rfl
  have hxb : Rows.uptoBulk x.1 = Rows.uptoBulk (DataW.agg ([y0, y1, y2].map (·.1))) := by rw [hx]
  rw [← hxb] at u0 u1 u2
  obtain ⟨TA, tn, tc, ts, rfl, ht, htn⟩ := open_tabs (v := c0) h0 (by omega)
  obtain ⟨RA, rn, rc, rs, rfl, hr, -, htx⟩ := open_rows (v := c1) h1 (by omega)
  obtain ⟨LA, ln, lc, lb, rfl, hl, hlz, -⟩ := open_strs (v := c2) h2
  exact ⟨TA, tn, tc, ts, RA, rn, rc, rs, LA, ln, lc, lb, rfl, ht, htn, hr, htx, hl, fun z hz => by have := hlz z hz; unfold TB; omega⟩
end

end Go.Proofs.YtbcmmecilheicaaGreatDoor
