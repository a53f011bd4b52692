/- Arguments, opened: values, texts, expressions, rows, numbers. -/
import Derived.Test.YtbcmmecilheicaaRows
import Derived.Test.YtbcmmecilheicaaMat
import Derived.ProofKit
import Derived.Deep.Slices
import Derived.SliceStrings
import Derived.Lib.SmallJoins
import Derived.Lib.Hide
import Derived.Deep.Fields
import Derived.ChangeSame
import Derived.SizedLaws
namespace Go.Proofs.Ytbcmmecilheicaa
open Go Go.Deep Go.Joins Go.ChangeShapes Go.WideShapes Go.ChangeAt Go.RowKit

theorem own_knobG : ownKnob Try.prog.godebug = none := by kernel_rfl
theorem laid_outG : laidOutB Try.prog = true := by kernel_rfl
theorem cells26 : Try.prog.cellsOf 26 = 8 := by kernel_rfl
theorem cells23 : Try.prog.cellsOf 23 = 4 := by kernel_rfl
theorem cells24 : Try.prog.cellsOf 24 = 1 := by kernel_rfl
theorem cells9 : Try.prog.cellsOf 9 = 1 := by kernel_rfl
theorem cells3 : Try.prog.cellsOf 3 = 1 := by kernel_rfl
theorem cells4 : Try.prog.cellsOf 4 = 1 := by kernel_rfl
theorem cells27 : Try.prog.cellsOf 27 = 1 := by kernel_rfl
theorem cells29 : Try.prog.cellsOf 29 = 2 := by kernel_rfl
theorem cells30 : Try.prog.cellsOf 30 = 1 := by kernel_rfl
theorem cells32 : Try.prog.cellsOf 32 = 3 := by kernel_rfl
theorem bytes26 : Try.prog.bytesOf 26 = 96 := by kernel_rfl
theorem readable26 : Try.prog.readableRec 26 = true ∧ 26 < Try.prog.types.size := ⟨by kernel_rfl, of_decide_eq_true (by kernel_rfl)⟩
theorem readable32 : Try.prog.readableRec 32 = true ∧ 32 < Try.prog.types.size := ⟨by kernel_rfl, of_decide_eq_true (by kernel_rfl)⟩
theorem add_offR (b off j : Nat) : (⟨b, off, none⟩ : Addr).add j = ⟨b, off + j, none⟩ := by
  unfold Addr.add; split <;> simp_all
theorem weightsAll_of {H : Type} {P : Program} {e : TypeId} {d : DataW H} {n : Nat} (hn : n ∈ d.weights P e) : ∀ {ds : List (DataW H)}, d ∈ ds → n ∈ DataW.weightsAll P e ds
  | [], h => by cases h
  | x :: xs, h => by
    rw [DataW.weightsAll]
    rcases List.mem_cons.1 h with rfl | h
    · exact List.mem_append_left _ hn
    · exact List.mem_append_right _ (weightsAll_of hn h)
theorem text_small {z : ByteArray} (h : z.data.toList.length ≤ reachBytes) : z.size ≤ TB := by
  rw [show z.data.toList.length = z.size from by rw [Array.length_toList]; rfl] at h
  simp only [reachBytes] at h
  unfold TB
  omega

/-- all arguments read behind the call as they read before -/
theorem trodAll_below {H : Type} {enc : TypeId × Value → H} {P : Program} (hl : laidOutB P = true) {W W' : World} (hb : Below W.heap.size W W') {ts : List TypeId} (hr : ∀ t ∈ ts, P.readableRec t = true ∧ t < P.types.size) :
    ∀ {vs : List Value} {ds : List (DataW H)} {ps : List MemPlace}, DataW.TrodAll enc P W 0 (fun _ => true) true ts vs ds ps → (∀ x ∈ ps, x.block < W.heap.size) →
    DataW.TrodAll enc P W' 0 (fun b => decide (b < W.heap.size)) true ts vs ds ps := by
  induction ts with
  | nil =>
    intro vs ds ps h _
    obtain ⟨rfl, rfl, rfl⟩ := trodAll_nil h
    exact trodAll_mk0
  | cons t ts ih =>
    intro vs ds ps h hlt
    obtain ⟨v, vs', d, ds', p, q, rfl, rfl, rfl, h1, h2⟩ := trodAll_cons h
    exact ⟨p, q, Below.trod hl (hr t (by simp)).1 (hr t (by simp)).2 h1 hb (fun x hx => hlt x (by simp [hx])), ih (fun t ht => hr t (by simp [ht])) h2 (fun x hx => hlt x (by simp [hx])), rfl⟩

section
variable {H : Type} {enc : TypeId × Value → H} {W : World} {sp : Nat → Bool} {held : Bool}
set_option maxRecDepth 100000 in
/-- a value, opened -/
theorem open_val {fuel : Nat} {cs : List Value} {x : DataW H × List MemPlace} (h : DataW.trod enc Try.prog W 0 sp held fuel 23 cs = some x) (hs : ∀ n ∈ x.1.weights Try.prog 23, n ≤ reachBytes) :
    ∃ v : Val, cs = [.int .i64 v.kind, .int .i64 v.int, .string v.text, .bool v.bool] ∧ v.text.size ≤ TB := by
  obtain ⟨xs, n, -, hx, hlen, hxl, hf⟩ := DataW.trod_struct Try.underlying23 h
  rw [cells23] at hlen
  match cs, hlen, xs, hxl with
  | [c0, c1, c2, c3], _, [y0, y1, y2, y3], _ =>
    have h0 : DataW.trod enc Try.prog W 0 sp held n 3 ((List.drop 0 [c0, c1, c2, c3]).take (Try.prog.cellsOf 3)) = some y0 := hf 0 _ rfl
    have h1 : DataW.trod enc Try.prog W 0 sp held n 3 ((List.drop 1 [c0, c1, c2, c3]).take (Try.prog.cellsOf 3)) = some y1 := hf 1 _ rfl
    have h2 : DataW.trod enc Try.prog W 0 sp held n 9 ((List.drop 2 [c0, c1, c2, c3]).take (Try.prog.cellsOf 9)) = some y2 := hf 2 _ rfl
    have h3 : DataW.trod enc Try.prog W 0 sp held n 4 ((List.drop 3 [c0, c1, c2, c3]).take (Try.prog.cellsOf 4)) = some y3 := hf 3 _ rfl
    rw [cells3] at h0 h1
    rw [cells9] at h2
    rw [cells4] at h3
    obtain ⟨k, e0, -, -⟩ := DataW.trod_int Try.underlying3 h0
    obtain ⟨i, e1, -, -⟩ := DataW.trod_int Try.underlying3 h1
    obtain ⟨z, e2, q2, -⟩ := DataW.trod_string Try.underlying9 h2
    obtain ⟨g, e3, -⟩ := DataW.trod_bool Try.underlying4 h3
    simp at e0 e1 e2 e3
    subst e0 e1 e2 e3
    refine ⟨⟨k, i, z, g⟩, rfl, text_small (hs _ ?_)⟩
    rw [hx]
    simp only [DataW.weights, Try.underlying23]
    refine DataW.weights_mem_each (j := 2) (t := 9) (d := y2.1) rfl rfl _ ?_
    rw [q2]
    simp [DataW.weights]
/-- a slice, opened: its elements -/
theorem open_elems {t e : TypeId} {fuel : Nat} {v : Value} {x : DataW H × List MemPlace} (ht : Try.prog.underlying t = some (.slice e)) (h : DataW.trod enc Try.prog W 0 sp held fuel t [v] = some x) (hs : ∀ n ∈ x.1.weights Try.prog t, n ≤ reachBytes) :
    (v = .slice none 0 0) ∨ ∃ (a : Addr) (len cap n : Nat), n < fuel ∧ v = .slice (some a) len cap ∧ len * Try.prog.bytesOf e ≤ reachBytes ∧
      ∀ i, i < len → ∃ cs' y, W.cells? 0 (a.add (i * Try.prog.cellsOf e)) (Try.prog.cellsOf e) = some cs' ∧ DataW.trod enc Try.prog W 0 sp held n e cs' = some y ∧ ∀ n ∈ y.1.weights Try.prog e, n ≤ reachBytes := by
  rcases DataW.trod_slice ht h with ⟨h0, -⟩ | ⟨a, len, cap, elems, rest, n, hn, hv, hx, -, -, -, hlen, hel, -, -⟩
  · exact .inl (by simpa using h0)
  · refine .inr ⟨a, len, cap, n, by omega, by simpa using hv, ?_, fun i hi => ?_⟩
    · have := hs ((elems.length + rest.length) * Try.prog.bytesOf e) (by rw [hx]; simp [DataW.weights, ht])
      rw [hlen, Nat.add_mul] at this
      omega
    · have hi' : i < elems.length := by omega
      have key := hel i hi
      rw [List.getElem?_eq_getElem hi'] at key
      obtain ⟨cs', h1, h2⟩ := Option.bind_eq_some_iff.1 key
      refine ⟨cs', _, h1, h2, fun m hm => hs m ?_⟩
      rw [hx]
      simp only [DataW.weights, ht]
      exact List.mem_cons_of_mem _ (List.mem_append_left _ (weightsAll_of hm (List.mem_map.2 ⟨elems[i], List.getElem_mem hi', rfl⟩)))
/-- the eight cells -/
@[reducible] def exL (x : Ex) (A : Option Addr) (n c : Nat) : List Value :=
  [.string x.op, .int .i64 x.kind, .int .i64 x.col, .int .i64 x.val.kind, .int .i64 x.val.int, .string x.val.text, .bool x.val.bool, .slice A n c]
theorem spot_none {a : Addr} {v : Value} (h : W.cell? a = some v) : a = ⟨a.block, a.off, none⟩ := by
  obtain ⟨b, off, spot⟩ := a
  have := World.cell?_spot h
  simp at this
  subst this
  rfl
set_option maxRecDepth 100000 in
/-- an expression, opened -/
theorem open_ex : ∀ (fuel : Nat) (cs : List Value) (x : DataW H × List MemPlace), DataW.trod enc Try.prog W 0 sp held fuel 26 cs = some x → (∀ n ∈ x.1.weights Try.prog 26, n ≤ reachBytes) →
    ∃ (e : Ex) (A : Option Addr) (n c : Nat), cs = exL e A n c ∧ ExIs W e A n c := by
  intro fuel
  induction fuel using Nat.strongRecOn with
  | _ fuel ih =>
    intro cs x h hs
    obtain ⟨xs, n, hn, hx, hlen, hxl, hf⟩ := DataW.trod_struct Try.underlying26 h
    rw [cells26] at hlen
    match cs, hlen, xs, hxl with
    | [c0, c1, c2, c3, c4, c5, c6, c7], _, [y0, y1, y2, y3, y4], _ =>
      have h0 : DataW.trod enc Try.prog W 0 sp held n 9 ((List.drop 0 [c0, c1, c2, c3, c4, c5, c6, c7]).take (Try.prog.cellsOf 9)) = some y0 := hf 0 _ rfl
      have h1 : DataW.trod enc Try.prog W 0 sp held n 3 ((List.drop 1 [c0, c1, c2, c3, c4, c5, c6, c7]).take (Try.prog.cellsOf 3)) = some y1 := hf 1 _ rfl
      have h2 : DataW.trod enc Try.prog W 0 sp held n 3 ((List.drop 2 [c0, c1, c2, c3, c4, c5, c6, c7]).take (Try.prog.cellsOf 3)) = some y2 := hf 2 _ rfl
      have h3 : DataW.trod enc Try.prog W 0 sp held n 23 ((List.drop 3 [c0, c1, c2, c3, c4, c5, c6, c7]).take (Try.prog.cellsOf 23)) = some y3 := hf 3 _ rfl
      have h4 : DataW.trod enc Try.prog W 0 sp held n 24 ((List.drop 7 [c0, c1, c2, c3, c4, c5, c6, c7]).take (Try.prog.cellsOf 24)) = some y4 := hf 4 _ rfl
      rw [cells9] at h0
      rw [cells3] at h1 h2
      rw [cells23] at h3
      rw [cells24] at h4
      obtain ⟨op, e0, -, -⟩ := DataW.trod_string Try.underlying9 h0
      obtain ⟨kd, e1, -, -⟩ := DataW.trod_int Try.underlying3 h1
      obtain ⟨cl, e2, -, -⟩ := DataW.trod_int Try.underlying3 h2
      have up : ∀ (j : Nat) (t : TypeId) (y : DataW H × List MemPlace), [9, 3, 3, 23, 24][j]? = some t → [y0, y1, y2, y3, y4][j]? = some y → ∀ m ∈ y.1.weights Try.prog t, m ≤ reachBytes := fun j t y ht hy m hm => hs m (by
        rw [hx]
        simp only [DataW.weights, Try.underlying26]
        exact DataW.weights_mem_each (j := j) (t := t) (d := y.1) ht (by rw [List.getElem?_map, hy]; rfl) m hm)
      obtain ⟨v, e3, tx⟩ := open_val h3 (up 3 23 y3 rfl rfl)
      simp at e0 e1 e2 e3
      obtain ⟨e30, e31, e32, e33⟩ := e3
      subst e0 e1 e2 e30 e31 e32 e33
      have h4' : DataW.trod enc Try.prog W 0 sp held n 24 [c7] = some y4 := h4
      rcases open_elems Try.underlying24 h4' (up 4 24 y4 rfl rfl) with rfl | ⟨a, len, cap, m, hm, rfl, hby, hi⟩
      · exact ⟨.mk op kd cl v [], none, 0, 0, rfl, .mk op kd cl v [] none 0 0 rfl (Nat.zero_le _) tx 0 0 (fun h => absurd h (Nat.lt_irrefl 0)) (fun _ => none) (fun _ => 0) (fun _ => 0) (fun j e hj => by simp at hj) (fun j e hj => by simp at hj)⟩
      · rw [bytes26] at hby
        simp only [cells26] at hi
        classical
        have pick : ∀ j : Nat, ∃ p : Ex × Option Addr × Nat × Nat, j < len → W.cells? 0 (a.add (j * 8)) 8 = some (exL p.1 p.2.1 p.2.2.1 p.2.2.2) ∧ ExIs W p.1 p.2.1 p.2.2.1 p.2.2.2 := fun j => by
          by_cases hj : j < len
          · obtain ⟨cs', y, hc, hy, hw⟩ := hi j hj
            obtain ⟨e, A, k, c, rfl, he⟩ := ih m (by omega) cs' y hy hw
            exact ⟨(e, A, k, c), fun _ => ⟨hc, he⟩⟩
          · exact ⟨(.mk ⟨#[]⟩ 0 0 Val.null [], none, 0, 0), fun h => absurd h hj⟩
        let F : Nat → Ex × Option Addr × Nat × Nat := fun j => (pick j).choose
        have hF : ∀ j, j < len → W.cells? 0 (a.add (j * 8)) 8 = some (exL (F j).1 (F j).2.1 (F j).2.2.1 (F j).2.2.2) ∧ ExIs W (F j).1 (F j).2.1 (F j).2.2.1 (F j).2.2.2 := fun j => (pick j).choose_spec
        have hl : ∀ (j : Nat) (e : Ex), ((List.range len).map fun j => (F j).1)[j]? = some e → j < len ∧ e = (F j).1 := fun j e hj => by
          have hj1 : j < len := by
            have := (List.getElem?_eq_some_iff.1 hj).1
            simpa using this
          rw [List.getElem?_map, List.getElem?_range hj1] at hj
          exact ⟨hj1, (by simpa using hj.symm)⟩
        have hpos : ∀ j, j < len → a = ⟨a.block, a.off, none⟩ ∧ a.block < W.heap.size := fun j hj => by
          obtain ⟨-, -, hat⟩ := World.cells?_some (hF 0 (by omega)).1
          have h0 := hat 0 (by omega)
          rw [Nat.zero_mul, Go.Deep.add_add, Nat.add_zero] at h0
          have hz : a.add 0 = a := by
            obtain ⟨b, off, spot⟩ := a
            unfold Addr.add
            split <;> simp_all
          rw [hz] at h0
          exact ⟨spot_none h0, World.block_lt_of_cell? _ _ h0⟩
        refine ⟨.mk op kd cl v ((List.range len).map fun j => (F j).1), some a, len, cap, rfl, .mk op kd cl v _ (some a) len cap (by simp) (by simp only [reachBytes] at hby; unfold TB; omega) tx a.block a.off (fun h => ⟨congrArg some (hpos 0 h).1, (hpos 0 h).2⟩)
          (fun j => (F j).2.1) (fun j => (F j).2.2.1) (fun j => (F j).2.2.2) (fun j e hj => ?_) (fun j e hj => ?_)⟩
        · obtain ⟨hj1, rfl⟩ := hl j e hj
          obtain ⟨ha, -⟩ := hpos j hj1
          obtain ⟨-, -, hat⟩ := World.cells?_some (hF j hj1).1
          have each : ∀ k, k < 8 → W.cell? ⟨a.block, a.off + j * 8 + k, none⟩ = (exL (F j).1 (F j).2.1 (F j).2.2.1 (F j).2.2.2)[k]? := fun k hk => by
            have := hat k hk
            rw [ha, add_offR, add_offR] at this
            exact this
          exact ⟨each 0 (by omega), each 1 (by omega), each 2 (by omega), each 3 (by omega), each 4 (by omega), each 5 (by omega), each 6 (by omega), each 7 (by omega)⟩
        · obtain ⟨hj1, rfl⟩ := hl j e hj
          exact (hF j hj1).2
end

section
variable {H : Type} {enc : TypeId × Value → H} {W : World} {sp : Nat → Bool} {held : Bool}
theorem spot0 {a : Addr} {v : Value} (h : W.cell? (a.add 0) = some v) : ∃ b off, a = ⟨b, off, none⟩ ∧ b < W.heap.size := by
  have hz : a.add 0 = a := by
    obtain ⟨b, off, spot⟩ := a
    unfold Addr.add
    split <;> simp_all
  rw [hz] at h
  exact ⟨a.block, a.off, spot_none h, World.block_lt_of_cell? _ _ h⟩
/-- a slice of values, opened -/
theorem open_vals {fuel : Nat} {v : Value} {x : DataW H × List MemPlace} (h : DataW.trod enc Try.prog W 0 sp held fuel 27 [v] = some x) (hs : ∀ n ∈ x.1.weights Try.prog 27, n ≤ reachBytes) :
    ∃ (A : Option Addr) (n c : Nat) (l : List Val), v = .slice A n c ∧ ValsAt W A n l ∧ ∀ u ∈ l, u.text.size ≤ TB := by
  rcases open_elems Try.underlying27 h hs with rfl | ⟨a, len, cap, m, -, rfl, -, hi⟩
  · exact ⟨none, 0, 0, [], rfl, ValsAt.nil W none, fun u hu => by cases hu⟩
  · simp only [cells23] at hi
    classical
    have pick : ∀ j : Nat, ∃ u : Val, j < len → W.cells? 0 (a.add (j * 4)) 4 = some [.int .i64 u.kind, .int .i64 u.int, .string u.text, .bool u.bool] ∧ u.text.size ≤ TB := fun j => by
      by_cases hj : j < len
      · obtain ⟨cs', y, hc, hy, hw⟩ := hi j hj
        obtain ⟨u, rfl, hu⟩ := open_val hy hw
        exact ⟨u, fun _ => ⟨hc, hu⟩⟩
      · exact ⟨Val.null, fun h => absurd h hj⟩
    let F : Nat → Val := fun j => (pick j).choose
    have hF : ∀ j, j < len → W.cells? 0 (a.add (j * 4)) 4 = some [.int .i64 (F j).kind, .int .i64 (F j).int, .string (F j).text, .bool (F j).bool] ∧ (F j).text.size ≤ TB := fun j => (pick j).choose_spec
    refine ⟨some a, len, cap, (List.range len).map F, rfl, ⟨by simp, fun j u hj => ?_⟩, fun u hu => ?_⟩
    · have hj1 : j < len := by
        have := (List.getElem?_eq_some_iff.1 hj).1
        simpa using this
      rw [List.getElem?_map, List.getElem?_range hj1] at hj
      obtain rfl : F j = u := by simpa using hj
      obtain ⟨-, -, hat⟩ := World.cells?_some (hF j hj1).1
      obtain ⟨-, -, hat0⟩ := World.cells?_some (hF 0 (by omega)).1
      have h00 := hat0 0 (by omega)
      rw [Nat.zero_mul, Go.Deep.add_add, Nat.add_zero] at h00
      obtain ⟨b, off, ha, hb⟩ := spot0 h00
      have each : ∀ k, k < 4 → W.cell? ⟨b, off + j * 4 + k, none⟩ = ([.int .i64 (F j).kind, .int .i64 (F j).int, .string (F j).text, .bool (F j).bool] : List Value)[k]? := fun k hk => by
        have := hat k hk
        rw [ha, add_offR, add_offR] at this
        exact this
      exact ⟨b, off, congrArg some ha, hb, each 0 (by omega), each 1 (by omega), each 2 (by omega), each 3 (by omega)⟩
    · obtain ⟨j, hj, rfl⟩ := List.mem_map.1 hu
      exact (hF j (List.mem_range.1 hj)).2
/-- a slice of texts, opened -/
theorem open_strs {fuel : Nat} {v : Value} {x : DataW H × List MemPlace} (h : DataW.trod enc Try.prog W 0 sp held fuel 30 [v] = some x) (hs : ∀ n ∈ x.1.weights Try.prog 30, n ≤ reachBytes) :
    ∃ (A : Option Addr) (n c : Nat) (l : List ByteArray), v = .slice A n c ∧ StrsAt W A n l ∧ ∀ u ∈ l, u.size ≤ TB := by
  rcases open_elems Try.underlying30 h hs with rfl | ⟨a, len, cap, m, -, rfl, -, hi⟩
  · exact ⟨none, 0, 0, [], rfl, ⟨rfl, fun j z hz => by simp at hz⟩, fun u hu => by cases hu⟩
  · simp only [cells9, Nat.mul_one] at hi
    classical
    have pick : ∀ j : Nat, ∃ u : ByteArray, j < len → W.cells? 0 (a.add j) 1 = some [.string u] ∧ u.size ≤ TB := fun j => by
      by_cases hj : j < len
      · obtain ⟨cs', y, hc, hy, hw⟩ := hi j hj
        obtain ⟨z, rfl, q, -⟩ := DataW.trod_string Try.underlying9 hy
        refine ⟨z, fun _ => ⟨hc, text_small (hw _ ?_)⟩⟩
        rw [q]
        simp [DataW.weights]
      · exact ⟨⟨#[]⟩, fun h => absurd h hj⟩
    let F : Nat → ByteArray := fun j => (pick j).choose
    have hF : ∀ j, j < len → W.cells? 0 (a.add j) 1 = some [.string (F j)] ∧ (F j).size ≤ TB := fun j => (pick j).choose_spec
    refine ⟨some a, len, cap, (List.range len).map F, rfl, ⟨by simp, fun j u hj => ?_⟩, fun u hu => ?_⟩
    · have hj1 : j < len := by
        have := (List.getElem?_eq_some_iff.1 hj).1
        simpa using this
      rw [List.getElem?_map, List.getElem?_range hj1] at hj
      obtain rfl : F j = u := by simpa using hj
      obtain ⟨-, -, hat⟩ := World.cells?_some (hF j hj1).1
      obtain ⟨-, -, hat0⟩ := World.cells?_some (hF 0 (by omega)).1
      have h00 := hat0 0 (by omega)
      rw [Go.Deep.add_add, Nat.add_zero] at h00
      obtain ⟨b, off, ha, hb⟩ := spot0 h00
      have h0 := hat 0 (by omega)
      rw [ha, add_offR, add_offR, Nat.add_zero] at h0
      exact ⟨b, off, congrArg some ha, hb, h0⟩
    · obtain ⟨j, hj, rfl⟩ := List.mem_map.1 hu
      exact (hF j (List.mem_range.1 hj)).2
set_option maxRecDepth 100000 in
/-- what an expression is reckoned over, opened -/
theorem open_over {fuel : Nat} {cs : List Value} {x : DataW H × List MemPlace} (h : DataW.trod enc Try.prog W 0 sp held fuel 32 cs = some x) (hs : ∀ n ∈ x.1.weights Try.prog 32, n ≤ reachBytes) :
    ∃ (E : Env) (VA : Option Addr) (vn vc : Nat) (LA : Option Addr) (ln lc : Nat), cs = [.int .i64 E.at_, .slice VA vn vc, .slice LA ln lc] ∧ EnvAt W E VA vn LA ln := by
  obtain ⟨xs, n, -, hx, hlen, hxl, hf⟩ := DataW.trod_struct Try.underlying32 h
  rw [cells32] at hlen
  match cs, hlen, xs, hxl with
  | [c0, c1, c2], _, [y0, y1], _ =>
    have h0 : DataW.trod enc Try.prog W 0 sp held n 29 ((List.drop 0 [c0, c1, c2]).take (Try.prog.cellsOf 29)) = some y0 := hf 0 _ rfl
    have h1 : DataW.trod enc Try.prog W 0 sp held n 30 ((List.drop 2 [c0, c1, c2]).take (Try.prog.cellsOf 30)) = some y1 := hf 1 _ rfl
    rw [cells29] at h0
    rw [cells30] at h1
    have up : ∀ (j : Nat) (t : TypeId) (y : DataW H × List MemPlace), [29, 30][j]? = some t → [y0, y1][j]? = some y → ∀ m ∈ y.1.weights Try.prog t, m ≤ reachBytes := fun j t y ht hy m hm => hs m (by
      rw [hx]
      simp only [DataW.weights, Try.underlying32]
      exact DataW.weights_mem_each (j := j) (t := t) (d := y.1) ht (by rw [List.getElem?_map, hy]; rfl) m hm)
    have u0 := up 0 29 y0 rfl rfl
    obtain ⟨zs, k, -, hz, -, hzl, hg⟩ := DataW.trod_struct Try.underlying29 h0
    match zs, hzl with
    | [z0, z1], _ =>
      have g0 : DataW.trod enc Try.prog W 0 sp held k 3 ((List.drop 0 [c0, c1]).take (Try.prog.cellsOf 3)) = some z0 := hg 0 _ rfl
      have g1 : DataW.trod enc Try.prog W 0 sp held k 27 ((List.drop 1 [c0, c1]).take (Try.prog.cellsOf 27)) = some z1 := hg 1 _ rfl
      rw [cells3] at g0
      rw [cells27] at g1
      obtain ⟨at_, e0, -, -⟩ := DataW.trod_int Try.underlying3 g0
      simp at e0
      subst e0
      obtain ⟨VA, vn, vc, l, rfl, hl, htx⟩ := open_vals (v := c1) g1 (fun m hm => u0 m (by
        rw [hz]
        simp only [DataW.weights, Try.underlying29]
        exact DataW.weights_mem_each (j := 1) (t := 27) (d := z1.1) rfl rfl m hm))
      obtain ⟨LA, ln, lc, r, rfl, hr, hrx⟩ := open_strs (v := c2) h1 (up 1 30 y1 rfl rfl)
      exact ⟨⟨at_, l, r⟩, VA, vn, vc, LA, ln, lc, rfl, hl, hr, htx, hrx⟩
end

section
variable {H : Type} {enc : TypeId × Value → H} {W : World} {sp : Nat → Bool} {held : Bool}
theorem bytes23 : Try.prog.bytesOf 23 = 40 := by kernel_rfl
/-- a slice of values, opened, and how many -/
theorem open_vals_n {fuel : Nat} {v : Value} {x : DataW H × List MemPlace} (h : DataW.trod enc Try.prog W 0 sp held fuel 27 [v] = some x) (hs : ∀ n ∈ x.1.weights Try.prog 27, n ≤ reachBytes) :
    ∃ (A : Option Addr) (n c : Nat) (l : List Val), v = .slice A n c ∧ ValsAt W A n l ∧ (∀ u ∈ l, u.text.size ≤ TB) ∧ n * 40 ≤ 140737488355328 := by
  obtain ⟨A, n, c, l, rfl, hl, ht⟩ := open_vals h hs
  refine ⟨A, n, c, l, rfl, hl, ht, ?_⟩
  rcases open_elems Try.underlying27 h hs with e | ⟨a, len, cap, m, -, e, hby, -⟩
  · have e2 := (Value.slice.inj e).2.1
    omega
  · have e2 := (Value.slice.inj e).2.1
    rw [bytes23, ← e2] at hby
    simp only [reachBytes] at hby
    omega
set_option maxRecDepth 100000 in
/-- a row, opened -/
theorem open_row {fuel : Nat} {cs : List Value} {x : DataW H × List MemPlace} (h : DataW.trod enc Try.prog W 0 sp held fuel 29 cs = some x) (hs : ∀ n ∈ x.1.weights Try.prog 29, n ≤ reachBytes) :
    ∃ (r : Int × List Val) (VA : Option Addr) (vn vc : Nat), cs = [.int .i64 r.1, .slice VA vn vc] ∧ ValsAt W VA vn r.2 ∧ (∀ u ∈ r.2, u.text.size ≤ TB) ∧ vn * 40 ≤ 140737488355328 := by
  obtain ⟨xs, n, -, hx, hlen, hxl, hf⟩ := DataW.trod_struct Try.underlying29 h
  rw [cells29] at hlen
  match cs, hlen, xs, hxl with
  | [c0, c1], _, [z0, z1], _ =>
    have g0 : DataW.trod enc Try.prog W 0 sp held n 3 ((List.drop 0 [c0, c1]).take (Try.prog.cellsOf 3)) = some z0 := hf 0 _ rfl
    have g1 : DataW.trod enc Try.prog W 0 sp held n 27 ((List.drop 1 [c0, c1]).take (Try.prog.cellsOf 27)) = some z1 := hf 1 _ rfl
    rw [cells3] at g0
    rw [cells27] at g1
    obtain ⟨at_, e0, -, -⟩ := DataW.trod_int Try.underlying3 g0
    simp at e0
    subst e0
    obtain ⟨VA, vn, vc, l, rfl, hl, htx, hn⟩ := open_vals_n (v := c1) g1 (fun m hm => hs m (by
      rw [hx]
      simp only [DataW.weights, Try.underlying29]
      exact DataW.weights_mem_each (j := 1) (t := 27) (d := z1.1) rfl rfl m hm))
    exact ⟨(at_, l), VA, vn, vc, rfl, hl, htx, hn⟩
/-- a slice of rows, opened -/
theorem open_rows {t : TypeId} (ht : Try.prog.underlying t = some (.slice 29)) {fuel : Nat} {v : Value} {x : DataW H × List MemPlace} (h : DataW.trod enc Try.prog W 0 sp held fuel t [v] = some x) (hs : ∀ n ∈ x.1.weights Try.prog t, n ≤ reachBytes) :
    ∃ (A : Option Addr) (n c : Nat) (l : List (Int × List Val)), v = .slice A n c ∧ RowsAt W A n l ∧ (∀ r ∈ l, ∀ u ∈ r.2, u.text.size ≤ TB) ∧ n * Try.prog.bytesOf 29 ≤ reachBytes := by
  rcases open_elems ht h hs with rfl | ⟨a, len, cap, m, -, rfl, hby, hi⟩
  · exact ⟨none, 0, 0, [], rfl, ⟨rfl, fun j r h => by simp at h⟩, fun u hu => (by cases hu), by omega⟩
  · simp only [cells29] at hi
    classical
    have pick : ∀ j : Nat, ∃ q : (Int × List Val) × Option Addr × Nat × Nat, j < len → W.cells? 0 (a.add (j * 2)) 2 = some [.int .i64 q.1.1, .slice q.2.1 q.2.2.1 q.2.2.2] ∧ ValsAt W q.2.1 q.2.2.1 q.1.2 ∧ (∀ u ∈ q.1.2, u.text.size ≤ TB) ∧ q.2.2.1 * 40 ≤ 140737488355328 := fun j => by
      by_cases hj : j < len
      · obtain ⟨cs', y, hc, hy, hw⟩ := hi j hj
        obtain ⟨r, VA, vn, vc, rfl, hu⟩ := open_row hy hw
        exact ⟨(r, VA, vn, vc), fun _ => ⟨hc, hu⟩⟩
      · exact ⟨((0, []), none, 0, 0), fun h => absurd h hj⟩
    let F : Nat → (Int × List Val) × Option Addr × Nat × Nat := fun j => (pick j).choose
    have hF : ∀ j, j < len → W.cells? 0 (a.add (j * 2)) 2 = some [.int .i64 (F j).1.1, .slice (F j).2.1 (F j).2.2.1 (F j).2.2.2] ∧ ValsAt W (F j).2.1 (F j).2.2.1 (F j).1.2 ∧ (∀ u ∈ (F j).1.2, u.text.size ≤ TB) ∧ (F j).2.2.1 * 40 ≤ 140737488355328 := fun j => (pick j).choose_spec
    refine ⟨some a, len, cap, (List.range len).map fun j => (F j).1, rfl, ⟨by simp, fun j u hj => ?_⟩, fun u hu => ?_, hby⟩
    · have hj1 : j < len := by
        have := (List.getElem?_eq_some_iff.1 hj).1
        simpa using this
      rw [List.getElem?_map, List.getElem?_range hj1] at hj
      obtain rfl : (F j).1 = u := by simpa using hj
      obtain ⟨-, -, hat⟩ := World.cells?_some (hF j hj1).1
      obtain ⟨-, -, hat0⟩ := World.cells?_some (hF 0 (by omega)).1
      have h00 := hat0 0 (by omega)
      rw [Nat.zero_mul, Go.Deep.add_add, Nat.add_zero] at h00
      obtain ⟨b, off, ha, hb⟩ := spot0 h00
      have each : ∀ k, k < 2 → W.cell? ⟨b, off + j * 2 + k, none⟩ = ([.int .i64 (F j).1.1, .slice (F j).2.1 (F j).2.2.1 (F j).2.2.2] : List Value)[k]? := fun k hk => by
        have := hat k hk
        rw [ha, add_offR, add_offR] at this
        exact this
      obtain ⟨-, hv, -, hn⟩ := hF j hj1
      exact ⟨b, off, _, _, _, congrArg some ha, hb, each 0 (by omega), each 1 (by omega), hv, hn⟩
    · obtain ⟨j, hj, rfl⟩ := List.mem_map.1 hu
      exact (hF j (List.mem_range.1 hj)).2.2.1
/-- a slice of numbers, opened -/
theorem open_intsB {t : TypeId} (ht : Try.prog.underlying t = some (.slice 3)) {fuel : Nat} {v : Value} {x : DataW H × List MemPlace} (h : DataW.trod enc Try.prog W 0 sp held fuel t [v] = some x) (hs : ∀ n ∈ x.1.weights Try.prog t, n ≤ reachBytes) :
    ∃ (A : Option Addr) (n c : Nat) (l : List Int), v = .slice A n c ∧ IntsAt W A n l ∧ n * Try.prog.bytesOf 3 ≤ reachBytes := by
  rcases open_elems ht h hs with rfl | ⟨a, len, cap, m, -, rfl, hby, hi⟩
  · exact ⟨none, 0, 0, [], rfl, ⟨rfl, fun j z hz => by simp at hz⟩, by omega⟩
  · simp only [cells3, Nat.mul_one] at hi
    classical
    have pick : ∀ j : Nat, ∃ u : Int, j < len → W.cells? 0 (a.add j) 1 = some [.int .i64 u] := fun j => by
      by_cases hj : j < len
      · obtain ⟨cs', y, hc, hy, hw⟩ := hi j hj
        obtain ⟨z, rfl, q, -⟩ := DataW.trod_int Try.underlying3 hy
        exact ⟨z, fun _ => hc⟩
      · exact ⟨0, fun h => absurd h hj⟩
    let F : Nat → Int := fun j => (pick j).choose
    have hF : ∀ j, j < len → W.cells? 0 (a.add j) 1 = some [.int .i64 (F j)] := fun j => (pick j).choose_spec
    refine ⟨some a, len, cap, (List.range len).map F, rfl, ⟨by simp, fun j u hj => ?_⟩, hby⟩
    have hj1 : j < len := by
      have := (List.getElem?_eq_some_iff.1 hj).1
      simpa using this
    rw [List.getElem?_map, List.getElem?_range hj1] at hj
    obtain rfl : F j = u := by simpa using hj
    obtain ⟨-, -, hat⟩ := World.cells?_some (hF j hj1)
    obtain ⟨-, -, hat0⟩ := World.cells?_some (hF 0 (by omega))
    have h00 := hat0 0 (by omega)
    rw [Go.Deep.add_add, Nat.add_zero] at h00
    obtain ⟨b, off, ha, hb⟩ := spot0 h00
    have h0 := hat 0 (by omega)
    rw [ha, add_offR, add_offR, Nat.add_zero] at h0
    exact ⟨b, off, congrArg some ha, hb, h0⟩
theorem bytes29 : Try.prog.bytesOf 29 = 32 := by kernel_rfl
theorem bytes3 : Try.prog.bytesOf 3 = 8 := by kernel_rfl
theorem readable44 : Try.prog.readableRec 44 = true ∧ 44 < Try.prog.types.size := ⟨by kernel_rfl, of_decide_eq_true (by kernel_rfl)⟩
theorem readable45 : Try.prog.readableRec 45 = true ∧ 45 < Try.prog.types.size := ⟨by kernel_rfl, of_decide_eq_true (by kernel_rfl)⟩
end

end Go.Proofs.Ytbcmmecilheicaa
