/- The document's texts of expressions: told. Printed by mkpe8.py. -/
import Derived.Test.YtbcmmecilheicaaGreatDoorPeB
namespace Go.Proofs.YtbcmmecilheicaaGreatDoor
open Go Go.RowKit

theorem toList_inj {a b : ByteArray} (h : a.toList = b.toList) : a = b := by
 obtain ⟨a⟩ := a
 obtain ⟨b⟩ := b
 rw [ByteArray.toList_mk, ByteArray.toList_mk] at h
 rw [Array.toList_inj.1 h]
theorem SomeText.mono {m m' : Nat} (h : m ≤ m') {w : World} {e : Ending} {w' : World} (H : SomeText m w e w') : SomeText m' w e w' := by
 obtain ⟨s, e1, e2, e3⟩ := H
 exact ⟨s, e1, Lib.hid (Nat.le_trans e2.out h), e3⟩
section
variable {w : World} {v : Val} {name : ByteArray} {args : List PEx} {A : Option Addr} {n c : Nat} {b off : Nat} {As : Nat → Option Addr} {ns cs : Nat → Nat} {K : Nat}
/-- what is known of an expression's Args ahead of told -/
structure TK (w : World) (v : Val) (name : ByteArray) (args : List PEx) (A : Option Addr) (n c : Nat) (b off : Nat) (As : Nat → Option Addr) (ns cs : Nat → Nat) (K : Nat) : Prop where
 len : args.length = n
 tx : v.text.size ≤ TB
 nm : name.size ≤ 32
 hA : 0 < n → A = some ⟨b, off, none⟩ ∧ b < w.heap.size
 cells : ∀ (j : Nat) (e : PEx), args[j]? = some e → PExC w b (off + j * 7) e (As j) (ns j) (cs j)
 hK : K ≤ 100000000000000000
 ih : ∀ (j : Nat) (e : PEx), args[j]? = some e → ∀ W, Below w.heap.size w W → Calls Tryz.prog 75 #[.agg #[.string e.op, .int .i64 e.val.kind, .int .i64 e.val.int, .string e.val.text, .bool e.val.bool, .string e.name, .slice (As j) (ns j) (cs j)]] W (SomeText K W)
theorem tsize1 {a : ByteArray} (h : a.size ≤ K) {p q : ByteArray} (hp : p.size ≤ 100 := by decide) (hq : q.size ≤ 100 := by decide) : (p ++ a ++ q).size ≤ 2 * K + 11000 := by
 rw [ByteArray.size_append, ByteArray.size_append]; omega
set_option maxRecDepth 100000 in
set_option maxHeartbeats 16000000 in
theorem told_n0 (H : TK w v name args A n c b off As ns cs K) (hn : n = 0) :
  Calls Tryz.prog 75 #[.agg #[.string ⟨#[108, 105, 116]⟩, .int .i64 v.kind, .int .i64 v.int, .string v.text, .bool v.bool, .string name, .slice A n c]] w (SomeText (2 * K + 11000) w) := by
 subst hn
 have HT := Lib.hid H
 have hK := H.hK
 have hnm := H.nm
 obtain ⟨vk, vi, vt, vb⟩ := v
 obtain ⟨w1, hw1⟩ : ∃ z, z = w.alloc (.cells #[.string ⟨#[108, 105, 116]⟩, .int .i64 vk, .int .i64 vi, .string vt, .bool vb, .string name, .slice A 0 c] 29) := ⟨_, rfl⟩
 have B1 := Lib.hid (show Below w.heap.size w w1 by rw [hw1]; exact below_alloc _ _)
 have Z1 := Lib.hid (show Blk w1 w.heap.size 29 #[.string ⟨#[108, 105, 116]⟩, .int .i64 vk, .int .i64 vi, .string vt, .bool vb, .string name, .slice A 0 c] by rw [hw1]; exact Blk.new w 29 _)
 clear H
 have z0 := Z1.out.cell 0
 have z1 := Z1.out.cell 1
 have z2 := Z1.out.cell 2
 have z3 := Z1.out.cell 3
 have z4 := Z1.out.cell 4
 have z5 := Z1.out.cell 5
 have z6 := Z1.out.cell 6
 have hl := Z1.out.lt
 go_enter Tryz.func75, Tryz.ntmps75
 go_upto_region 1 with fail
 rw [← hw1]
 clear hw1
 have TX := Lib.hid HT.out.tx
 go_wp2_with fail
 refine (print104 _ vk vi vt vb TX.out).mono ?_
 rintro e w2 ⟨s, m, rfl, hs, hb⟩
 go_wp2_with fail
 go_ret
 exact ⟨s, rfl, Lib.hid (by have := hs.out; omega), Lib.hid (bt hb.out B1.out)⟩
set_option maxRecDepth 100000 in
set_option maxHeartbeats 16000000 in
theorem told_n1 (H : TK w v name args A n c b off As ns cs K) (hn : n = 0) :
  Calls Tryz.prog 75 #[.agg #[.string ⟨#[99, 111, 108]⟩, .int .i64 v.kind, .int .i64 v.int, .string v.text, .bool v.bool, .string name, .slice A n c]] w (SomeText (2 * K + 11000) w) := by
 subst hn
 have HT := Lib.hid H
 have hK := H.hK
 have hnm := H.nm
 obtain ⟨vk, vi, vt, vb⟩ := v
 obtain ⟨w1, hw1⟩ : ∃ z, z = w.alloc (.cells #[.string ⟨#[99, 111, 108]⟩, .int .i64 vk, .int .i64 vi, .string vt, .bool vb, .string name, .slice A 0 c] 29) := ⟨_, rfl⟩
 have B1 := Lib.hid (show Below w.heap.size w w1 by rw [hw1]; exact below_alloc _ _)
 have Z1 := Lib.hid (show Blk w1 w.heap.size 29 #[.string ⟨#[99, 111, 108]⟩, .int .i64 vk, .int .i64 vi, .string vt, .bool vb, .string name, .slice A 0 c] by rw [hw1]; exact Blk.new w 29 _)
 clear H
 have z0 := Z1.out.cell 0
 have z1 := Z1.out.cell 1
 have z2 := Z1.out.cell 2
 have z3 := Z1.out.cell 3
 have z4 := Z1.out.cell 4
 have z5 := Z1.out.cell 5
 have z6 := Z1.out.cell 6
 have hl := Z1.out.lt
 go_enter Tryz.func75, Tryz.ntmps75
 go_upto_region 1 with fail
 rw [← hw1]
 clear hw1
 go_wp2_with fail
 go_ret
 exact ⟨name, rfl, Lib.hid (by omega), B1⟩
set_option maxRecDepth 100000 in
set_option maxHeartbeats 128000000 in
theorem told_n2 {op : ByteArray} (hop : op ∈ [(⟨#[108, 97, 98, 101, 108]⟩ : ByteArray), (⟨#[114, 111, 119, 115]⟩ : ByteArray)]) (H : TK w v name args A n c b off As ns cs K) (hn : n = 0) :
  Calls Tryz.prog 75 #[.agg #[.string op, .int .i64 v.kind, .int .i64 v.int, .string v.text, .bool v.bool, .string name, .slice A n c]] w (SomeText (2 * K + 11000) w) := by
 subst hn
 have HT := Lib.hid H
 have hK := H.hK
 have hnm := H.nm
 obtain ⟨vk, vi, vt, vb⟩ := v
 obtain ⟨w1, hw1⟩ : ∃ z, z = w.alloc (.cells #[.string op, .int .i64 vk, .int .i64 vi, .string vt, .bool vb, .string name, .slice A 0 c] 29) := ⟨_, rfl⟩
 have B1 := Lib.hid (show Below w.heap.size w w1 by rw [hw1]; exact below_alloc _ _)
 have Z1 := Lib.hid (show Blk w1 w.heap.size 29 #[.string op, .int .i64 vk, .int .i64 vi, .string vt, .bool vb, .string name, .slice A 0 c] by rw [hw1]; exact Blk.new w 29 _)
 clear H
 simp only [List.mem_cons, List.not_mem_nil, or_false] at hop
 rcases hop with rfl | rfl
 all_goals
  have z0 := Z1.out.cell 0
  have z1 := Z1.out.cell 1
  have z2 := Z1.out.cell 2
  have z3 := Z1.out.cell 3
  have z4 := Z1.out.cell 4
  have z5 := Z1.out.cell 5
  have z6 := Z1.out.cell 6
  have hl := Z1.out.lt
  go_enter Tryz.func75, Tryz.ntmps75
  go_upto_region 1 with fail
  rw [← hw1]
  clear hw1
  go_wp2_with fail
  go_ret
  exact ⟨_, rfl, Lib.hid (Nat.le_trans (show _ ≤ 100 by decide) (by omega)), B1⟩
set_option maxRecDepth 100000 in
set_option maxHeartbeats 128000000 in
theorem told_o0 {op : ByteArray} (hop : op ∈ [(⟨#[110, 101, 103]⟩ : ByteArray), (⟨#[110, 111, 116]⟩ : ByteArray), (⟨#[105, 115, 110, 117, 108, 108]⟩ : ByteArray), (⟨#[110, 111, 116, 110, 117, 108, 108]⟩ : ByteArray)]) (H : TK w v name args A n c b off As ns cs K) (hn : n = 1) :
  Calls Tryz.prog 75 #[.agg #[.string op, .int .i64 v.kind, .int .i64 v.int, .string v.text, .bool v.bool, .string name, .slice A n c]] w (SomeText (2 * K + 11000) w) := by
 subst hn
 have HT := Lib.hid H
 have hK := H.hK
 have hnm := H.nm
 obtain ⟨vk, vi, vt, vb⟩ := v
 obtain ⟨w1, hw1⟩ : ∃ z, z = w.alloc (.cells #[.string op, .int .i64 vk, .int .i64 vi, .string vt, .bool vb, .string name, .slice A 1 c] 29) := ⟨_, rfl⟩
 have B1 := Lib.hid (show Below w.heap.size w w1 by rw [hw1]; exact below_alloc _ _)
 have Z1 := Lib.hid (show Blk w1 w.heap.size 29 #[.string op, .int .i64 vk, .int .i64 vi, .string vt, .bool vb, .string name, .slice A 1 c] by rw [hw1]; exact Blk.new w 29 _)
 clear H
 simp only [List.mem_cons, List.not_mem_nil, or_false] at hop
 rcases hop with rfl | rfl | rfl | rfl
 all_goals
  have z0 := Z1.out.cell 0
  have z1 := Z1.out.cell 1
  have z2 := Z1.out.cell 2
  have z3 := Z1.out.cell 3
  have z4 := Z1.out.cell 4
  have z5 := Z1.out.cell 5
  have z6 := Z1.out.cell 6
  have hl := Z1.out.lt
  obtain ⟨rfl, hb0⟩ := HT.out.hA (by omega)
  go_enter Tryz.func75, Tryz.ntmps75
  go_upto_region 1 with fail
  rw [← hw1]
  clear hw1
  obtain ⟨a0, ha0⟩ : ∃ a, args[0]? = some a := ⟨_, List.getElem?_eq_getElem (by rw [HT.out.len]; omega)⟩
  obtain ⟨x0, x1, x2, x3, x4, x5, x6⟩ := (HT.out.cells 0 a0 ha0).below hb0 B1.out
  simp only [Nat.zero_mul, Nat.add_zero] at x0 x1 x2 x3 x4 x5 x6
  have C0 := Lib.hid (HT.out.ih 0 a0 ha0 w1 B1.out)
  have hbr0 := Nat.lt_of_lt_of_le hb0 B1.out.size
  clear ha0
  go_wp2_with fail
  refine C0.out.mono ?_
  rintro e w2 ⟨s0, rfl, hs0, hbb0⟩
  have B2 := Lib.hid (bt hbb0.out B1.out)
  have Z2 := Lib.hid (Z1.out.below hbb0.out)
  have t0 := hs0.out
  clear x0 x1 x2 x3 x4 x5 x6 hbb0 C0
  clear z0 z1 z2 z3 z4 z5 z6 hl
  have z0 := Z2.out.cell 0
  have z1 := Z2.out.cell 1
  have z2 := Z2.out.cell 2
  have z3 := Z2.out.cell 3
  have z4 := Z2.out.cell 4
  have z5 := Z2.out.cell 5
  have z6 := Z2.out.cell 6
  have hl := Z2.out.lt
  go_wp2_with fail
  go_ret
  exact ⟨_, rfl, Lib.hid (tsize1 t0), B2⟩
set_option maxRecDepth 100000 in
set_option maxHeartbeats 128000000 in
theorem told_o4 {op : ByteArray} (hop : op ∈ [(⟨#[99, 111, 117, 110, 116]⟩ : ByteArray), (⟨#[115, 117, 109]⟩ : ByteArray), (⟨#[109, 105, 110]⟩ : ByteArray), (⟨#[109, 97, 120]⟩ : ByteArray)]) (H : TK w v name args A n c b off As ns cs K) (hn : n = 1) :
  Calls Tryz.prog 75 #[.agg #[.string op, .int .i64 v.kind, .int .i64 v.int, .string v.text, .bool v.bool, .string name, .slice A n c]] w (SomeText (2 * K + 11000) w) := by
 subst hn
 have HT := Lib.hid H
 have hK := H.hK
 have hnm := H.nm
 obtain ⟨vk, vi, vt, vb⟩ := v
 obtain ⟨w1, hw1⟩ : ∃ z, z = w.alloc (.cells #[.string op, .int .i64 vk, .int .i64 vi, .string vt, .bool vb, .string name, .slice A 1 c] 29) := ⟨_, rfl⟩
 have B1 := Lib.hid (show Below w.heap.size w w1 by rw [hw1]; exact below_alloc _ _)
 have Z1 := Lib.hid (show Blk w1 w.heap.size 29 #[.string op, .int .i64 vk, .int .i64 vi, .string vt, .bool vb, .string name, .slice A 1 c] by rw [hw1]; exact Blk.new w 29 _)
 clear H
 simp only [List.mem_cons, List.not_mem_nil, or_false] at hop
 rcases hop with rfl | rfl | rfl | rfl
 all_goals
  have z0 := Z1.out.cell 0
  have z1 := Z1.out.cell 1
  have z2 := Z1.out.cell 2
  have z3 := Z1.out.cell 3
  have z4 := Z1.out.cell 4
  have z5 := Z1.out.cell 5
  have z6 := Z1.out.cell 6
  have hl := Z1.out.lt
  obtain ⟨rfl, hb0⟩ := HT.out.hA (by omega)
  go_enter Tryz.func75, Tryz.ntmps75
  go_upto_region 1 with fail
  rw [← hw1]
  clear hw1
  obtain ⟨a0, ha0⟩ : ∃ a, args[0]? = some a := ⟨_, List.getElem?_eq_getElem (by rw [HT.out.len]; omega)⟩
  obtain ⟨x0, x1, x2, x3, x4, x5, x6⟩ := (HT.out.cells 0 a0 ha0).below hb0 B1.out
  simp only [Nat.zero_mul, Nat.add_zero] at x0 x1 x2 x3 x4 x5 x6
  have C0 := Lib.hid (HT.out.ih 0 a0 ha0 w1 B1.out)
  have hbr0 := Nat.lt_of_lt_of_le hb0 B1.out.size
  clear ha0
  go_wp2_with fail
  refine C0.out.mono ?_
  rintro e w2 ⟨s0, rfl, hs0, hbb0⟩
  have B2 := Lib.hid (bt hbb0.out B1.out)
  have Z2 := Lib.hid (Z1.out.below hbb0.out)
  have t0 := hs0.out
  clear x0 x1 x2 x3 x4 x5 x6 hbb0 C0
  clear z0 z1 z2 z3 z4 z5 z6 hl
  have z0 := Z2.out.cell 0
  have z1 := Z2.out.cell 1
  have z2 := Z2.out.cell 2
  have z3 := Z2.out.cell 3
  have z4 := Z2.out.cell 4
  have z5 := Z2.out.cell 5
  have z6 := Z2.out.cell 6
  have hl := Z2.out.lt
  go_wp2_with fail
  refine (great105 _ _ (by decide) (by decide)).mono ?_
  rintro e w9 ⟨g, rfl, hg, hb9⟩
  have tg := hg.out
  have B9 := Lib.hid (bt hb9.out B2.out)
  clear z0 z1 z2 z3 z4 z5 z6 hl
  go_wp2_with fail
  go_ret
  exact ⟨_, rfl, Lib.hid (by simp only [ByteArray.size_append]; have l1 : (⟨#[40]⟩ : ByteArray).size = 1 := rfl; have l2 : (⟨#[41]⟩ : ByteArray).size = 1 := rfl; have l3 : (⟨#[32]⟩ : ByteArray).size = 1 := rfl; omega), B9⟩
set_option maxRecDepth 100000 in
set_option maxHeartbeats 128000000 in
theorem told_t0 {op : ByteArray} (hop : op ∈ [(⟨#[97, 110, 100]⟩ : ByteArray), (⟨#[111, 114]⟩ : ByteArray), (⟨#[61]⟩ : ByteArray), (⟨#[60, 62]⟩ : ByteArray), (⟨#[60]⟩ : ByteArray), (⟨#[60, 61]⟩ : ByteArray), (⟨#[62]⟩ : ByteArray), (⟨#[62, 61]⟩ : ByteArray), (⟨#[43]⟩ : ByteArray), (⟨#[45]⟩ : ByteArray), (⟨#[124, 124]⟩ : ByteArray), (⟨#[42]⟩ : ByteArray), (⟨#[47]⟩ : ByteArray), (⟨#[37]⟩ : ByteArray)]) (H : TK w v name args A n c b off As ns cs K) (hn : n = 2) :
  Calls Tryz.prog 75 #[.agg #[.string op, .int .i64 v.kind, .int .i64 v.int, .string v.text, .bool v.bool, .string name, .slice A n c]] w (SomeText (2 * K + 11000) w) := by
 subst hn
 have HT := Lib.hid H
 have hK := H.hK
 have hnm := H.nm
 obtain ⟨vk, vi, vt, vb⟩ := v
 obtain ⟨w1, hw1⟩ : ∃ z, z = w.alloc (.cells #[.string op, .int .i64 vk, .int .i64 vi, .string vt, .bool vb, .string name, .slice A 2 c] 29) := ⟨_, rfl⟩
 have B1 := Lib.hid (show Below w.heap.size w w1 by rw [hw1]; exact below_alloc _ _)
 have Z1 := Lib.hid (show Blk w1 w.heap.size 29 #[.string op, .int .i64 vk, .int .i64 vi, .string vt, .bool vb, .string name, .slice A 2 c] by rw [hw1]; exact Blk.new w 29 _)
 clear H
 simp only [List.mem_cons, List.not_mem_nil, or_false] at hop
 rcases hop with rfl | rfl | rfl | rfl | rfl | rfl | rfl | rfl | rfl | rfl | rfl | rfl | rfl | rfl
 all_goals
  have z0 := Z1.out.cell 0
  have z1 := Z1.out.cell 1
  have z2 := Z1.out.cell 2
  have z3 := Z1.out.cell 3
  have z4 := Z1.out.cell 4
  have z5 := Z1.out.cell 5
  have z6 := Z1.out.cell 6
  have hl := Z1.out.lt
  obtain ⟨rfl, hb0⟩ := HT.out.hA (by omega)
  go_enter Tryz.func75, Tryz.ntmps75
  go_upto_region 1 with fail
  rw [← hw1]
  clear hw1
  obtain ⟨a0, ha0⟩ : ∃ a, args[0]? = some a := ⟨_, List.getElem?_eq_getElem (by rw [HT.out.len]; omega)⟩
  obtain ⟨x0, x1, x2, x3, x4, x5, x6⟩ := (HT.out.cells 0 a0 ha0).below hb0 B1.out
  simp only [Nat.zero_mul, Nat.add_zero] at x0 x1 x2 x3 x4 x5 x6
  have C0 := Lib.hid (HT.out.ih 0 a0 ha0 w1 B1.out)
  have hbr0 := Nat.lt_of_lt_of_le hb0 B1.out.size
  clear ha0
  go_wp2_with fail
  refine C0.out.mono ?_
  rintro e w2 ⟨s0, rfl, hs0, hbb0⟩
  have B2 := Lib.hid (bt hbb0.out B1.out)
  have Z2 := Lib.hid (Z1.out.below hbb0.out)
  have t0 := hs0.out
  clear x0 x1 x2 x3 x4 x5 x6 hbb0 C0
  clear z0 z1 z2 z3 z4 z5 z6 hl
  have z0 := Z2.out.cell 0
  have z1 := Z2.out.cell 1
  have z2 := Z2.out.cell 2
  have z3 := Z2.out.cell 3
  have z4 := Z2.out.cell 4
  have z5 := Z2.out.cell 5
  have z6 := Z2.out.cell 6
  have hl := Z2.out.lt
  obtain ⟨a1, ha1⟩ : ∃ a, args[1]? = some a := ⟨_, List.getElem?_eq_getElem (by rw [HT.out.len]; omega)⟩
  obtain ⟨x0, x1, x2, x3, x4, x5, x6⟩ := (HT.out.cells 1 a1 ha1).below hb0 B2.out
  simp only [Nat.one_mul] at x0 x1 x2 x3 x4 x5 x6
  have C1 := Lib.hid (HT.out.ih 1 a1 ha1 w2 B2.out)
  have hbr1 := Nat.lt_of_lt_of_le hb0 B2.out.size
  clear ha1
  go_wp2_with fail
  refine C1.out.mono ?_
  rintro e w3 ⟨s1, rfl, hs1, hbb1⟩
  have B3 := Lib.hid (bt hbb1.out B2.out)
  have Z3 := Lib.hid (Z2.out.below hbb1.out)
  have t1 := hs1.out
  clear x0 x1 x2 x3 x4 x5 x6 hbb1 C1
  clear z0 z1 z2 z3 z4 z5 z6 hl
  have z0 := Z3.out.cell 0
  have z1 := Z3.out.cell 1
  have z2 := Z3.out.cell 2
  have z3 := Z3.out.cell 3
  have z4 := Z3.out.cell 4
  have z5 := Z3.out.cell 5
  have z6 := Z3.out.cell 6
  have hl := Z3.out.lt
  go_wp2_with fail
  refine (great105 _ _ (by decide) (by decide)).mono ?_
  rintro e w9 ⟨g, rfl, hg, hb9⟩
  have tg := hg.out
  have B9 := Lib.hid (bt hb9.out B3.out)
  clear z0 z1 z2 z3 z4 z5 z6 hl
  go_wp2_with fail
  go_ret
  exact ⟨_, rfl, Lib.hid (by simp only [ByteArray.size_append]; have l1 : (⟨#[40]⟩ : ByteArray).size = 1 := rfl; have l2 : (⟨#[41]⟩ : ByteArray).size = 1 := rfl; have l3 : (⟨#[32]⟩ : ByteArray).size = 1 := rfl; omega), B9⟩
end
theorem pow_bound (d : Nat) : 2 * (11000 * (2 ^ d - 1)) + 11000 ≤ 11000 * (2 ^ (d + 1) - 1) := by
 have h : 1 ≤ 2 ^ d := Nat.one_le_two_pow
 rw [Nat.pow_succ]
 omega
theorem pow_mono {a b : Nat} (h : a ≤ b) : 11000 * (2 ^ a - 1) ≤ 11000 * (2 ^ b - 1) := by
 have := Nat.pow_le_pow_right (show 0 < 2 by omega) h
 omega
theorem told75 {W : World} {x : PEx} {A : Option Addr} {n c : Nat} (h : PExIs W x A n c) : MayOk x → depthP x ≤ 40 → ∀ W', Below W.heap.size W W' → Calls Tryz.prog 75 #[.agg #[.string x.op, .int .i64 x.val.kind, .int .i64 x.val.int, .string x.val.text, .bool x.val.bool, .string x.name, .slice A n c]] W' (SomeText (11000 * (2 ^ depthP x - 1)) W') := by
 induction h with
 | mk op v name args A n c len small t0 t1 t2 b off hA As ns cs cells sub ih =>
  intro hm hd W' hW
  rw [depthP_mk] at hd ⊢
  cases hm with
  | mk _ _ _ _ ar hv hk nm msub =>
   have T : TK W' v name args A n c b off As ns cs (11000 * (2 ^ depthL args - 1)) := ⟨len, t1, nm, fun h0 => ⟨(hA h0).1, Nat.lt_of_lt_of_le (hA h0).2 hW.size⟩, fun j e hj => (cells j e hj).below (hA (by have := (List.getElem?_eq_some_iff.1 hj).1; omega)).2 hW, by
     have := pow_mono (show depthL args ≤ 40 by omega)
     have e : 11000 * (2 ^ 40 - 1) ≤ 100000000000000000 := by decide
     omega, fun j e hj W2 h2 => by
     have hde := depthL_mem (List.mem_of_getElem? hj)
     exact (ih j e hj (msub j e hj) (by omega) W2 (bt h2 hW)).mono fun _ _ q => q.mono (pow_mono hde)⟩
   have fin : ∀ {e : Ending} {w' : World}, SomeText (2 * (11000 * (2 ^ depthL args - 1)) + 11000) W' e w' → SomeText (11000 * (2 ^ (depthL args + 1) - 1)) W' e w' := fun q => q.mono (pow_bound _)
   rcases ar with ⟨hl, z, hz, he⟩ | ⟨hl, z, hz, he⟩ | ⟨hl, z, hz, he⟩
   all_goals
    obtain rfl := toList_inj he
    rw [len] at hl
    first
     | (simp only [opsN, List.mem_cons, List.not_mem_nil, or_false] at hz
        rcases hz with rfl | rfl | rfl | rfl
        · exact (told_n0 T hl).mono fun _ _ q => fin q
        · exact (told_n1 T hl).mono fun _ _ q => fin q
        · exact (told_n2 (.head _) T hl).mono fun _ _ q => fin q
        · exact (told_n2 (.tail _ (.head _)) T hl).mono fun _ _ q => fin q)
     | (simp only [opsO, List.mem_cons, List.not_mem_nil, or_false] at hz
        rcases hz with rfl | rfl | rfl | rfl | rfl | rfl | rfl | rfl
        · exact (told_o0 (.head _) T hl).mono fun _ _ q => fin q
        · exact (told_o0 (.tail _ (.head _)) T hl).mono fun _ _ q => fin q
        · exact (told_o0 (.tail _ (.tail _ (.head _))) T hl).mono fun _ _ q => fin q
        · exact (told_o0 (.tail _ (.tail _ (.tail _ (.head _)))) T hl).mono fun _ _ q => fin q
        · exact (told_o4 (.head _) T hl).mono fun _ _ q => fin q
        · exact (told_o4 (.tail _ (.head _)) T hl).mono fun _ _ q => fin q
        · exact (told_o4 (.tail _ (.tail _ (.head _))) T hl).mono fun _ _ q => fin q
        · exact (told_o4 (.tail _ (.tail _ (.tail _ (.head _)))) T hl).mono fun _ _ q => fin q)
     | (simp only [opsT, List.mem_cons, List.not_mem_nil, or_false] at hz
        rcases hz with rfl | rfl | rfl | rfl | rfl | rfl | rfl | rfl | rfl | rfl | rfl | rfl | rfl | rfl
        · exact (told_t0 (.head _) T hl).mono fun _ _ q => fin q
        · exact (told_t0 (.tail _ (.head _)) T hl).mono fun _ _ q => fin q
        · exact (told_t0 (.tail _ (.tail _ (.head _))) T hl).mono fun _ _ q => fin q
        · exact (told_t0 (.tail _ (.tail _ (.tail _ (.head _)))) T hl).mono fun _ _ q => fin q
        · exact (told_t0 (.tail _ (.tail _ (.tail _ (.tail _ (.head _))))) T hl).mono fun _ _ q => fin q
        · exact (told_t0 (.tail _ (.tail _ (.tail _ (.tail _ (.tail _ (.head _)))))) T hl).mono fun _ _ q => fin q
        · exact (told_t0 (.tail _ (.tail _ (.tail _ (.tail _ (.tail _ (.tail _ (.head _))))))) T hl).mono fun _ _ q => fin q
        · exact (told_t0 (.tail _ (.tail _ (.tail _ (.tail _ (.tail _ (.tail _ (.tail _ (.head _)))))))) T hl).mono fun _ _ q => fin q
        · exact (told_t0 (.tail _ (.tail _ (.tail _ (.tail _ (.tail _ (.tail _ (.tail _ (.tail _ (.head _))))))))) T hl).mono fun _ _ q => fin q
        · exact (told_t0 (.tail _ (.tail _ (.tail _ (.tail _ (.tail _ (.tail _ (.tail _ (.tail _ (.tail _ (.head _)))))))))) T hl).mono fun _ _ q => fin q
        · exact (told_t0 (.tail _ (.tail _ (.tail _ (.tail _ (.tail _ (.tail _ (.tail _ (.tail _ (.tail _ (.tail _ (.head _))))))))))) T hl).mono fun _ _ q => fin q
        · exact (told_t0 (.tail _ (.tail _ (.tail _ (.tail _ (.tail _ (.tail _ (.tail _ (.tail _ (.tail _ (.tail _ (.tail _ (.head _)))))))))))) T hl).mono fun _ _ q => fin q
        · exact (told_t0 (.tail _ (.tail _ (.tail _ (.tail _ (.tail _ (.tail _ (.tail _ (.tail _ (.tail _ (.tail _ (.tail _ (.tail _ (.head _))))))))))))) T hl).mono fun _ _ q => fin q
        · exact (told_t0 (.tail _ (.tail _ (.tail _ (.tail _ (.tail _ (.tail _ (.tail _ (.tail _ (.tail _ (.tail _ (.tail _ (.tail _ (.tail _ (.head _)))))))))))))) T hl).mono fun _ _ q => fin q)

end Go.Proofs.YtbcmmecilheicaaGreatDoor

