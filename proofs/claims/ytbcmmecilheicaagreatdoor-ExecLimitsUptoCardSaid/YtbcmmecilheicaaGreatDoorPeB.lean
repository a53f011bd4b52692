/- The document's texts of values. The document's texts of expressions. Printed by mkpe7.py. -/
import Derived.Test.YtbcmmecilheicaaGreatDoorPeA
import Derived.Test.YtbcmmecilheicaaGreatDoorApp

/- The document's texts of values. -/
namespace Go.Proofs.YtbcmmecilheicaaGreatDoor
open Go Go.RowKit

theorem tBytes : SlT Tryz.prog 244 5 1 1 (.int .u8 0) := ⟨Tryz.underlying244, info_of (by kernel_rfl), rfl, by decide⟩
def cellsB (bs : List UInt8) : List Value := bs.map fun b => .int .u8 b.toNat
theorem cellsB_at {bs : List UInt8} {j : Nat} {b : UInt8} (h : bs[j]? = some b) : (cellsB bs)[j]? = some (.int .u8 b.toNat) := by simp [cellsB, h]
/-- bytes of one's own, or such as cannot be appended to in place -/
structure BR (W : World) (B g n c : Nat) (bs : List UInt8) : Prop where
 len : bs.length = n
 lt : g < W.heap.size
 base : B ≤ g
 top : B ≤ W.heap.size
 cell : ∀ (j : Nat) (b : UInt8), bs[j]? = some b → W.cell? ⟨g, j, none⟩ = some (.int .u8 b.toNat)
 form : c = n ∨ W.ownsRow B 5 1 (.slice (some ⟨g, 0, none⟩) n c) n (cellsB bs)
theorem BR.of_own {W : World} {B g n c : Nat} {bs : List UInt8} (hl : bs.length = n) (hB : B ≤ W.heap.size) (h : W.ownsRow B 5 1 (.slice (some ⟨g, 0, none⟩) n c) n (cellsB bs)) : BR W B g n c bs := by
 have hlt := h.lt g rfl
 refine ⟨hl, hlt.2, hlt.1, hB, fun j b hj => ?_, .inr h⟩
 obtain ⟨g', e, -, -, hc, -⟩ := own_at h (cellsB_at hj)
 injection e with e
 injection e with e
 rw [e]; exact hc
theorem BR.below {W W' : World} {B g n c : Nat} {bs : List UInt8} (h : BR W B g n c bs) (hb : Below W.heap.size W W') : BR W' B g n c bs :=
 ⟨h.len, Nat.lt_of_lt_of_le h.lt hb.size, h.base, Nat.le_trans h.top hb.size, fun j b hj => (hb.cell (p := ⟨g, j, none⟩) h.lt).trans (h.cell j b hj), h.form.imp id fun k => own_below k hb⟩
/-- a byte more -/
theorem BR.step {w W : World} {g n c : Nat} {bs : List UInt8} (h : BR W w.heap.size g n c bs) (hw : Below w.heap.size w W) (hn : n + 1 ≤ 100000) (b : UInt8) (s : Nat) (z : Blk W s 5 #[.int .u8 b.toNat]) :
  ∃ g' cn w5, (Builtin.append_ #[244, 244] 244 #[.slice (some ⟨g, 0, none⟩) n c, .slice (some ⟨s, 0, none⟩) 1 1]).run Tryz.prog W = .ok (.slice (some ⟨g', 0, none⟩) (n + 1) cn) w5 ∧ BR w5 w.heap.size g' (n + 1) cn (bs ++ [b]) ∧ Below w.heap.size w w5 := by
 have hnews : ∀ j u, [Value.int .u8 b.toNat][j]? = some u → W.cell? ((⟨s, 0, none⟩ : Addr).add j) = some u := fun j u hj => by
  rw [add_lit0, z.cell j]
  simpa using hj
 have hone : ∀ u ∈ [Value.int .u8 b.toNat], u.oneCell' = true := fun u hu => by
  simp only [List.mem_cons, List.not_mem_nil, or_false] at hu
  subst hu; rfl
 have happ : cellsB (bs ++ [b]) = cellsB bs ++ [.int .u8 b.toNat] := by simp [cellsB]
 rcases h.form with hc | hown
 ·subst hc
  obtain ⟨i, hi, hz, hsz, hby⟩ := tBytes.info
  have hr := run_append_grow (P := Tryz.prog) W 244 244 5 i (.int .u8 0) Tryz.underlying244 hi hz ⟨g, 0, none⟩ c c (cellsB bs) (by rw [hsz]; simp [cellsB, h.len]) (fun j u hj => by
    rw [add_lit0]
    obtain ⟨x, hx, rfl⟩ : ∃ x, bs[j]? = some x ∧ Value.int .u8 x.toNat = u := by
     simp only [cellsB, List.getElem?_map] at hj
     obtain ⟨x, hx, e⟩ := Option.map_eq_some_iff.1 hj
     exact ⟨x, hx, e⟩
    exact h.cell j x hx) ⟨s, 0, none⟩ 1 1 [.int .u8 b.toNat] (by rw [hsz]; rfl) hnews (by omega) (by omega) (growslice_fits (by omega) (by rw [hby]; omega))
  have hml : c + 1 ≤ maxLen := by unfold maxLen; omega
  have hge := grownCap_ge W (c + 1) c 5
  have hle := grownCap_le_maxLen W (c + 1) c 5 hml
  have hb5 : Below W.heap.size W (W.drew.alloc (.cells ((cellsB bs).toArray ++ [Value.int .u8 b.toNat].toArray ++ Builtin.zeroCells (Value.cells (.int .u8 0)) (grownCap W (c + 1) c 5 - (c + 1))) 5)) := bt (below_alloc W.drew _) (below_drew W)
  have hB5 : Blk (W.drew.alloc (.cells ((cellsB bs).toArray ++ [Value.int .u8 b.toNat].toArray ++ Builtin.zeroCells (Value.cells (.int .u8 0)) (grownCap W (c + 1) c 5 - (c + 1))) 5)) W.heap.size 5 _ := Blk.new W.drew 5 _
  refine ⟨W.heap.size, _, _, hr, ?_, bt hb5 hw⟩
  have htop := h.top
  refine ⟨by simp [h.len], hB5.lt, htop, Nat.le_trans htop hb5.size, fun j x hj => ?_, ?_⟩
  ·rw [hB5.cell j]
   have hj' := cellsB_at hj
   rw [happ] at hj'
   rw [Array.getElem?_append_left (by
    have := (List.getElem?_eq_some_iff.1 hj').1
    simpa using this)]
   simpa using hj'
  ·right
   refine ⟨by simp [cellsB, h.len], .inr ⟨W.heap.size, _, _, rfl, htop, hB5, hge, hle, ?_, ?_⟩⟩
   ·simp [cellsB, h.len, Builtin.zeroCells, Value.cells]
    omega
   ·rw [happ]
    have hlen : (cellsB bs ++ [Value.int .u8 b.toNat]).length = (c + 1) * 1 := by simp [cellsB, h.len]
    rw [Array.toList_append, Array.toList_append, List.take_append_of_le_length (by simp [cellsB, h.len])]
    rw [← hlen]
    simp
    exact List.take_of_length_le (by simp)
 ·obtain ⟨An, cn, w5, hrun, hown5, hg, hnew⟩ := app_some tBytes 244 hown h.top ⟨s, 0, none⟩ 1 1 (by omega) [.int .u8 b.toNat] rfl hnews hone (by unfold maxLen; omega) (by omega)
  rw [← happ] at hown5
  have own_lt : ∀ k, (Value.slice (some ⟨g, 0, none⟩) n c).ownBlock = some k → w.heap.size ≤ k ∧ k < W.heap.size := hown.lt
  obtain ⟨g', rfl, -⟩ := own_at hown5 (cellsB_at (j := n) (b := b) (by rw [List.getElem?_append_right (by rw [h.len]; exact Nat.le_refl _), h.len, Nat.sub_self]; rfl))
  refine ⟨g', cn, w5, hrun, BR.of_own (by simp [h.len]) (Nat.le_trans h.top hg.size) hown5, ?_⟩
  exact ⟨hg.os.trans hw.os, hg.tape.trans hw.tape, hg.output.trans hw.output, Nat.le_trans hw.size hg.size, fun k hk => by
   rw [hg.block k (Nat.lt_of_lt_of_le hk hw.size) (fun e => by have := (own_lt k e.symm).1; omega)]
   exact hw.block k hk⟩

/-- bytes back as a text -/
theorem BR.text {W : World} {B g n c : Nat} {bs : List UInt8} (h : BR W B g n c bs) : (convert 244 9 (.slice (some ⟨g, 0, none⟩) n c)).run Tryz.prog W = .ok (.string ⟨bs.toArray⟩) W := by
 have := run_convert_bytes_back (P := Tryz.prog) W 244 9 5 ⟨g, 0, none⟩ c bs Tryz.underlying244 Tryz.underlying5 Tryz.underlying9 (fun j hj => by
  rw [add_lit0]
  have hj' := h.cell j bs[j] (List.getElem?_eq_getElem hj)
  rw [hj'])
 rw [h.len] at this
 exact this
def markW (w : World) (u : Value) : World := (w.alloc (.cells #[u] 5)).freeze ⟨w.heap.size, 1, none⟩ 1
theorem conv244 (w : World) (u : Value) : (convert 244 244 (.slice (some ⟨w.heap.size, 0, none⟩) 1 1)).run Tryz.prog (w.alloc (.cells #[u] 5)) = .ok (.slice (some ⟨w.heap.size, 0, none⟩) 1 1) (markW w u) := by
 have hsh : (w.alloc (.cells #[u] 5)).shape? w.heap.size = some (5, 1) := by
  simp [World.shape?, World.alloc, -World.alloc_eq]
 simp [convert, run_underlying Tryz.underlying244, run_underlying Tryz.underlying5, markStringish, hsh, Result.andThen, markW]
theorem markW_old (w : World) (u : Value) (j : Nat) (hj : j < w.heap.size) : (markW w u).heap[j]? = w.heap[j]? := by
 have h1 : w.heap.size ≠ j := by omega
 simp [markW, World.freeze, World.alloc, -World.alloc_eq, Array.getElem?_modify, Array.getElem?_push, h1, Ne.symm h1]
theorem markW_new (w : World) (u : Value) : (markW w u).heap[w.heap.size]? = some (.cells #[u] 5 (1, 2)) := by
 simp [markW, World.freeze, World.alloc, -World.alloc_eq]
 try (rw [Array.getElem_modify_self]; simp)
theorem markW_size (w : World) (u : Value) : (markW w u).heap.size = w.heap.size + 1 := by
 simp [markW, World.freeze, World.alloc, -World.alloc_eq]
theorem markW_below (w : World) (u : Value) : Below w.heap.size w (markW w u) := ⟨rfl, rfl, rfl, by rw [markW_size]; omega, fun k hk => markW_old w u k hk⟩
theorem markW_cell (w : World) (u : Value) : (markW w u).cell? ⟨w.heap.size, 0, none⟩ = some u := by
 simp [World.cell?, markW_new]

/-- a text and an error's number -/
def PrintPost (w : World) (e : Ending) (w' : World) : Prop := ∃ (t : ByteArray) (n : Int), e = .returned (.tuple #[.string t, .int .i64 n]) ∧ Hid (t.size ≤ 10000) ∧ Hid (Below w.heap.size w w')
set_option maxRecDepth 100000 in
set_option maxHeartbeats 16000000 in
theorem print104 (w : World) (k n : Int) (s : ByteArray) (b : Bool) (hs : s.size ≤ TB) : Calls Tryz.prog 104 #[.agg #[.int .i64 k, .int .i64 n, .string s, .bool b]] w (PrintPost w) := by
 obtain ⟨w1, hw1⟩ : ∃ z, z = w.alloc (.cells #[.int .i64 k, .int .i64 n, .string s, .bool b] 26) := ⟨_, rfl⟩
 have B1 := Lib.hid (show Below w.heap.size w w1 by rw [hw1]; exact below_alloc _ _)
 have Z1 := Lib.hid (show Blk w1 w.heap.size 26 #[.int .i64 k, .int .i64 n, .string s, .bool b] by rw [hw1]; exact Blk.new w 26 _)
 have z0 := Z1.out.cell 0
 have z1 := Z1.out.cell 1
 have z2 := Z1.out.cell 2
 have z3 := Z1.out.cell 3
 have hl := Z1.out.lt
 go_enter Tryz.func104, Tryz.ntmps104
 go_wp2_with fail
 rw [← hw1]
 clear hw1
 refine (valid36 _ k n s b hs).mono ?_
 rintro e w2 ⟨er, rfl, hv, hb2⟩
 clear z0 z1 z2 z3 hl
 have B12 := hb2
 have B2 := Lib.hid (bt hb2.out B1.out)
 have Z2 := Lib.hid (Z1.out.below hb2.out)
 clear hb2
 have z0 := Z2.out.cell 0
 have z1 := Z2.out.cell 1
 have z2 := Z2.out.cell 2
 have z3 := Z2.out.cell 3
 have hl := Z2.out.lt
 by_cases her : er = 0
 ·subst her
  have V := Lib.hid (hv.out.2.2 rfl)
  clear hv
  rcases (show k = 1 ∨ k = 2 ∨ k = 3 ∨ (k ≠ 1 ∧ k ≠ 2 ∧ k ≠ 3) by omega) with rfl | rfl | rfl | ⟨k1, k2, k3⟩
  ·go_wp2_with fail
   refine (digits146 _ _).mono ?_
   rintro e w3 ⟨t, rfl, ht, hb3⟩
   go_wp2_with fail
   go_ret2
   exact ⟨t, 0, rfl, Lib.hid (by have := ht.out; omega), Lib.hid (bt hb3.out B2.out)⟩
  ·have hs4 : s.size ≤ 4096 := V.out.2.2.2.2.2.1
   have hsi : (s.size : Int) ≤ 4096 := by omega
   have hcv := conv244 w2 (.int .u8 39)
   go_wp2_with fail
   clear hcv
   have BM := Lib.hid (markW_below w2 (.int .u8 39))
   have BR0 := Lib.hid (show BR (markW w2 (.int .u8 39)) w1.heap.size w2.heap.size 1 1 [39] from ⟨rfl, by rw [markW_size]; omega, B12.out.size, Nat.le_trans B12.out.size BM.out.size, fun j x hj => by
    match j, hj with
    | 0, hj => obtain rfl : (39 : UInt8) = x := by simpa using hj
               exact markW_cell w2 _
    | j + 1, hj => simp at hj, .inl rfl⟩)
   have B1M := Lib.hid (bt BM.out B12.out)
   clear z0 z1 z2 z3 hl
   go_loopg [5, 6] s.size (fun kx s5 s6 wr => ∃ i g m c : Nat, s5 = .slice (some ⟨g, 0, none⟩) m c ∧ s6 = .int .i64 i ∧ kx + i = s.size ∧ m ≤ 1 + 2 * i ∧ Hid (∃ bs, BR wr w1.heap.size g m c bs) ∧ Hid (Below w1.heap.size w1 wr))
   case atStart => exact ⟨0, w2.heap.size, 1, 1, rfl, rfl, by omega, by omega, Lib.hid ⟨_, BR0.out⟩, B1M⟩
   case round =>
    obtain ⟨i, g, m, c, rfl, rfl, hki, hm, HB, HW⟩ := hrel
    obtain ⟨bs, HBR⟩ := HB.out
    have HBB := Lib.hid HBR
    clear HB HBR
    have hi9 : (i : Int) ≤ 4096 := by omega
    have hi0 : (0 : Int) ≤ (i : Int) := by omega
    have z2 := (Z1.out.below HW.out).cell 2
    have hl := (Z1.out.below HW.out).lt
    by_cases hi : i < s.size
    ·have hiz : (i : Int) < (s.size : Int) := by omega
     obtain ⟨g', c', w5, hrun, HN, HW5⟩ := (HBB.out.below (below_alloc wr (.cells #[.int .u8 s[i].toNat] 5))).step (bt (below_alloc wr _) HW.out) (by omega) s[i] wr.heap.size (Blk.new wr 5 _)
     have R1 := Lib.hid hrun
     have N1 := Lib.hid HN
     have W5 := Lib.hid HW5
     have z5 := (Z1.out.below HW5).cell 2
     have hl5 := (Z1.out.below HW5).lt
     clear hrun HN HW5
     by_cases hq : s[i].toNat = 39
     ·have q1 : ((s[i].toNat : Int) == 39) = true := by simp; omega
      have q2 : (s[i].toNat == 39) = true := by simpa using hq
      obtain ⟨g2, c2, w6, hrun2, HN2, HW6⟩ := (N1.out.below (below_alloc w5 (.cells #[.int .u8 39] 5))).step (bt (below_alloc w5 _) W5.out) (by omega) 39 w5.heap.size (Blk.new w5 5 _)
      have R2 := Lib.hid hrun2
      have N2 := Lib.hid HN2
      have W6 := Lib.hid HW6
      clear hrun2 HN2 HW6 hq
      go_wp2_with (first | (at_builtin; refine wpList_append_runI _ rfl _ _ 244 244 rfl (.slice (some ⟨g, 0, none⟩) m c) (.slice (some ⟨wr.heap.size, 0, none⟩) 1 1) rfl rfl R1.out ?_) | (at_builtin; refine wpList_append_runI _ rfl _ _ 244 244 rfl (.slice (some ⟨g', 0, none⟩) (m + 1) c') (.slice (some ⟨w5.heap.size, 0, none⟩) 1 1) rfl rfl R2.out ?_))
      go_roundg (gk - 1)
      case measure => omega
      case rel => exact ⟨i + 1, g2, m + 1 + 1, c2, by first | rfl | (simp; done), by first | rfl | (simp; done), by omega, by omega, Lib.hid ⟨_, N2.out⟩, W6⟩
     ·have q1 : ((s[i].toNat : Int) == 39) = false := by simp; omega
      have q2 : (s[i].toNat == 39) = false := by simpa using hq
      clear hq
      go_wp2_with (at_builtin; refine wpList_append_runI _ rfl _ _ 244 244 rfl (.slice (some ⟨g, 0, none⟩) m c) (.slice (some ⟨wr.heap.size, 0, none⟩) 1 1) rfl rfl R1.out ?_)
      go_roundg (gk - 1)
      case measure => omega
      case rel => exact ⟨i + 1, g', m + 1, c', by first | rfl | (simp; done), by first | rfl | (simp; done), by omega, by omega, Lib.hid ⟨_, N1.out⟩, W5⟩
    ·have hiz : ¬ (i : Int) < (s.size : Int) := by omega
     have hconv := HBB.out.text
     obtain ⟨T, hT⟩ : ∃ T : ByteArray, T = ⟨bs.toArray⟩ := ⟨_, rfl⟩
     rw [← hT] at hconv
     have hTs : T.size ≤ 8193 := by
      have := HBB.out.len
      rw [hT]
      show bs.toArray.size ≤ _
      simp; omega
     have hcat : ¬ 9223372036854775807 < T.size + 1 := by omega
     have BW := Lib.hid (bt HW.out B1.out)
     clear hT
     go_wp2_with fail
     go_ret2
     exact ⟨_, 0, rfl, Lib.hid (by rw [ByteArray.size_append]; have : (⟨#[39]⟩ : ByteArray).size = 1 := rfl; omega), BW⟩
  ·cases b with
   | true =>
    go_wp2_with fail
    go_ret2
    exact ⟨_, 0, rfl, Lib.hid (by decide), B2⟩
   | false =>
    go_wp2_with fail
    go_ret2
    exact ⟨_, 0, rfl, Lib.hid (by decide), B2⟩
  ·have e1 : (k == 1) = false := by simpa using k1
   have e2 : (k == 2) = false := by simpa using k2
   have e3 : (k == 3) = false := by simpa using k3
   clear k1 k2 k3
   go_wp2_with fail
   go_ret2
   exact ⟨_, 0, rfl, Lib.hid (by decide), B2⟩
 ·have r1 : (er != 0) = true := by simpa using her
  have r2 : (er == 0) = false := by simpa using her
  go_wp2_with fail
  go_ret2
  exact ⟨⟨#[]⟩, er, rfl, Lib.hid (by decide), B2⟩

end Go.Proofs.YtbcmmecilheicaaGreatDoor

/- The document's texts of expressions. Printed by mkpe7.py. -/
namespace Go.Proofs.YtbcmmecilheicaaGreatDoor
open Go Go.RowKit

set_option maxRecDepth 100000 in
set_option maxHeartbeats 16000000 in
theorem great105 (w : World) (s : ByteArray) (h0 : 0 < s.size) (h1 : s.size ≤ 1000) : Calls Tryz.prog 105 #[.string s] w (SomeText 1000 w) := by
 have hsi : (s.size : Int) ≤ 1000 := by omega
 go_enter Tryz.func105, Tryz.ntmps105
 go_wp2_with fail
 go_loopg [3, 4] s.size (fun kx s3 s4 wr => ∃ (i : Nat) (Ao : Option Addr) (co : Nat), s3 = .slice Ao i co ∧ s4 = .int .i64 i ∧ kx + i = s.size ∧ Hid (∃ bs : List UInt8, bs.length = i ∧ wr.ownsRow w.heap.size 5 1 (.slice Ao i co) i (cellsB bs)) ∧ Hid (Below w.heap.size w wr))
 case atStart => exact ⟨0, none, 0, rfl, rfl, by omega, Lib.hid ⟨[], rfl, World.ownsRow_nil _ _ _ _⟩, Lib.hid (Below.refl _ _)⟩
 case round =>
  obtain ⟨i, Ao, co, rfl, rfl, hki, HB, HW⟩ := hrel
  have hi9 : (i : Int) ≤ 1000 := by omega
  have hi0 : (0 : Int) ≤ (i : Int) := by omega
  by_cases hi : i < s.size
  ·have hiz : (i : Int) < (s.size : Int) := by omega
   obtain ⟨bs, hbl, hown⟩ := HB.out
   have step : ∀ b : UInt8, ∃ An cn w5, (Builtin.append_ #[244, 244] 244 #[.slice Ao i co, .slice (some ⟨wr.heap.size, 0, none⟩) 1 1]).run Tryz.prog (wr.alloc (.cells #[.int .u8 b.toNat] 5)) = .ok (.slice An (i + 1) cn) w5 ∧ (∃ bs : List UInt8, bs.length = i + 1 ∧ w5.ownsRow w.heap.size 5 1 (.slice An (i + 1) cn) (i + 1) (cellsB bs)) ∧ Below w.heap.size w w5 := fun b => by
    obtain ⟨An, cn, w5, hrun, hown5, hg, -⟩ := app_some tBytes 244 (own_below hown (below_alloc wr (.cells #[.int .u8 b.toNat] 5))) (Nat.le_trans HW.out.size (below_alloc wr (.cells #[.int .u8 b.toNat] 5)).size) ⟨wr.heap.size, 0, none⟩ 1 1 (by omega) [.int .u8 b.toNat] rfl (fun j u hj => by
     rw [add_lit0, (Blk.new wr 5 _).cell j]
     simpa using hj) (fun u hu => by
     simp only [List.mem_cons, List.not_mem_nil, or_false] at hu
     subst hu; rfl) (by unfold maxLen; omega) (by omega)
    have own_lt : ∀ k, (Value.slice Ao i co).ownBlock = some k → w.heap.size ≤ k ∧ k < wr.heap.size := hown.lt
    have hw2 := bt (below_alloc wr (.cells #[.int .u8 b.toNat] 5)) HW.out
    refine ⟨An, cn, w5, hrun, ⟨bs ++ [b], by simp [hbl], by rw [show cellsB (bs ++ [b]) = cellsB bs ++ [.int .u8 b.toNat] by simp [cellsB]]; exact hown5⟩, ⟨hg.os.trans hw2.os, hg.tape.trans hw2.tape, hg.output.trans hw2.output, Nat.le_trans hw2.size hg.size, fun k hk => ?_⟩⟩
    rw [hg.block k (Nat.lt_of_lt_of_le hk hw2.size) (fun e => by have := (own_lt k e.symm).1; omega)]
    exact hw2.block k hk
   obtain ⟨c, hc⟩ : ∃ c : Nat, s[i].toNat = c := ⟨_, rfl⟩
   have hc9 : c < 256 := by rw [← hc]; exact s[i].toNat_lt
   have ST := Lib.hid step
   have CC := Lib.hid hc
   clear step hown hbl HB
   rcases (show c < 97 ∨ (97 ≤ c ∧ c ≤ 122) ∨ 122 < c by omega) with h | h | h
   ·have a97 : decide ((97 : Int) ≤ (c : Int)) = false := by simp; omega
    have a97n : decide (97 ≤ c) = false := by simp; omega
    have a122 : decide ((c : Int) ≤ 122) = true := by simp; omega
    have a122n : decide (c ≤ 122) = true := by simp; omega
    obtain ⟨An, cn, w5, hrun, HN, HW5⟩ := ST.out s[i]
    rw [CC.out] at hrun
    have R1 := Lib.hid hrun
    have N1 := Lib.hid HN
    have W5 := Lib.hid HW5
    clear hrun HN HW5 h
    go_wp2_with (at_builtin; refine wpList_append_runI _ rfl _ _ 244 244 rfl (.slice Ao i co) (.slice (some ⟨wr.heap.size, 0, none⟩) 1 1) rfl rfl R1.out ?_)
    go_roundg (gk - 1)
    case measure => omega
    case rel => exact ⟨i + 1, An, cn, by first | rfl | (simp; done), by first | rfl | (simp; done), by omega, N1, W5⟩
   ·have a97 : decide ((97 : Int) ≤ (c : Int)) = true := by simp; omega
    have a97n : decide (97 ≤ c) = true := by simp; omega
    have a122 : decide ((c : Int) ≤ 122) = true := by simp; omega
    have a122n : decide (c ≤ 122) = true := by simp; omega
    have hsub : (c : Int) - 32 = ((UInt8.ofNat (c - 32)).toNat : Int) := by
     have : (UInt8.ofNat (c - 32)).toNat = c - 32 := by
      have e : (UInt8.ofNat (c - 32)).toNat = (c - 32) % 256 := rfl
      omega
     rw [this]; omega
    have hsub0 : (32 : Int) ≤ (c : Int) := by omega
    have hsub1 : (c : Int) < 256 := by omega
    obtain ⟨d, hd⟩ : ∃ d : UInt8, d = UInt8.ofNat (c - 32) := ⟨_, rfl⟩
    rw [← hd] at hsub
    obtain ⟨An, cn, w5, hrun, HN, HW5⟩ := ST.out d
    have R1 := Lib.hid hrun
    have N1 := Lib.hid HN
    have W5 := Lib.hid HW5
    clear hrun HN HW5 h
    clear hd
    go_wp2_with (at_builtin; refine wpList_append_runI _ rfl _ _ 244 244 rfl (.slice Ao i co) (.slice (some ⟨wr.heap.size, 0, none⟩) 1 1) rfl rfl R1.out ?_)
    go_roundg (gk - 1)
    case measure => omega
    case rel => exact ⟨i + 1, An, cn, by first | rfl | (simp; done), by first | rfl | (simp; done), by omega, N1, W5⟩
   ·have a97 : decide ((97 : Int) ≤ (c : Int)) = true := by simp; omega
    have a97n : decide (97 ≤ c) = true := by simp; omega
    have a122 : decide ((c : Int) ≤ 122) = false := by simp; omega
    have a122n : decide (c ≤ 122) = false := by simp; omega
    obtain ⟨An, cn, w5, hrun, HN, HW5⟩ := ST.out s[i]
    rw [CC.out] at hrun
    have R1 := Lib.hid hrun
    have N1 := Lib.hid HN
    have W5 := Lib.hid HW5
    clear hrun HN HW5 h
    go_wp2_with (at_builtin; refine wpList_append_runI _ rfl _ _ 244 244 rfl (.slice Ao i co) (.slice (some ⟨wr.heap.size, 0, none⟩) 1 1) rfl rfl R1.out ?_)
    go_roundg (gk - 1)
    case measure => omega
    case rel => exact ⟨i + 1, An, cn, by first | rfl | (simp; done), by first | rfl | (simp; done), by omega, N1, W5⟩
  ·have hiz : ¬ (i : Int) < (s.size : Int) := by omega
   obtain rfl : i = s.size := by omega
   obtain ⟨bs, hbl, hown⟩ := HB.out
   obtain ⟨b0, hb0⟩ : ∃ b, bs[0]? = some b := ⟨_, List.getElem?_eq_getElem (by omega)⟩
   obtain ⟨g, rfl, -⟩ := own_at hown (cellsB_at hb0)
   have hconv := (BR.of_own hbl (by exact HW.out.size) hown).text
   obtain ⟨T, hT⟩ : ∃ T : ByteArray, T = ⟨bs.toArray⟩ := ⟨_, rfl⟩
   rw [← hT] at hconv
   have HTS := Lib.hid (show T.size ≤ 1000 by
    rw [hT]
    show bs.toArray.size ≤ _
    simp; omega)
   clear hT hown HB
   go_wp2_with fail
   go_ret
   exact ⟨T, rfl, HTS, HW⟩

end Go.Proofs.YtbcmmecilheicaaGreatDoor

