/- How deep the document's expressions are. -/
import Derived.Test.YtbcmmecilheicaaGreatDoorPe3
namespace Go.Proofs.YtbcmmecilheicaaGreatDoor
open Go Go.RowKit

mutual
def depthP : PEx → Nat
  | .mk _ _ _ args => depthL args + 1
def depthL : List PEx → Nat
  | [] => 0
  | x :: xs => max (depthP x) (depthL xs)
end
theorem depthP_mk (op : ByteArray) (v : Val) (name : ByteArray) (args : List PEx) : depthP (.mk op v name args) = depthL args + 1 := by rw [depthP]
theorem depthL_nil : depthL [] = 0 := by rw [depthL]
theorem depthL_cons (x : PEx) (xs : List PEx) : depthL (x :: xs) = max (depthP x) (depthL xs) := by rw [depthL]
theorem depthL_snoc : ∀ (l : List PEx) (a : PEx), depthL (l ++ [a]) = max (depthL l) (depthP a)
  | [], a => by rw [List.nil_append, depthL_cons, depthL_nil]; omega
  | x :: l, a => by rw [List.cons_append, depthL_cons, depthL_cons, depthL_snoc l a]; omega
theorem depthL_mem : ∀ {l : List PEx} {a : PEx}, a ∈ l → depthP a ≤ depthL l
  | x :: l, a, h => by
    rw [depthL_cons]
    rcases List.mem_cons.1 h with rfl | h
    · omega
    · have := depthL_mem h; omega
theorem depthL_take (l : List PEx) (i : Nat) : depthL (l.take i) ≤ depthL l := by
  induction l generalizing i with
  | nil => rw [List.take_nil]; exact Nat.le_refl _
  | cons x l ih =>
    cases i with
    | zero => rw [List.take_zero, depthL_nil]; exact Nat.zero_le _
    | succ i => rw [List.take_succ_cons, depthL_cons, depthL_cons]; have := ih i; omega

set_option maxRecDepth 100000 in
set_option maxHeartbeats 16000000 in
theorem depth103_mk (w : World) (op : ByteArray) (v : Val) (name : ByteArray) (args : List PEx) (A : Option Addr) (n c : Nat) (len : args.length = n) (small : n ≤ 1466015503701) (hd : depthL args ≤ 4611686018427387904) (b off : Nat) (hA : 0 < n → A = some ⟨b, off, none⟩ ∧ b < w.heap.size)
    (As : Nat → Option Addr) (ns cs : Nat → Nat) (cells : ∀ (j : Nat) (e : PEx), args[j]? = some e → PExC w b (off + j * 7) e (As j) (ns j) (cs j))
    (ih : ∀ (j : Nat) (e : PEx), args[j]? = some e → ∀ W, Below w.heap.size w W → Calls Tryz.prog 103 #[.agg #[.string e.op, .int .i64 e.val.kind, .int .i64 e.val.int, .string e.val.text, .bool e.val.bool, .string e.name, .slice (As j) (ns j) (cs j)]] W (fun ev W' => ev = .returned (.int .i64 (depthP e)) ∧ Hid (Below W.heap.size W W'))) :
    Calls Tryz.prog 103 #[.agg #[.string op, .int .i64 v.kind, .int .i64 v.int, .string v.text, .bool v.bool, .string name, .slice A n c]] w (fun ev W' => ev = .returned (.int .i64 (depthL args + 1 : Nat)) ∧ Hid (Below w.heap.size w W')) := by
  obtain ⟨vk, vi, vt, vb⟩ := v
  obtain ⟨w1, hw1⟩ : ∃ z, z = w.alloc (.cells #[.string op, .int .i64 vk, .int .i64 vi, .string vt, .bool vb, .string name, .slice A n c] 29) := ⟨_, rfl⟩
  have B1 := Lib.hid (show Below w.heap.size w w1 by rw [hw1]; exact below_alloc _ _)
  have Z1 := Lib.hid (show Blk w1 w.heap.size 29 #[.string op, .int .i64 vk, .int .i64 vi, .string vt, .bool vb, .string name, .slice A n c] by rw [hw1]; exact Blk.new w 29 _)
  have HA := Lib.hid hA
  have HCL := Lib.hid cells
  have HIH := Lib.hid ih
  have HLEN := Lib.hid len
  have HD := Lib.hid hd
  clear hA cells ih len hd
  have hn9 : (n : Int) ≤ 1466015503701 := by omega
  go_enter Tryz.func103, Tryz.ntmps103
  go_upto_region 1 with fail
  rw [← hw1]
  clear hw1
  go_wp2_with fail
  go_loopg [3, 4] n (fun kx s3 s4 wr => ∃ i d : Nat, s3 = .int .i64 d ∧ s4 = .int .i64 i ∧ kx + i = n ∧ d ≤ 4611686018427387904 ∧ Hid (d = depthL (args.take i)) ∧ Hid (Below w.heap.size w wr ∧ Blk wr w.heap.size 29 #[.string op, .int .i64 vk, .int .i64 vi, .string vt, .bool vb, .string name, .slice A n c]))
  case atStart => exact ⟨0, 0, rfl, rfl, by omega, by omega, Lib.hid (by rw [List.take_zero, depthL_nil]), Lib.hid ⟨B1.out, Z1.out⟩⟩
  case round =>
    obtain ⟨i, d, rfl, rfl, hki, hd9, HDI, HB⟩ := hrel
    have hi9 : (i : Int) ≤ 1466015503701 := by omega
    have hi0 : (0 : Int) ≤ (i : Int) := by omega
    have hdi : (d : Int) ≤ 4611686018427387904 := by omega
    have zr := HB.out.2.cell 6
    have hlr := HB.out.2.lt
    by_cases hi : i < n
    · have hiz : (i : Int) < (n : Int) := by omega
      obtain ⟨a, ha⟩ : ∃ a, args[i]? = some a := ⟨_, List.getElem?_eq_getElem (by rw [HLEN.out]; exact hi)⟩
      obtain ⟨rfl, hb⟩ := HA.out (by omega)
      obtain ⟨x0, x1, x2, x3, x4, x5, x6⟩ := (HCL.out i a ha).below hb HB.out.1
      have hbr := Nat.lt_of_lt_of_le hb HB.out.1.size
      have hs := depthL_snoc (args.take i) a
      rw [← HDI.out] at hs
      have ht : args.take (i + 1) = args.take i ++ [a] := by rw [List.take_add_one, ha]; rfl
      have hda : depthP a ≤ 4611686018427387904 := Nat.le_trans (depthL_mem (List.mem_of_getElem? ha)) HD.out
      have CI := Lib.hid (HIH.out i a ha wr HB.out.1)
      obtain ⟨q, hq⟩ : ∃ q, q = depthP a := ⟨_, rfl⟩
      rw [← hq] at CI hs hda
      have HS := Lib.hid (show max d q = depthL (args.take (i + 1)) by rw [ht, hs])
      have hqi : (q : Int) ≤ 4611686018427387904 := by omega
      clear ha hs ht hq HDI
      go_wp2_with fail
      refine CI.out.mono ?_
      rintro e w5 ⟨rfl, hb5⟩
      have B5 := Lib.hid (bt hb5.out HB.out.1)
      have Z5 := Lib.hid (HB.out.2.below hb5.out)
      clear x0 x1 x2 x3 x4 x5 x6 zr hlr CI hb5
      by_cases hlt : d < q
      · have hltz : (d : Int) < (q : Int) := by omega
        have NX := Lib.hid (show q = depthL (args.take (i + 1)) by rw [← HS.out]; omega)
        go_wp2_with fail
        go_roundg (gk - 1)
        case measure => omega
        case rel => exact ⟨i + 1, q, by first | rfl | (simp; done), by first | rfl | (simp; done), by omega, by omega, NX, Lib.hid ⟨B5.out, Z5.out⟩⟩
      · have hltz : ¬ (d : Int) < (q : Int) := by omega
        have NX := Lib.hid (show d = depthL (args.take (i + 1)) by rw [← HS.out]; omega)
        go_wp2_with fail
        go_roundg (gk - 1)
        case measure => omega
        case rel => exact ⟨i + 1, d, by first | rfl | (simp; done), by first | rfl | (simp; done), by omega, by omega, NX, Lib.hid ⟨B5.out, Z5.out⟩⟩
    · have hiz : ¬ (i : Int) < (n : Int) := by omega
      have HE := Lib.hid (show d = depthL args by rw [HDI.out, List.take_of_length_le (by rw [HLEN.out]; omega)])
      have BB := Lib.hid HB.out.1
      clear HB HDI
      go_wp2_with fail
      go_ret
      exact ⟨by rw [← HE.out]; first | rfl | (simp; done), BB⟩
theorem depth103 {W : World} {x : PEx} {A : Option Addr} {n c : Nat} (h : PExIs W x A n c) : depthP x ≤ 4611686018427387904 → ∀ W', Below W.heap.size W W' → Calls Tryz.prog 103 #[.agg #[.string x.op, .int .i64 x.val.kind, .int .i64 x.val.int, .string x.val.text, .bool x.val.bool, .string x.name, .slice A n c]] W' (fun ev W2 => ev = .returned (.int .i64 (depthP x)) ∧ Hid (Below W'.heap.size W' W2)) := by
  induction h with
  | mk op v name args A n c len small t0 t1 t2 b off hA As ns cs cells sub ih =>
    intro hd W' hW
    rw [depthP_mk] at hd ⊢
    exact depth103_mk W' op v name args A n c len small (by omega) b off (fun h0 => ⟨(hA h0).1, Nat.lt_of_lt_of_le (hA h0).2 hW.size⟩) As ns cs (fun j e hj => (cells j e hj).below (hA (by have := (List.getElem?_eq_some_iff.1 hj).1; omega)).2 hW) (fun j e hj W2 h2 => ih j e hj (by have := depthL_mem (List.mem_of_getElem? hj); omega) W2 (bt h2 hW))

end Go.Proofs.YtbcmmecilheicaaGreatDoor
