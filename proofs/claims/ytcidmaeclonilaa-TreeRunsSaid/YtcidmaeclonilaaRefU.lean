/- The document's answer of chapter 12: From, To; law12.pair. Printed by mkrefu.py. -/
import Derived.Test.YtcidmaeclonilaaRefT
namespace Go.Proofs.Ytcidmaeclonilaa
open Go Go.RowKit

/-- a pair, or nothing -/
def PairPost (w : World) (o : Option KV) (e : Ending) (w' : World) : Prop :=
  e = .returned (.tuple #[.agg #[.string (rk o), rvS o], .bool o.isSome]) ∧ Below w.heap.size w w'
theorem from_hit {l : List KV} {key : ByteArray} {b : Bool} {i : Nat} {p : KV} (hA : ∀ q ∈ l.take i, fromB key b q = false) (hp : l[i]? = some p) (h : fromB key b p = true) : fromL key b l = some p := by
  obtain ⟨hlt, he⟩ := List.getElem?_eq_some_iff.1 hp
  have e : l = l.take i ++ p :: l.drop (i + 1) := by rw [← he, ← List.drop_eq_getElem_cons hlt, List.take_append_drop]
  show l.find? (fromB key b) = some p
  rw [e, List.find?_append, List.find?_eq_none.2 fun q hq => by rw [hA q hq]; decide, List.find?_cons_of_pos h, Option.none_or]
theorem to_hit {l : List KV} {key : ByteArray} {b : Bool} {i : Nat} {p : KV} (hA : ∀ q ∈ l.drop (i + 1), toB key b q = false) (hp : l[i]? = some p) (h : toB key b p = true) : toLst key b l = some p := by
  obtain ⟨hlt, rfl⟩ := List.getElem?_eq_some_iff.1 hp
  unfold toLst
  have e : l.reverse = (l.drop (i + 1)).reverse ++ l[i] :: (l.take i).reverse := by
    conv => lhs; rw [← List.take_append_drop i l, List.drop_eq_getElem_cons hlt]
    simp
  rw [e, List.find?_append, List.find?_eq_none.2 fun q hq => by rw [hA q (by simpa using hq)]; decide, List.find?_cons_of_pos h, Option.none_or]

set_option maxHeartbeats 4000000 in
set_option maxRecDepth 100000 in
theorem from78 (w : World) (A : Option Addr) (n c : Nat) (l : List KV) (key : ByteArray) (bh : Bool) (hA : PArg w A n l) (hn : n ≤ 60000) (hv : ∀ p ∈ l, StrV p.2) :
    Calls Try.prog 78 #[.slice A n c, .string key, .bool bh] w (PairPost w (fromL key bh l)) := by
  have HA := Lib.hid hA
  have HV := Lib.hid hv
  have HB := Lib.hid (fun (cs : Array Value) => (Below.refl _ w).alloc (Nat.le_refl _) (.cells cs 81))
  clear hA hv
  go_enter Try.func78, Try.ntmps78
  go_wp2_with fail
  go_loopg [8] n (fun kx s8 wr => ∃ (i : Nat), s8 = .int .i64 i ∧ kx + i = n ∧ Hid (∀ q ∈ l.take i, fromB key bh q = false) ∧ w.alloc (.cells #[.string ⟨#[]⟩, .string ⟨#[]⟩] 81) = wr)
  case atStart => exact ⟨0, rfl, rfl, Lib.hid (fun p hp => by simp at hp), rfl⟩
  case round =>
    obtain ⟨i, rfl, hk, I, rfl⟩ := hrel
    by_cases hi : i < n
    · have hiz : (i : Int) < (n : Int) := by omega
      have hib : (i : Int) + 1 ≤ 9223372036854775807 := by omega
      obtain ⟨⟨z, zu⟩, hp⟩ : ∃ p, l[i]? = some p := ⟨_, List.getElem?_eq_getElem (by rw [HA.out.len]; exact hi)⟩
      obtain ⟨zv, hzv⟩ := HV.out _ (List.mem_of_getElem? hp)
      have hzv' : zu = .string zv := hzv
      subst hzv'
      obtain ⟨g, rfl, hg, d0, d1⟩ := HA.out.at_ i _ hp
      have d0 : w.cell? ⟨g, i * 2, none⟩ = some (.string z) := d0
      have d1 : w.cell? ⟨g, i * 2 + 1, none⟩ = some (.string zv) := d1
      have HIT := Lib.hid (show fromB key bh (z, .string zv) = true → fromL key bh l = some (z, .string zv) from fun h => from_hit I.out hp h)
      have MISS := Lib.hid (show fromB key bh (z, .string zv) = false → ∀ q ∈ l.take (i + 1), fromB key bh q = false from fun h q hq => by
        rw [List.take_add_one, hp] at hq
        rcases List.mem_append.1 hq with hq | hq
        · exact I.out q hq
        · obtain rfl : q = (z, .string zv) := by simpa using hq
          exact h)
      have HK := Lib.hid hk
      clear I hp hk
      rcases klt_tri z key with h | h | h
      · have hlt : Op.bytesLess z.toList key.toList = true := h
        have hne : z ≠ key := klt_ne h
        have he : (z.toList == key.toList) = false := by rw [beq_toList]; simpa using hne
        have hgt : klt key z = false := klt_asymm h
        have hgt2 : Op.bytesLess key.toList z.toList = false := hgt
        have M2 := Lib.hid (MISS.out (by simp [fromB, h, klt_irrefl, hne, hgt]))
        clear HIT MISS
        go_wp2_with fail
        go_roundg (gk - 1)
        case measure => have := HK.out; omega
        case rel => exact ⟨i + 1, rfl, by have := HK.out; omega, M2, rfl⟩
      · subst h
        have h := klt_irrefl z
        have hlt : Op.bytesLess z.toList z.toList = false := h
        have he : (z.toList == z.toList) = true := by simp
        cases bh with
        | true =>
          have M2 := Lib.hid (MISS.out (by simp [fromB, h, klt_irrefl, h]))
          clear HIT MISS
          go_wp2_with fail
          go_roundg (gk - 1)
          case measure => have := HK.out; omega
          case rel => exact ⟨i + 1, rfl, by have := HK.out; omega, M2, rfl⟩
        | false =>
          have H2 := Lib.hid (HIT.out (by simp [fromB, h, klt_irrefl]))
          clear HIT MISS
          have q0 : (w.alloc (.cells #[.string z, .string zv] 81)).cell? ⟨w.heap.size, 0, none⟩ = some (.string z) := (Blk.new w 81 #[.string z, .string zv]).cell 0
          have q1 : (w.alloc (.cells #[.string z, .string zv] 81)).cell? ⟨w.heap.size, 1, none⟩ = some (.string zv) := (Blk.new w 81 #[.string z, .string zv]).cell 1
          go_wp2_with fail
          (try simp only [Exit.inBlock, Exit.then])
          refine bodyPost_ret (v := .tuple #[.agg #[.string z, .string zv], .bool true]) (by simp [results, Try.results78, go_sem, q0, q1]; try rfl) rfl ⟨?_, HB.out _⟩
          rw [H2.out]; rfl
      · have hlt : Op.bytesLess z.toList key.toList = false := klt_asymm h
        have hne : z ≠ key := klt_ne' h
        have he : (z.toList == key.toList) = false := by rw [beq_toList]; simpa using hne
        have hgt : klt z key = false := klt_asymm h
        have hgt2 : Op.bytesLess key.toList z.toList = true := h
        have H2 := Lib.hid (HIT.out (by simp [fromB, h, klt_irrefl]))
        clear HIT MISS
        have q0 : (w.alloc (.cells #[.string z, .string zv] 81)).cell? ⟨w.heap.size, 0, none⟩ = some (.string z) := (Blk.new w 81 #[.string z, .string zv]).cell 0
        have q1 : (w.alloc (.cells #[.string z, .string zv] 81)).cell? ⟨w.heap.size, 1, none⟩ = some (.string zv) := (Blk.new w 81 #[.string z, .string zv]).cell 1
        go_wp2_with fail
        (try simp only [Exit.inBlock, Exit.then])
        refine bodyPost_ret (v := .tuple #[.agg #[.string z, .string zv], .bool true]) (by simp [results, Try.results78, go_sem, q0, q1]; try rfl) rfl ⟨?_, HB.out _⟩
        rw [H2.out]; rfl
    · have hiz : ¬ ((i : Int) < (n : Int)) := by omega
      have F := Lib.hid (show fromL key bh l = none from by
        have h := I.out
        rw [List.take_of_length_le (by rw [HA.out.len]; omega)] at h
        exact List.find?_eq_none.2 fun q hq => by rw [h q hq]; decide)
      clear I
      have q0 : (w.alloc (.cells #[.string ⟨#[]⟩, .string ⟨#[]⟩] 81)).cell? ⟨w.heap.size, 0, none⟩ = some (.string ⟨#[]⟩) := (Blk.new w 81 #[.string ⟨#[]⟩, .string ⟨#[]⟩]).cell 0
      have q1 : (w.alloc (.cells #[.string ⟨#[]⟩, .string ⟨#[]⟩] 81)).cell? ⟨w.heap.size, 1, none⟩ = some (.string ⟨#[]⟩) := (Blk.new w 81 #[.string ⟨#[]⟩, .string ⟨#[]⟩]).cell 1
      go_wp2_with fail
      (try simp only [Exit.inBlock, Exit.then])
      refine bodyPost_ret (v := .tuple #[.agg #[.string ⟨#[]⟩, .string ⟨#[]⟩], .bool false]) (by simp [results, Try.results78, go_sem, q0, q1]; try rfl) rfl ⟨?_, HB.out _⟩
      rw [F.out]; rfl

set_option maxHeartbeats 4000000 in
set_option maxRecDepth 100000 in
theorem to79 (w : World) (A : Option Addr) (n c : Nat) (l : List KV) (key : ByteArray) (bh : Bool) (hA : PArg w A n l) (hn : n ≤ 60000) (hv : ∀ p ∈ l, StrV p.2) :
    Calls Try.prog 79 #[.slice A n c, .string key, .bool bh] w (PairPost w (toLst key bh l)) := by
  have HA := Lib.hid hA
  have HV := Lib.hid hv
  have HB := Lib.hid (fun (cs : Array Value) => (Below.refl _ w).alloc (Nat.le_refl _) (.cells cs 81))
  clear hA hv
  go_enter Try.func79, Try.ntmps79
  go_wp2_with fail
  go_loopg [8] n (fun kx s8 wr => ∃ (q : Int), s8 = .int .i64 q ∧ q + 1 = kx ∧ kx ≤ n ∧ Hid (∀ q ∈ l.drop kx, toB key bh q = false) ∧ w.alloc (.cells #[.string ⟨#[]⟩, .string ⟨#[]⟩] 81) = wr)
  case atStart => exact ⟨_, rfl, by omega, Nat.le_refl _, Lib.hid (fun p hp => by rw [List.drop_of_length_le (by rw [HA.out.len]; exact Nat.le_refl _)] at hp; cases hp), rfl⟩
  case round =>
    obtain ⟨q, rfl, hq, hkn, I, rfl⟩ := hrel
    cases gk with
    | succ i =>
      obtain rfl : q = (i : Int) := by omega
      have hiz : (i : Int) < (n : Int) := by omega
      have hi : i < n := by omega
      have hi0 : (0 : Int) ≤ (i : Int) := by omega
      obtain ⟨⟨z, zu⟩, hp⟩ : ∃ p, l[i]? = some p := ⟨_, List.getElem?_eq_getElem (by rw [HA.out.len]; exact hi)⟩
      obtain ⟨zv, hzv⟩ := HV.out _ (List.mem_of_getElem? hp)
      have hzv' : zu = .string zv := hzv
      subst hzv'
      obtain ⟨g, rfl, hg, d0, d1⟩ := HA.out.at_ i _ hp
      have d0 : w.cell? ⟨g, i * 2, none⟩ = some (.string z) := d0
      have d1 : w.cell? ⟨g, i * 2 + 1, none⟩ = some (.string zv) := d1
      have HIT := Lib.hid (show toB key bh (z, .string zv) = true → toLst key bh l = some (z, .string zv) from fun h => to_hit I.out hp h)
      have MISS := Lib.hid (show toB key bh (z, .string zv) = false → ∀ q ∈ l.drop i, toB key bh q = false from fun h q hq => by
        obtain ⟨hlt, he⟩ := List.getElem?_eq_some_iff.1 hp
        rw [List.drop_eq_getElem_cons hlt, he] at hq
        rcases List.mem_cons.1 hq with rfl | hq
        · exact h
        · exact I.out q hq)
      clear I hp hq
      rcases klt_tri z key with h | h | h
      · have hlt : Op.bytesLess z.toList key.toList = true := h
        have hne : z ≠ key := klt_ne h
        have he : (z.toList == key.toList) = false := by rw [beq_toList]; simpa using hne
        have hgt : klt key z = false := klt_asymm h
        have hgt2 : Op.bytesLess key.toList z.toList = false := hgt
        have H2 := Lib.hid (HIT.out (by simp [toB, h, klt_irrefl]))
        clear HIT MISS
        have q0 : (w.alloc (.cells #[.string z, .string zv] 81)).cell? ⟨w.heap.size, 0, none⟩ = some (.string z) := (Blk.new w 81 #[.string z, .string zv]).cell 0
        have q1 : (w.alloc (.cells #[.string z, .string zv] 81)).cell? ⟨w.heap.size, 1, none⟩ = some (.string zv) := (Blk.new w 81 #[.string z, .string zv]).cell 1
        go_wp2_with fail
        (try simp only [Exit.inBlock, Exit.then])
        refine bodyPost_ret (v := .tuple #[.agg #[.string z, .string zv], .bool true]) (by simp [results, Try.results79, go_sem, q0, q1]; try rfl) rfl ⟨?_, HB.out _⟩
        rw [H2.out]; rfl
      · subst h
        have h := klt_irrefl z
        have hlt : Op.bytesLess z.toList z.toList = false := h
        have he : (z.toList == z.toList) = true := by simp
        cases bh with
        | true =>
          have M2 := Lib.hid (MISS.out (by simp [toB, h, klt_irrefl, h]))
          clear HIT MISS
          go_wp2_with fail
          go_roundg i
          case measure => omega
          case rel => exact ⟨_, rfl, by omega, by omega, M2, rfl⟩
        | false =>
          have H2 := Lib.hid (HIT.out (by simp [toB, h, klt_irrefl]))
          clear HIT MISS
          have q0 : (w.alloc (.cells #[.string z, .string zv] 81)).cell? ⟨w.heap.size, 0, none⟩ = some (.string z) := (Blk.new w 81 #[.string z, .string zv]).cell 0
          have q1 : (w.alloc (.cells #[.string z, .string zv] 81)).cell? ⟨w.heap.size, 1, none⟩ = some (.string zv) := (Blk.new w 81 #[.string z, .string zv]).cell 1
          go_wp2_with fail
          (try simp only [Exit.inBlock, Exit.then])
          refine bodyPost_ret (v := .tuple #[.agg #[.string z, .string zv], .bool true]) (by simp [results, Try.results79, go_sem, q0, q1]; try rfl) rfl ⟨?_, HB.out _⟩
          rw [H2.out]; rfl
      · have hlt : Op.bytesLess z.toList key.toList = false := klt_asymm h
        have hne : z ≠ key := klt_ne' h
        have he : (z.toList == key.toList) = false := by rw [beq_toList]; simpa using hne
        have hgt : klt z key = false := klt_asymm h
        have hgt2 : Op.bytesLess key.toList z.toList = true := h
        have M2 := Lib.hid (MISS.out (by simp [toB, h, klt_irrefl, hne, hgt]))
        clear HIT MISS
        go_wp2_with fail
        go_roundg i
        case measure => omega
        case rel => exact ⟨_, rfl, by omega, by omega, M2, rfl⟩
    | zero =>
      obtain rfl : q = -1 := by omega
      have F := Lib.hid (show toLst key bh l = none from by
        have h := I.out
        rw [List.drop_zero] at h
        exact List.find?_eq_none.2 fun q hq => by rw [h q (by simpa using hq)]; decide)
      clear I
      have q0 : (w.alloc (.cells #[.string ⟨#[]⟩, .string ⟨#[]⟩] 81)).cell? ⟨w.heap.size, 0, none⟩ = some (.string ⟨#[]⟩) := (Blk.new w 81 #[.string ⟨#[]⟩, .string ⟨#[]⟩]).cell 0
      have q1 : (w.alloc (.cells #[.string ⟨#[]⟩, .string ⟨#[]⟩] 81)).cell? ⟨w.heap.size, 1, none⟩ = some (.string ⟨#[]⟩) := (Blk.new w 81 #[.string ⟨#[]⟩, .string ⟨#[]⟩]).cell 1
      go_wp2_with fail
      (try simp only [Exit.inBlock, Exit.then])
      refine bodyPost_ret (v := .tuple #[.agg #[.string ⟨#[]⟩, .string ⟨#[]⟩], .bool false]) (by simp [results, Try.results79, go_sem, q0, q1]; try rfl) rfl ⟨?_, HB.out _⟩
      rw [F.out]; rfl

set_option maxHeartbeats 4000000 in
theorem pair49 (w : World) (zk zv : ByteArray) (b : Bool) : Calls Try.prog 49 #[.string zk, .string zv, .bool b, .agg #[.string zk, .string zv], .bool b] w fun e w' => e = .returned (.bool true) ∧ Below w.heap.size w w' := by
  have HB := Lib.hid (fun (cs : Array Value) => (Below.refl _ w).alloc (Nat.le_refl _) (.cells cs 81))
  have he : (zk.toList == zk.toList) = true := by simp
  have he2 : (zv.toList == zv.toList) = true := by simp
  have he3 : (b == b) = true := by simp
  go_enter Try.func49, Try.ntmps49
  go_wp2_with fail
  go_ret
  exact ⟨rfl, HB.out _⟩

end Go.Proofs.Ytcidmaeclonilaa
