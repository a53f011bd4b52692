/- First, Last, Get, Keys of a tree. -/
import Derived.Test.YtcidmaeclonilaaFrom
import Derived.Test.YtcidmaeclonilaaTo
namespace Go.Proofs.Ytcidmaeclonilaa
open Go Go.RowKit

theorem tfromS {w : World} {a : Nat} {l : List KV} {L : List Nat} (H : IsTreeS w a l L) (key : ByteArray) (b : Bool) :
    Calls Try.prog 29 #[.pointer (some ⟨a, 0, none⟩), .string key, .bool b] w (NearPostS w (fromL key b l)) := by
  obtain ⟨h, t, hB, hT, hb, hs, rfl, ha, rfl, h0⟩ := H
  exact fromS w a h t key b (hB.cell 0) hT hb hs
theorem ttoS {w : World} {a : Nat} {l : List KV} {L : List Nat} (H : IsTreeS w a l L) (key : ByteArray) (b : Bool) :
    Calls Try.prog 31 #[.pointer (some ⟨a, 0, none⟩), .string key, .bool b] w (NearPostS w (toLst key b l)) := by
  obtain ⟨h, t, hB, hT, hb, hs, rfl, ha, rfl, h0⟩ := H
  exact toS w a h t key b (hB.cell 0) hT hb hs
theorem NearPostS.form {w w' : World} {o : Option KV} {e : Ending} (hv : ∀ p, o = some p → StrV p.2) (h : NearPostS w o e w') : ∃ (zk : ByteArray) (zv : ByteArray) (b : Bool), e = .returned (.tuple #[.string zk, Value.string zv, .bool b]) ∧ Hid (rk o = zk ∧ rvS o = Value.string zv ∧ o.isSome = b) ∧ Hid (Below w.heap.size w w') := by
  obtain ⟨rfl, hb⟩ := h
  cases o with
  | none => exact ⟨_, _, _, rfl, Lib.hid ⟨rfl, rfl, rfl⟩, Lib.hid hb⟩
  | some p =>
    obtain ⟨k, v⟩ := p
    obtain ⟨zu, rfl⟩ := hv _ rfl
    exact ⟨k, _, _, rfl, Lib.hid ⟨rfl, rfl, rfl⟩, Lib.hid hb⟩
theorem NearPostS.of {w w' : World} {o : Option KV} {zk : ByteArray} {v : Value} {b : Bool} (h : rk o = zk ∧ rvS o = v ∧ o.isSome = b) (hb : Below w.heap.size w w') : NearPostS w o (.returned (.tuple #[.string zk, v, .bool b])) w' := by
  obtain ⟨rfl, rfl, rfl⟩ := h; exact ⟨rfl, hb⟩
theorem isV_ofS {w : World} {h : Nat} {t : GT} : ∀ (_ : Tre TS w h t) (_ : BT h t), ∀ p ∈ toL h t, StrV p.2 := by
  induction h generalizing t with
  | zero =>
    intro H B p hp
    exact H.nod.v1 _ (List.of_mem_zip (show (p.1, p.2) ∈ t.ks.zip t.vs from hp)).2
  | succ h ih =>
    intro H B p hp
    rcases mem_weave hp with ⟨c, hc, hpc⟩ | hpp
    · obtain ⟨d, hd, rfl⟩ := List.mem_map.1 hc
      obtain ⟨i, hi⟩ := List.mem_iff_getElem?.1 hd
      exact ih (H.kid hi) (B.kid hd).1 p hpc
    · exact H.nod.v1 _ (List.of_mem_zip (show (p.1, p.2) ∈ t.ks.zip t.vs from hpp)).2

theorem IsTreeS.isV {w : World} {a : Nat} {l : List KV} {L : List Nat} (H : IsTreeS w a l L) : ∀ p ∈ l, StrV p.2 := by
  obtain ⟨h, t, hB, hT, hb, hs, rfl, ha, rfl, h0⟩ := H
  exact isV_ofS hT hb
theorem fromL_mem {k : ByteArray} {b : Bool} {l : List KV} {p : KV} (h : fromL k b l = some p) : p ∈ l := List.mem_of_find?_eq_some h
theorem toLst_mem {k : ByteArray} {b : Bool} {l : List KV} {p : KV} (h : toLst k b l = some p) : p ∈ l := by
  have := List.mem_of_find?_eq_some h; simpa using this

set_option maxHeartbeats 1000000 in
theorem tfirstS {w : World} {a : Nat} {l : List KV} {L : List Nat} (H : IsTreeS w a l L) :
    Calls Try.prog 28 #[.pointer (some ⟨a, 0, none⟩)] w (NearPostS w l.head?) := by
  have hc := (tfromS H ⟨#[]⟩ false).mono fun e w' h => h.form (fun p hp => H.isV p (fromL_mem hp))
  rw [fromL_first] at hc
  have HC := Lib.hid hc
  clear hc H
  go_enter Try.func28, Try.ntmps28
  go_wp2_with fail
  refine HC.out.mono ?_
  rintro e w1 ⟨zk, zv, b, rfl, h1, h2⟩
  go_wp2
  go_ret3
  exact .of h1.out h2.out

/-- what Get tells -/
def GetPostS (w : World) (l : List KV) (key : ByteArray) (e : Ending) (w' : World) : Prop :=
  e = .returned (.tuple #[(look key l).getD (Value.string ⟨#[]⟩), .bool (look key l).isSome]) ∧ Below w.heap.size w w'

set_option maxHeartbeats 1000000 in
theorem tgetS {w : World} {a : Nat} {l : List KV} {L : List Nat} (H : IsTreeS w a l L) (key : ByteArray) :
    Calls Try.prog 41 #[.pointer (some ⟨a, 0, none⟩), .string key] w (GetPostS w l key) := by
  have hc := (tfromS H key false).mono fun e w' h => h.form (fun p hp => H.isV p (fromL_mem hp))
  have hl := look_from H.srt key
  have HC := Lib.hid hc
  have HL := Lib.hid hl
  clear hc H hl
  generalize fromL key false l = o at *
  cases o with
  | none =>
    go_enter Try.func41, Try.ntmps41
    go_wp2_with fail
    refine HC.out.mono ?_
    clear HC
    rintro e w1 ⟨zk, zv, b, rfl, h1, h2⟩
    have h3 := h1.out
    obtain ⟨-, -, rfl⟩ := h1.out
    clear h3 h1
    go_wp2
    go_ret2
    refine ⟨?_, h2.out⟩
    rw [HL.out]; rfl
  | some p =>
    obtain ⟨k, v⟩ := p
    by_cases hk : k = key
    · subst hk
      go_enter Try.func41, Try.ntmps41
      go_wp2_with fail
      refine HC.out.mono ?_
      clear HC
      rintro e w1 ⟨zk, zv, b, rfl, h1, h2⟩
      obtain ⟨e1, e2, e3⟩ := h1.out
      have e1' : k = zk := e1
      have e3' : true = b := e3
      subst e1' e3'
      have E2 := Lib.hid e2
      clear h1 e1 e2 e3
      go_wp2
      go_ret2
      refine ⟨?_, h2.out⟩
      have e2 : v = Value.string zv := E2.out
      rw [HL.out, ← e2]; simp
    · have hne : (k.toList == key.toList) = false := by rw [beq_toList]; simpa using hk
      have HK := Lib.hid hk
      clear hk
      go_enter Try.func41, Try.ntmps41
      go_wp2_with fail
      refine HC.out.mono ?_
      clear HC
      rintro e w1 ⟨zk, zv, b, rfl, h1, h2⟩
      obtain ⟨e1, e2, e3⟩ := h1.out
      have e1' : k = zk := e1
      have e3' : true = b := e3
      subst e1' e3'
      clear h1 e1 e2 e3
      go_wp2
      go_ret2
      refine ⟨?_, h2.out⟩
      rw [HL.out]; simp [HK.out]

set_option maxHeartbeats 1000000 in
theorem tlastS {w : World} {a : Nat} {l : List KV} {L : List Nat} (H : IsTreeS w a l L) :
    Calls Try.prog 30 #[.pointer (some ⟨a, 0, none⟩)] w (NearPostS w l.getLast?) := by
  have hlen := Lib.hid (tlenS w a l L H)
  have hV := Lib.hid H.isV
  obtain ⟨n, hn⟩ : ∃ n, n = l.length := ⟨_, rfl⟩
  rw [← hn] at hlen
  have HN := Lib.hid hn
  by_cases h0 : n = 0
  · subst h0
    clear H
    clear hn
    go_enter Try.func30, Try.ntmps30
    go_wp2_with (go_at_call 40; refine hlen.out.mono ?_; rintro e w1 ⟨rfl, rfl⟩)
    go_ret3
    have : l = [] := List.length_eq_zero_iff.1 HN.out.symm
    rw [this]
    exact ⟨rfl, Below.refl _ _⟩
  · have hz : ((n : Int) == 0) = false := by rw [beq_eq_false_iff_ne]; omega
    obtain ⟨h, t, hB, hT, hb, hs, hl, ha, hL, h00⟩ := H
    have h1 : 0 < t.ks.length := by
      cases h with
      | zero =>
        have : (toL 0 t).length = t.ks.length := hb.ps_len
        rw [hl, ← hn] at this; omega
      | succ h => exact h00 (by omega)
    have hend := Lib.hid (endS w h t hT hb h1)
    rw [hl] at hend
    have a0 : w.cell? ⟨a, 0, none⟩ = some (.pointer (some ⟨t.b, 0, none⟩)) := hB.cell 0
    clear hB hT hb hs hl ha hL h00 h1 h0 hn
    go_enter Try.func30, Try.ntmps30
    go_wp2_with (go_at_call 40; refine hlen.out.mono ?_; rintro e w1 ⟨rfl, rfl⟩)
    refine hend.out.mono ?_
    rintro e w1 ⟨p, hp, rfl, hbw⟩
    obtain ⟨k, v⟩ := p
    obtain ⟨zu, rfl⟩ := hV.out _ (List.mem_of_getLast? hp)
    have HP := Lib.hid hp
    have HB := Lib.hid hbw
    clear hp hbw hend
    go_wp2
    go_ret3
    rw [HP.out]
    exact ⟨rfl, HB.out⟩

/-- what Keys tells: a new slice -/
def KeysPostS (w : World) (l : List KV) (e : Ending) (w' : World) : Prop :=
  ∃ A c, e = .returned (.slice A l.length c) ∧ Row w' 9 (.slice A l.length c) (l.map fun p => .string p.1) ∧ Below w.heap.size w w' ∧ ∀ k ∈ ob (.slice A l.length c), w.heap.size ≤ k

/-- on the way -/
structure KsIS (w wr : World) (l : List KV) (n : Nat) (A : Option Addr) (c : Nat) : Prop where
  le : n ≤ l.length
  row : Row wr 9 (.slice A n c) ((l.take n).map fun p => .string p.1)
  own : ∀ k ∈ ob (.slice A n c), w.heap.size ≤ k
  below : Below w.heap.size w wr
theorem KsIS.step {w wr : World} {l : List KV} {n : Nat} {A : Option Addr} {c : Nat} (H : KsIS w wr l n A c) (hl : l.length ≤ 60000) {p : KV} (hp : l[n]? = some p) :
    ∃ A' c' w1, (Builtin.append_ #[37, 37] 37 #[.slice A n c, .slice (some ⟨wr.heap.size, 0, none⟩) 1 1]).run Try.prog (wr.alloc (.cells #[.string p.1] 9)) = .ok (.slice A' (n + 1) c') w1 ∧ ∀ w2, Below w1.heap.size w1 w2 → KsIS w w2 l (n + 1) A' c' := by
  have hlt := (List.getElem?_eq_some_iff.1 hp).1
  obtain ⟨v', w1, hr, hrow, hchg, hown⟩ := run_append_row (P := Try.prog) slTyS 37 (H.row.alloc (.cells #[.string p.1] 9)) ⟨wr.heap.size, 0, none⟩ 1 1 [.string p.1] rfl (fun j u hj => by
    cases j with
    | zero =>
      obtain rfl : u = .string p.1 := by simpa using hj.symm
      rw [add_lit0]; exact (Blk.new wr 9 #[.string p.1]).cell 0
    | succ j => simp at hj) (fun u hu => by obtain rfl : u = .string p.1 := by simpa using hu
                                            rfl) (by omega) (by simp; omega)
  have e1 : (l.take n).map (fun p => Value.string p.1) ++ [.string p.1] = (l.take (n + 1)).map fun p => .string p.1 := by
    rw [List.take_add_one, hp]; simp
  rw [e1] at hrow
  obtain ⟨A', c', rfl, _⟩ := hrow.formN (n := n + 1) (by simp; omega)
  have hsz := H.below.size
  refine ⟨A', c', w1, hr, fun w2 hb2 => ⟨hlt, hrow.kept fun k hk => hb2.block k (hrow.lt k hk), fun k hk => ?_, ?_⟩⟩
  · rcases hown with h | ⟨k', h, h2⟩
    · exact H.own k (h ▸ hk)
    · rw [h] at hk
      obtain rfl : k = k' := by simpa using hk
      rw [World.size_alloc] at h2; omega
  · have h1 : Below w.heap.size (wr.alloc (.cells #[.string p.1] 9)) w1 := hchg.below H.own (by rw [World.size_alloc]; omega)
    have h2 : Below w.heap.size w w1 := (H.below.alloc hsz _).trans h1
    exact h2.trans (hb2.mono h2.size)

set_option maxHeartbeats 1000000 in
theorem tkeysS {w : World} {a : Nat} {l : List KV} {L : List Nat} (H : IsTreeS w a l L) (hl : l.length ≤ 60000) :
    Calls Try.prog 27 #[.pointer (some ⟨a, 0, none⟩)] w (KeysPostS w l) := by
  have hfirst := Lib.hid ((tfirstS H).mono fun e w' h => h.form (fun p hp => H.isV p (List.mem_of_mem_head? hp)))
  have hnext := Lib.hid (show ∀ (w1 : World), Below w.heap.size w w1 → ∀ (n : Nat) (p : KV), l[n]? = some p → Calls Try.prog 29 #[.pointer (some ⟨a, 0, none⟩), .string p.1, .bool true] w1 fun e w' =>
      ∃ (zk : ByteArray) (zv : ByteArray) (b : Bool), e = .returned (.tuple #[.string zk, Value.string zv, .bool b]) ∧ Hid (rk l[n + 1]? = zk ∧ rvS l[n + 1]? = Value.string zv ∧ l[n + 1]?.isSome = b) ∧ Hid (Below w1.heap.size w1 w') from fun w1 hb n p hp => by
    have := (tfromS (H.below hb) p.1 true).mono fun e w' h => h.form (fun p hp => H.isV p (fromL_mem hp))
    rw [from_next H.srt hp] at this
    exact this)
  have HL := Lib.hid hl
  clear H hl
  go_enter Try.func27, Try.ntmps27
  go_wp2_with fail
  refine hfirst.out.mono ?_
  clear hfirst
  rintro e w1 ⟨zk0, zv0, b0, rfl, h1, h2⟩
  have start0 := Lib.hid (show KsIS w w1 l 0 none 0 from ⟨Nat.zero_le _, by simpa using Row.nil w1 9, fun k hk => by simp at hk, h2.out⟩)
  have start1 := Lib.hid (show rk l[0]? = zk0 ∧ l[0]?.isSome = b0 from ⟨by rw [← List.head?_eq_getElem?]; exact h1.out.1, by rw [← List.head?_eq_getElem?]; exact h1.out.2.2⟩)
  clear h1 h2
  go_wp2
  go_loopg [3, 4, 6] l.length (fun kx s3 s4 s6 wr => ∃ (n c : Nat) (A : Option Addr) (zk : ByteArray) (b : Bool), s3 = .slice A n c ∧ s4 = .string zk ∧ s6 = .bool b ∧ kx + n = l.length ∧ Hid (KsIS w wr l n A c ∧ rk l[n]? = zk ∧ l[n]?.isSome = b))
  case atStart => exact ⟨0, 0, none, zk0, b0, rfl, rfl, rfl, rfl, Lib.hid ⟨start0.out, start1.out⟩⟩
  case round =>
    obtain ⟨n, c, A, zk, b, rfl, rfl, rfl, hk, hh⟩ := hrel
    clear start0 start1
    cases b with
    | false =>
      have hfin := Lib.hid (show KeysPostS w l (.returned (.slice A n c)) wr from by
        obtain ⟨I, -, hb⟩ := hh.out
        have hlen : n = l.length := by
          have := I.le
          by_cases hlt : n < l.length
          · rw [List.getElem?_eq_getElem hlt] at hb; cases hb
          · omega
        subst hlen
        refine ⟨A, c, rfl, ?_, I.below, I.own⟩
        have := I.row
        rwa [List.take_length] at this)
      clear hh
      go_wp2
      go_ret
      exact hfin.out
    | true =>
      obtain ⟨I, hzk, hb⟩ := hh.out
      obtain ⟨p, hp⟩ := Option.isSome_iff_exists.1 hb
      obtain rfl : p.1 = zk := by rw [← hzk, hp]; rfl
      obtain ⟨A', c', w2, hr, hnx⟩ := I.step HL.out hp
      have hcall := Lib.hid (hnext.out w2 (hnx w2 (Below.refl _ _)).below n p hp)
      have HNX := Lib.hid hnx
      have hlt := (List.getElem?_eq_some_iff.1 hp).1
      clear hnx hzk hb hh I hnext
      generalize p.1 = zk at *
      clear hp p
      go_wp2_with (at_builtin; refine wpList_append_runI _ rfl _ _ 37 37 rfl _ _ rfl rfl hr ?_)
      refine hcall.out.mono ?_
      clear hcall hr
      rintro e w3 ⟨zk3, zv3, b3, rfl, h1, h2⟩
      have h3 := Lib.hid (And.intro (HNX.out w3 h2.out) (And.intro h1.out.1 h1.out.2.2))
      clear h1 h2 HNX
      go_wp2
      go_roundg (gk - 1)
      case measure => omega
      case rel => exact ⟨n + 1, c', A', zk3, b3, rfl, rfl, rfl, by omega, h3⟩

end Go.Proofs.Ytcidmaeclonilaa
