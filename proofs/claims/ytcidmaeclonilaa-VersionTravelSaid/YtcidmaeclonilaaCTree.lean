/- A tree: New, Len, Put. -/
import Derived.Test.YtcidmaeclonilaaCPut
import Derived.WalkSpells
import Derived.LaidEqlPtr
namespace Go.Proofs.Ytcidmaeclonilaa
open Go Go.RowKit

/-- a tree lies at a, holds the pairs l, in the blocks L -/
def IsTreeC (w : World) (a : Nat) (l : List KV) (L : List Nat) : Prop :=
  ∃ h t, Blk w a 146 #[.pointer (some ⟨t.b, 0, none⟩), .int .i64 l.length] ∧ Tre TC w h t ∧ BT h t ∧ Srt l ∧ toL h t = l ∧ a ∉ fp h t ∧ L = a :: fp h t ∧ (0 < h → 0 < t.ks.length)

theorem IsTreeC.lt {w : World} {a : Nat} {l : List KV} {L : List Nat} (H : IsTreeC w a l L) : ∀ k ∈ L, k < w.heap.size := by
  obtain ⟨h, t, hB, hT, _, _, _, _, rfl, _⟩ := H
  intro k hk
  rcases List.mem_cons.1 hk with rfl | hk
  · exact hB.lt
  · exact hT.rep.lt k hk
theorem IsTreeC.kept {w w' : World} {a : Nat} {l : List KV} {L : List Nat} (H : IsTreeC w a l L) (hk : ∀ k ∈ L, w'.heap[k]? = w.heap[k]?) : IsTreeC w' a l L := by
  obtain ⟨h, t, hB, hT, hb, hs, hl, ha, rfl, h0⟩ := H
  exact ⟨h, t, (hk a (by simp)).trans hB, ⟨hT.rep.kept fun k hm => hk k (by simp [hm]), hT.sep⟩, hb, hs, hl, ha, rfl, h0⟩
theorem IsTreeC.chg {w w' : World} {a : Nat} {l : List KV} {L M : List Nat} (H : IsTreeC w a l L) (hg : Chg M w w') (hd : ∀ k ∈ L, k ∉ M) : IsTreeC w' a l L :=
  H.kept fun k hk => hg.block k (H.lt k hk) (hd k hk)
theorem IsTreeC.below {w w' : World} {a : Nat} {l : List KV} {L : List Nat} (H : IsTreeC w a l L) (hb : Below w.heap.size w w') : IsTreeC w' a l L :=
  H.kept fun k hk => hb.block k (H.lt k hk)
theorem IsTreeC.srt {w : World} {a : Nat} {l : List KV} {L : List Nat} (H : IsTreeC w a l L) : Srt l := by
  obtain ⟨h, t, hB, hT, hb, hs, _⟩ := H; exact hs

/-- what New leaves -/
def NewPostC (w : World) (e : Ending) (w' : World) : Prop :=
  ∃ a, e = .returned (.pointer (some ⟨a, 0, none⟩)) ∧ w.heap.size ≤ a ∧ IsTreeC w' a [] [a, w.heap.size] ∧ Below w.heap.size w w'

set_option maxHeartbeats 1000000 in
theorem newC (w : World) : Calls Try.prog 66 #[] w (NewPostC w) := by
  have fin : NewPostC w (.returned (.pointer (some ⟨w.heap.size + 1, 0, none⟩))) ((w.alloc (.cells #[.slice none 0 0, .slice none 0 0, .slice none 0 0] 144)).alloc (.cells #[.pointer (some ⟨w.heap.size, 0, none⟩), .int .i64 0] 146)) := by
    have b1 := Blk.new w 144 #[.slice none 0 0, .slice none 0 0, .slice none 0 0]
    have b2 := Blk.new (w.alloc (.cells #[.slice none 0 0, .slice none 0 0, .slice none 0 0] 144)) 146 #[.pointer (some ⟨w.heap.size, 0, none⟩), .int .i64 0]
    rw [World.size_alloc] at b2
    refine ⟨w.heap.size + 1, rfl, by omega, ⟨0, .node w.heap.size (.slice none 0 0) (.slice none 0 0) (.slice none 0 0) [] [] [], b2, ⟨⟨b1.alloc _, Row.nil _ _, Row.nil _ _, Row.nil _ _, fun u hu => by cases hu⟩, fun k => ?_⟩, ⟨rfl, rfl, by simp⟩, List.Pairwise.nil, rfl, ?_, ?_, fun h => absurd h (by omega)⟩, ((Below.refl _ w).alloc (Nat.le_refl _) _).alloc (by simp) _⟩
    · show (own _).count k ≤ 1
      simp only [own, GT.b_node, GT.kv_node, GT.vv_node, GT.cv_node, ob_none, List.append_nil, List.count_cons, List.count_nil]
      split <;> omega
    · show w.heap.size + 1 ∉ own _
      simp [own]
    · show _ = _ :: own _
      simp [own]
  have F := Lib.hid fin
  clear fin
  go_enter Try.func66, Try.ntmps66
  go_wp2
  go_ret
  exact F.out

theorem ins_lenC {k : ByteArray} {v : Value} {l : List KV} (hs : Srt l) : (ins k v l).length = l.length + if (look k l).isSome = true then 0 else 1 := by
  induction l with
  | nil => simp [ins, look]
  | cons p l ih =>
    have hs' := (List.pairwise_cons.1 hs).2
    have hp := (List.pairwise_cons.1 hs).1
    have e : ∀ q : KV → Bool, ((p :: l).filter q).length = (if q p = true then 1 else 0) + (l.filter q).length := fun q => by
      rw [List.filter_cons]; split <;> simp_all <;> omega
    have ih' := ih hs'
    simp only [ins, List.length_append, List.length_cons] at ih' ⊢
    rw [e, e]
    have hl : look k (p :: l) = if p.1 = k then some p.2 else look k l := by
      simp only [look, List.find?_cons]
      by_cases h : p.1 = k <;> simp [h]
    rw [hl]
    rcases klt_tri p.1 k with h | h | h
    · rw [if_pos h, if_neg (by simp [klt_asymm h]), if_neg (klt_ne h)]
      omega
    · subst h
      have hn : look p.1 l = none := look_gt (fun q hq => hp q hq)
      rw [hn] at ih'
      rw [if_neg (by simp [klt_irrefl]), if_pos rfl]
      simp at ih' ⊢
      omega
    · have hn : look k l = none := look_gt (fun q hq => klt_trans h (hp q hq))
      rw [hn] at ih'
      rw [if_neg (by simp [klt_asymm h]), if_pos h, if_neg (klt_ne' h), hn]
      simp at ih' ⊢
      omega

/-- what Put leaves -/
def TPutPostC (w : World) (a : Nat) (l : List KV) (L : List Nat) (k : ByteArray) (v : Value) (e : Ending) (w' : World) : Prop :=
  ∃ L', IsTreeC w' a (ins k v l) L' ∧ Chg L w w' ∧ Sub w L' L ∧ e = .returned (.tuple #[(look k l).getD (Value.slice none 0 0), .bool (look k l).isSome])

theorem tput_finC (w : World) (a : Nat) (l : List KV) (h : Nat) (t : GT) (key : ByteArray) (v : Value) (hB : Blk w a 146 #[.pointer (some ⟨t.b, 0, none⟩), .int .i64 l.length]) (hs : Srt l) (hl : toL h t = l) (ha : a ∉ fp h t) (h0 : 0 < h → 0 < t.ks.length) :
    ∀ e w1, PutPostC w h t key v e w1 → Blk w1 a 146 #[.pointer (some ⟨t.b, 0, none⟩), .int .i64 l.length] ∧
      (∀ w2, Chg [a] w1 w2 → Blk w2 a 146 #[.pointer (some ⟨t.b, 0, none⟩), .int .i64 (ins key v l).length] → TPutPostC w a l (a :: fp h t) key v e w2) := by
  rintro e w1 ⟨t', b1, b2, b3, b4, b5, b6, b7, b8⟩
  refine ⟨hB.chg b6 ha, fun w2 hg hB2 => ?_⟩
  have ha' : a ∉ fp h t' := fun hm => (b7 a hm).elim ha (fun hh => by have := hB.lt; omega)
  refine ⟨a :: fp h t', ⟨h, t', by rw [b1]; exact hB2, ⟨b2.rep.chg hg fun k hk hm => ?_, b2.sep⟩, b3, hs.ins, by rw [b5, hl], ha', rfl, fun hh => by have := h0 hh; omega⟩, ?_, ?_, by rw [← hl]; exact b8⟩
  · obtain rfl : k = a := by simpa using hm
    exact ha' hk
  · exact (b6.mono (fun x hx => .inl (List.mem_cons_of_mem _ hx))).trans hg fun x hx => .inl (by simp at hx; simp [hx])
  · intro k hk
    rcases List.mem_cons.1 hk with rfl | hk
    · exact .inl (by simp)
    · exact (b7 k hk).imp (fun x => List.mem_cons_of_mem _ x) id

set_option maxHeartbeats 4000000 in
theorem tput_roomC (w : World) (a : Nat) (l : List KV) (h : Nat) (t : GT) (key : ByteArray) (a3 : Option Addr) (n3 c3 : Nat) (hB : Blk w a 146 #[.pointer (some ⟨t.b, 0, none⟩), .int .i64 l.length]) (H : Tre TC w h t) (B : BT h t) (hs : Srt l) (hl : toL h t = l) (ha : a ∉ fp h t) (h6 : t.ks.length ≤ 6) (h0 : 0 < h → 0 < t.ks.length) (hlen : l.length ≤ 1000000) :
    Calls Try.prog 69 #[.pointer (some ⟨a, 0, none⟩), .string key, Value.slice a3 n3 c3] w (TPutPostC w a l (a :: fp h t) key (Value.slice a3 n3 c3)) := by
  have hput := Lib.hid (put_anyC h t w key a3 n3 c3 H B h6 (by rw [hl]; exact hs))
  have fin := tput_finC w a l h t key (Value.slice a3 n3 c3) hB hs hl ha h0
  have F := Lib.hid fin
  have hil := ins_lenC (k := key) (v := Value.slice a3 n3 c3) hs
  have a0 : w.cell? ⟨a, 0, none⟩ = some (.pointer (some ⟨t.b, 0, none⟩)) := hB.cell 0
  obtain ⟨KA, kc, hkv, -, -, -, -⟩ := H.nod.kr.formN (n := t.ks.length) (by simp)
  have a1 : w.cell? ⟨t.b, 0, none⟩ = some (.slice KA t.ks.length kc) := (H.nod.blk.cell 0).trans (congrArg some hkv)
  have hn7 : ((t.ks.length : Int) == 7) = false := by rw [beq_eq_false_iff_ne]; omega
  obtain ⟨N, hN⟩ : ∃ N, N = l.length := ⟨_, rfl⟩
  have HN := Lib.hid hN
  have hNb : (N : Int) + 1 ≤ 9223372036854775807 := by omega
  have HIL := Lib.hid hil
  have HLK := Lib.hid hl
  clear fin H B hs hl ha h0 hB hkv h6 hlen hil hN
  generalize t.ks.length = n at *
  cases hlk : look key l with
  | some u =>
    have HL := Lib.hid hlk
    clear hlk
    go_enter Try.func69, Try.ntmps69
    go_wp2_with fail
    refine hput.out.mono ?_
    clear hput a0 a1
    intro e w1 hq
    have h1 := F.out e w1 hq
    have h2 := Lib.hid (h1.2 w1 (Chg.refl _ _) (by
      have := h1.1
      rw [HIL.out, HL.out]; exact this))
    obtain ⟨_, _, _, _, _, _, _, _, rfl⟩ := hq
    rw [HLK.out, HL.out] at h2
    rw [HLK.out, HL.out]
    clear h1 F
    simp only [Option.getD_some, Option.isSome_some] at h2 ⊢
    go_wp2
    go_ret2
    exact h2.out
  | none =>
    have HL := Lib.hid hlk
    clear hlk
    go_enter Try.func69, Try.ntmps69
    go_wp2_with fail
    refine hput.out.mono ?_
    clear hput a0 a1
    intro e w1 hq
    have h1 := F.out e w1 hq
    have hb := h1.1
    have c1 : w1.cell? ⟨a, 1, none⟩ = some (.int .i64 N) := (hb.cell 1).trans (by rw [HN.out]; rfl)
    have f1 : w1.frozen? ⟨a, 1, none⟩ = false := hb.frozen 1
    have h2 := Lib.hid (h1.2 (w1.setCell ⟨a, 1, none⟩ (.int .i64 ((N : Int) + 1))) ((Chg.refl _ _).setCell (.inl (by simp)) _) (by
      have := hb.set_ 1 (.int .i64 ((N : Int) + 1))
      rw [HIL.out, HL.out]
      have e : (((l.length + if (none : Option Value).isSome = true then 0 else 1) : Nat) : Int) = (N : Int) + 1 := by rw [HN.out]; simp
      rw [e]; exact this))
    obtain ⟨_, _, _, _, _, _, _, _, rfl⟩ := hq
    rw [HLK.out, HL.out] at h2
    rw [HLK.out, HL.out]
    clear h1 F hb
    simp only [Option.getD_none, Option.isSome_none] at h2 ⊢
    go_wp2
    go_ret2
    exact h2.out

/-- a new root over a tree -/
theorem newRootC (w : World) (a : Nat) (N : Int) (h : Nat) (t : GT) (hB : Blk w a 146 #[.pointer (some ⟨t.b, 0, none⟩), .int .i64 N]) (H : Tre TC w h t) (B : BT h t) (ha : a ∉ fp h t) (h7 : t.ks.length = 7) :
    let W := (((w.setCell ⟨a, 0, none⟩ (.pointer (some ⟨w.heap.size + 1, 0, none⟩))).alloc (.cells #[.pointer (some ⟨t.b, 0, none⟩)] 140)).alloc (.cells #[.slice none 0 0, .slice none 0 0, .slice (some ⟨w.heap.size, 0, none⟩) 1 1] 144))
    let T1 := GT.node (w.heap.size + 1) (.slice none 0 0) (.slice none 0 0) (.slice (some ⟨w.heap.size, 0, none⟩) 1 1) [] [] [t]
    Blk W a 146 #[.pointer (some ⟨w.heap.size + 1, 0, none⟩), .int .i64 N] ∧ Tre TC W (h + 1) T1 ∧ BT (h + 1) T1 ∧ toL (h + 1) T1 = toL h t ∧ a ∉ fp (h + 1) T1 ∧ Chg (a :: fp h t) w W ∧ Sub w (fp (h + 1) T1) (fp h t) := by
  intro W T1
  have hlt := H.rep.lt
  have halt := hB.lt
  have h0s : (w.setCell ⟨a, 0, none⟩ (.pointer (some ⟨w.heap.size + 1, 0, none⟩))).heap.size = w.heap.size := World.size_setCell _ _ _
  have hW0 : Chg [a] w (w.setCell ⟨a, 0, none⟩ (.pointer (some ⟨w.heap.size + 1, 0, none⟩))) := (Chg.refl [a] w).setCell (.inl (by simp)) _
  have hW : Chg [a] w W := (hW0.alloc _).alloc _
  have b1 : Blk W w.heap.size 140 #[.pointer (some ⟨t.b, 0, none⟩)] := by
    have := (Blk.new (w.setCell ⟨a, 0, none⟩ (.pointer (some ⟨w.heap.size + 1, 0, none⟩))) 140 #[.pointer (some ⟨t.b, 0, none⟩)])
    rw [h0s] at this
    exact this.alloc _
  have b2 : Blk W (w.heap.size + 1) 144 #[.slice none 0 0, .slice none 0 0, .slice (some ⟨w.heap.size, 0, none⟩) 1 1] := by
    have := Blk.new ((w.setCell ⟨a, 0, none⟩ (.pointer (some ⟨w.heap.size + 1, 0, none⟩))).alloc (.cells #[.pointer (some ⟨t.b, 0, none⟩)] 140)) 144 #[.slice none 0 0, .slice none 0 0, .slice (some ⟨w.heap.size, 0, none⟩) 1 1]
    rw [World.size_alloc, h0s] at this
    exact this
  have hfp : fp (h + 1) T1 = [w.heap.size + 1, w.heap.size] ++ fp h t := by
    show own T1 ++ ([t].map (fp h)).flatten = _
    simp [own, T1]
  refine ⟨((hB.set_ 0 _).alloc _).alloc _, ⟨⟨⟨b2, Row.nil _ _, Row.nil _ _, ⟨_, 1, rfl, by simp [T1], by simp [maxLen], .inr ⟨w.heap.size, _, rfl, b1, by simp, fun j u hj => ?_⟩⟩, fun u hu => by cases hu⟩, fun d hd => ?_⟩, fun k => ?_⟩, ⟨rfl, rfl, by simp [T1], fun d hd => ?_⟩, ?_, ?_, hW.mono (fun x hx => .inl (by simp at hx; simp [hx])), fun k hk => ?_⟩
  · have e : (T1.cs.map ptr) = [.pointer (some ⟨t.b, 0, none⟩)] := rfl
    rw [e] at hj
    simpa using hj
  · obtain rfl : d = t := by simpa [T1] using hd
    exact H.rep.chg hW fun k hk hm => by
      obtain rfl : k = a := by simpa using hm
      exact ha hk
  · rw [hfp, List.count_append]
    have h0 := H.sep k
    by_cases hk : k ∈ fp h t
    · have := hlt k hk
      rw [List.count_eq_zero.2 (show k ∉ [w.heap.size + 1, w.heap.size] by simp; omega)]
      omega
    · rw [List.count_eq_zero.2 hk]
      simp only [List.count_cons, List.count_nil, beq_iff_eq]
      split <;> split <;> omega
  · obtain rfl : d = t := by simpa [T1] using hd
    exact ⟨B, by omega⟩
  · show weave ([t].map (toL h)) T1.ps = _
    simp [weave, wr, GT.ps]
  · rw [hfp]
    intro hm
    rcases List.mem_append.1 hm with hm | hm
    · simp at hm; omega
    · exact ha hm
  · rw [hfp] at hk
    rcases List.mem_append.1 hk with hk | hk
    · simp at hk; exact .inr (by omega)
    · exact .inl hk

set_option maxHeartbeats 4000000 in
theorem tput_fullC (w : World) (a : Nat) (l : List KV) (h : Nat) (t : GT) (key : ByteArray) (a3 : Option Addr) (n3 c3 : Nat) (hB : Blk w a 146 #[.pointer (some ⟨t.b, 0, none⟩), .int .i64 l.length]) (H : Tre TC w h t) (B : BT h t) (hs : Srt l) (hl : toL h t = l) (ha : a ∉ fp h t) (h7 : t.ks.length = 7) (hlen : l.length ≤ 1000000) :
    Calls Try.prog 69 #[.pointer (some ⟨a, 0, none⟩), .string key, Value.slice a3 n3 c3] w (TPutPostC w a l (a :: fp h t) key (Value.slice a3 n3 c3)) := by
  obtain ⟨r1, r2, r3, r4, r5, r6, r7⟩ := newRootC w a l.length h t hB H B ha h7
  have hcall : Calls Try.prog 90 #[.pointer (some ⟨w.heap.size + 1, 0, none⟩), .int .i64 0] (((w.setCell ⟨a, 0, none⟩ (.pointer (some ⟨w.heap.size + 1, 0, none⟩))).alloc (.cells #[.pointer (some ⟨t.b, 0, none⟩)] 140)).alloc (.cells #[.slice none 0 0, .slice none 0 0, .slice (some ⟨w.heap.size, 0, none⟩) 1 1] 144)) (SplitTPostC (((w.setCell ⟨a, 0, none⟩ (.pointer (some ⟨w.heap.size + 1, 0, none⟩))).alloc (.cells #[.pointer (some ⟨t.b, 0, none⟩)] 140)).alloc (.cells #[.slice none 0 0, .slice none 0 0, .slice (some ⟨w.heap.size, 0, none⟩) 1 1] 144)) h (.node (w.heap.size + 1) (.slice none 0 0) (.slice none 0 0) (.slice (some ⟨w.heap.size, 0, none⟩) 1 1) [] [] [t]) t 0) := splitTrC _ h _ t 0 r2 r3 (by simp) rfl h7
  have hsplit := Lib.hid hcall
  clear hcall
  have a0 : w.cell? ⟨a, 0, none⟩ = some (.pointer (some ⟨t.b, 0, none⟩)) := hB.cell 0
  have af : w.frozen? ⟨a, 0, none⟩ = false := hB.frozen 0
  have alt := hB.lt
  obtain ⟨KA, kc, hkv, -, -, -, -⟩ := H.nod.kr.formN (n := 7) (by simpa using h7)
  have a1 : w.cell? ⟨t.b, 0, none⟩ = some (.slice KA 7 kc) := (H.nod.blk.cell 0).trans (congrArg some hkv)
  have next : ∀ e w2, SplitTPostC (((w.setCell ⟨a, 0, none⟩ (.pointer (some ⟨w.heap.size + 1, 0, none⟩))).alloc (.cells #[.pointer (some ⟨t.b, 0, none⟩)] 140)).alloc (.cells #[.slice none 0 0, .slice none 0 0, .slice (some ⟨w.heap.size, 0, none⟩) 1 1] 144)) h (.node (w.heap.size + 1) (.slice none 0 0) (.slice none 0 0) (.slice (some ⟨w.heap.size, 0, none⟩) 1 1) [] [] [t]) t 0 e w2 →
      w2.cell? ⟨a, 0, none⟩ = some (.pointer (some ⟨w.heap.size + 1, 0, none⟩)) ∧ Calls Try.prog 91 #[.pointer (some ⟨w.heap.size + 1, 0, none⟩), .string key, Value.slice a3 n3 c3] w2 fun e w3 =>
        (∃ was, was = (look key l).isSome ∧ e = .returned (.tuple #[(look key l).getD (Value.slice none 0 0), .bool was])) ∧ Blk w3 a 146 #[.pointer (some ⟨w.heap.size + 1, 0, none⟩), .int .i64 l.length] ∧ (∀ w4, Chg [a] w3 w4 → Blk w4 a 146 #[.pointer (some ⟨w.heap.size + 1, 0, none⟩), .int .i64 (ins key (Value.slice a3 n3 c3) l).length] → TPutPostC w a l (a :: fp h t) key (Value.slice a3 n3 c3) e w4) := by
    rintro e w2 ⟨_, n', c', r, k3, v3, hk3, hv3, e1, H2, hg, hsub⟩
    obtain ⟨B2, hL⟩ := split_shape (i := 0) (n' := n') (c' := c') (r := r) r3 (by simp) (show ([t] : List GT)[0]? = some t from rfl) h7 hk3 hv3
    have hL2 := hL.trans (r4.trans hl)
    have ha2 : a ∉ fp (h + 1) (splitT (.node (w.heap.size + 1) (.slice none 0 0) (.slice none 0 0) (.slice (some ⟨w.heap.size, 0, none⟩) 1 1) [] [] [t]) t 0 k3 v3 n' c' r) := fun hm => (hsub a hm).elim r5 (fun hh => by have := r1.lt; omega)
    have hB2 := r1.chg hg r5
    refine ⟨hB2.cell 0, ?_⟩
    have hf := tput_finC w2 a l (h + 1) (splitT (.node (w.heap.size + 1) (.slice none 0 0) (.slice none 0 0) (.slice (some ⟨w.heap.size, 0, none⟩) 1 1) [] [] [t]) t 0 k3 v3 n' c' r) key (Value.slice a3 n3 c3) hB2 hs hL2 ha2 (fun _ => by simp [splitT])
    refine (put_anyC (h + 1) _ w2 key a3 n3 c3 H2 B2 (by simp [splitT]) (by rw [hL2]; exact hs)).mono fun e w3 hq => ?_
    have h3 := hf e w3 hq
    obtain ⟨t', _, _, _, _, _, _, _, he⟩ := hq
    rw [hL2] at he
    refine ⟨⟨_, rfl, he⟩, h3.1, fun w4 hg4 hB4 => ?_⟩
    obtain ⟨L', q1, q2, q3, q4⟩ := h3.2 w4 hg4 hB4
    have hsz := r6.size
    have hLs : ∀ k ∈ a :: fp (h + 1) (splitT (.node (w.heap.size + 1) (.slice none 0 0) (.slice none 0 0) (.slice (some ⟨w.heap.size, 0, none⟩) 1 1) [] [] [t]) t 0 k3 v3 n' c' r), k ∈ a :: fp h t ∨ w.heap.size ≤ k := fun k hk => by
      rcases List.mem_cons.1 hk with rfl | hk
      · exact .inl (by simp)
      · rcases hsub k hk with hk | hk
        · exact (r7 k hk).imp (fun x => List.mem_cons_of_mem _ x) id
        · exact .inr (Nat.le_trans hsz hk)
    have hg2 : Chg (a :: fp h t) w w2 := r6.trans hg fun k hk => (r7 k hk).imp (fun x => List.mem_cons_of_mem _ x) id
    exact ⟨L', q1, hg2.trans q2 hLs, fun k hk => (q3 k hk).elim (hLs k) (fun x => .inr (Nat.le_trans hg2.size x)), q4⟩
  have NX := Lib.hid next
  have hil := ins_lenC (k := key) (v := Value.slice a3 n3 c3) hs
  obtain ⟨N, hN⟩ : ∃ N, N = l.length := ⟨_, rfl⟩
  have HN := Lib.hid hN
  have hNb : (N : Int) + 1 ≤ 9223372036854775807 := by omega
  have HIL := Lib.hid hil
  clear next r1 r2 r3 r4 r5 r6 r7 H B hs hl ha hB hkv h7 hlen hil hN
  cases hlk : look key l with
  | some u =>
    have HL := Lib.hid hlk
    clear hlk
    go_enter Try.func69, Try.ntmps69
    go_wp2_with fail
    refine hsplit.out.mono ?_
    clear hsplit a0 a1 af
    intro e w2 hq
    obtain ⟨d0, hput⟩ := NX.out e w2 hq
    have HP := Lib.hid hput
    obtain ⟨rfl, _⟩ := hq
    clear hput NX
    go_wp2_with fail
    refine HP.out.mono ?_
    clear HP d0
    rintro e w3 ⟨⟨was, hw, rfl⟩, hb, h4⟩
    rw [HL.out] at hw h4 ⊢
    obtain rfl : was = true := hw
    have h2 := Lib.hid (h4 w3 (Chg.refl _ _) (by rw [HIL.out, HL.out]; exact hb))
    clear h4 hb
    simp only [Option.getD_some] at h2 ⊢
    go_wp2
    go_ret2
    exact h2.out
  | none =>
    have HL := Lib.hid hlk
    clear hlk
    go_enter Try.func69, Try.ntmps69
    go_wp2_with fail
    refine hsplit.out.mono ?_
    clear hsplit a0 a1 af
    intro e w2 hq
    obtain ⟨d0, hput⟩ := NX.out e w2 hq
    have HP := Lib.hid hput
    obtain ⟨rfl, _⟩ := hq
    clear hput NX
    go_wp2_with fail
    refine HP.out.mono ?_
    clear HP d0
    rintro e w3 ⟨⟨was, hw, rfl⟩, hb, h4⟩
    rw [HL.out] at hw h4 ⊢
    obtain rfl : was = false := hw
    have c1 : w3.cell? ⟨a, 1, none⟩ = some (.int .i64 N) := (hb.cell 1).trans (by rw [HN.out]; rfl)
    have f1 : w3.frozen? ⟨a, 1, none⟩ = false := hb.frozen 1
    have h2 := Lib.hid (h4 (w3.setCell ⟨a, 1, none⟩ (.int .i64 ((N : Int) + 1))) ((Chg.refl _ _).setCell (.inl (by simp)) _) (by
      have := hb.set_ 1 (.int .i64 ((N : Int) + 1))
      rw [HIL.out, HL.out]
      have e : (((l.length + if (none : Option Value).isSome = true then 0 else 1) : Nat) : Int) = (N : Int) + 1 := by rw [HN.out]; simp
      rw [e]; exact this))
    clear h4 hb
    simp only [Option.getD_none] at h2 ⊢
    go_wp2
    go_ret2
    exact h2.out

/-- Put -/
theorem tputC (w : World) (a : Nat) (l : List KV) (L : List Nat) (key : ByteArray) (a3 : Option Addr) (n3 c3 : Nat) (H : IsTreeC w a l L) (hlen : l.length ≤ 1000000) :
    Calls Try.prog 69 #[.pointer (some ⟨a, 0, none⟩), .string key, Value.slice a3 n3 c3] w (TPutPostC w a l L key (Value.slice a3 n3 c3)) := by
  obtain ⟨h, t, hB, hT, hb, hs, hl, ha, rfl, h0⟩ := H
  have h7 := hb.ks
  by_cases h : t.ks.length = 7
  · exact tput_fullC w a l _ t key a3 n3 c3 hB hT hb hs hl ha h hlen
  · exact tput_roomC w a l _ t key a3 n3 c3 hB hT hb hs hl ha (by omega) h0 hlen


end Go.Proofs.Ytcidmaeclonilaa
