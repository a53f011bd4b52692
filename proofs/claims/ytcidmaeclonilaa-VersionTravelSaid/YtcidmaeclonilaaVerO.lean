/- A store of one key's versions: New, Get. -/
import Derived.Test.YtcidmaeclonilaaVerB
namespace Go.Proofs.Ytcidmaeclonilaa
open Go Go.RowKit

/-- what the tree holds -/
def treeL (key : ByteArray) (vs : List Ver) (v : Value) : List KV := if vs = [] then [] else [(key, v)]
/-- a store that holds the versions of one key -/
structure SOat (w0 w : World) (s : Nat) (key : ByteArray) (vs : List Ver) (rs : List ByteArray) (a : Nat) (L : List Nat) (A : Option Addr) (n c : Nat) : Prop where
  tree : IsTreeC w a (treeL key vs (.slice A n c)) L
  new_ : ∀ k ∈ L, w0.heap.size ≤ k
  world : Below w0.heap.size w0 w
  box : Blk w s 115 #[.pointer (some ⟨a, 0, none⟩)]
  sout : s ∉ L
  snew : w0.heap.size ≤ s
  chain : ChainAt w A n vs
  cap : n ≤ c
  nil_ : A = none → c = 0
  start : vs = [] → A = none
  out : ∀ g, A = some ⟨g, 0, none⟩ → g ∉ L
  rows : rs.length = vs.length
  bytes : ∀ (i : Nat) (v : Ver) (r : ByteArray), vs[i]? = some v → rs[i]? = some r → BytesAt w v.row r ∧ r.size ≤ 140737488355328 ∧ ∀ g, v.row.1 = some ⟨g, 0, none⟩ → g ∉ L
def SO (w0 w : World) (s : Nat) (key : ByteArray) (vs : List Ver) (rs : List ByteArray) : Prop := ∃ a L A n c, SOat w0 w s key vs rs a L A n c
theorem SO.below {w0 w w' : World} {s : Nat} {key : ByteArray} {vs : List Ver} {rs : List ByteArray} (H : SO w0 w s key vs rs) (hb : Below w.heap.size w w') : SO w0 w' s key vs rs := by
  obtain ⟨a, L, A, n, c, h⟩ := H
  exact ⟨a, L, A, n, c, ⟨h.tree.below hb, h.new_, h.world.trans (hb.mono h.world.size), (hb.block s h.box.lt).trans h.box, h.sout, h.snew, h.chain.below hb, h.cap, h.nil_, h.start, h.out, h.rows, fun i v r h1 h2 => ⟨(h.bytes i v r h1 h2).1.below hb, (h.bytes i v r h1 h2).2⟩⟩⟩
theorem SO.world {w0 w : World} {s : Nat} {key : ByteArray} {vs : List Ver} {rs : List ByteArray} (H : SO w0 w s key vs rs) : Below w0.heap.size w0 w := by
  obtain ⟨a, L, A, n, c, h⟩ := H; exact h.world

set_option maxHeartbeats 1000000 in
theorem new32 (w : World) : Calls Try.prog 32 #[] w fun e w' => ∃ s : Nat, e = .returned (.pointer (some ⟨s, 0, none⟩)) ∧ Hid (∀ key, SO w w' s key [] []) := by
  have hn := Lib.hid (new_ownC w)
  go_enter Try.func32, Try.ntmps32
  go_wp2_with fail
  refine hn.out.mono ?_
  clear hn
  rintro e w1 ⟨a, rfl, h1⟩
  have F := Lib.hid (show ∀ key, SO w (w1.alloc (.cells #[.pointer (some ⟨a, 0, none⟩)] 115)) w1.heap.size key [] [] from fun key => by
    obtain ⟨L, k1, k2, k3⟩ := h1.out
    have hb : Below w1.heap.size w1 (w1.alloc (.cells #[.pointer (some ⟨a, 0, none⟩)] 115)) := (Below.refl _ w1).alloc (Nat.le_refl _) _
    exact ⟨a, L, none, 0, 0, ⟨k1.below hb, k2, k3.trans (hb.mono k3.size), Blk.new w1 115 _, fun hm => (by have := k1.lt _ hm; omega), k3.size, ChainAt.nil _, Nat.le_refl _, fun _ => rfl, fun _ => rfl, fun g h => (by cases h), rfl, fun i v r h => (by simp at h)⟩⟩)
  clear h1
  go_wp2_with fail
  go_ret
  exact ⟨_, rfl, F⟩

/-- the text that Get tells -/
def textOf (vs : List Ver) (rs : List ByteArray) (i : Nat) : ByteArray := if (rowOf vs i).2 = true then rs.getD (i - 1) ⟨#[]⟩ else ⟨#[]⟩
theorem rowOf_bytes {w : World} {vs : List Ver} {rs : List ByteArray} (hl : rs.length = vs.length) (hb : ∀ (i : Nat) (v : Ver) (r : ByteArray), vs[i]? = some v → rs[i]? = some r → BytesAt w v.row r ∧ r.size ≤ 140737488355328) (i : Nat) :
    BytesAt w (rowOf vs i).1 (textOf vs rs i) ∧ (textOf vs rs i).size ≤ 140737488355328 := by
  cases i with
  | zero => exact ⟨BytesAt.nil w, Nat.zero_le _⟩
  | succ k =>
    cases hv : vs[k]? with
    | none => simp only [textOf, rowOf, hv]; exact ⟨BytesAt.nil w, Nat.zero_le _⟩
    | some v =>
      obtain ⟨r, hr⟩ : ∃ r, rs[k]? = some r := ⟨_, List.getElem?_eq_getElem (by have := (List.getElem?_eq_some_iff.1 hv).1; omega)⟩
      have h := hb k v r hv hr
      cases hg : v.gone with
      | true => simp only [textOf, rowOf, hv, hg]; exact ⟨BytesAt.nil w, Nat.zero_le _⟩
      | false =>
        have e : rs.getD (k + 1 - 1) ⟨#[]⟩ = r := by simp [List.getD_eq_getElem?_getD, hr]
        simp only [textOf, rowOf, hv, hg]
        simpa [e, hr] using h

set_option maxRecDepth 100000 in
set_option maxHeartbeats 2000000 in
theorem get34 {w0 w : World} {s : Nat} {key : ByteArray} {vs : List Ver} {rs : List ByteArray} (H : SO w0 w s key vs rs) (at_ : Int) (hn : vs.length ≤ 100000) (hs : VSrt vs) :
    Calls Try.prog 34 #[.pointer (some ⟨s, 0, none⟩), .string key, .int .i64 at_] w fun e w' => ∃ (i : Nat) (A : Option Addr) (n c : Nat), e = .returned (.tuple #[.slice A n c, .bool (rowOf vs i).2]) ∧ Hid (AsP vs at_ i) ∧ Hid (BytesAt w' (A, n, c) (textOf vs rs i)) ∧ Hid (Below w.heap.size w w') := by
  obtain ⟨a, L, A, n, c, h⟩ := H
  have hg := tgetC h.tree key
  have hlk : (look key (treeL key vs (.slice A n c))).getD (.slice none 0 0) = .slice A n c := by
    unfold treeL
    by_cases hv : vs = []
    · have := h.chain.len
      subst hv
      have hn0 : n = 0 := this.symm
      have hA := h.start rfl
      rw [hA, hn0, h.nil_ hA]; simp [look]
    · rw [if_neg hv]; simp [look]
  have h0 : w.cell? ⟨s, 0, none⟩ = some (.pointer (some ⟨a, 0, none⟩)) := h.box.cell 0
  have HG := Lib.hid hg
  have HK := Lib.hid hlk
  have HR := Lib.hid (fun (W : World) (hb : Below w.heap.size w W) => row71 W A n c vs at_ (h.chain.below hb) (by rw [← h.chain.len]; exact hn) hs)
  have HB := Lib.hid (fun (W : World) (hb : Below w.heap.size w W) (i : Nat) => rowOf_bytes (w := W) h.rows (fun i v r h1 h2 => ⟨(h.bytes i v r h1 h2).1.below hb, (h.bytes i v r h1 h2).2.1⟩) i)
  clear hg hlk h
  go_enter Try.func34, Try.ntmps34
  go_wp2_with fail
  refine HG.out.mono ?_
  clear HG
  rintro e w1 ⟨rfl, h1⟩
  rw [HK.out]
  have hr := Lib.hid (HR.out w1 h1)
  have H1 := Lib.hid h1
  clear HR h1
  go_wp2_with fail
  refine hr.out.mono ?_
  clear hr
  rintro e w2 ⟨i, rfl, P, h2⟩
  have B2 := Lib.hid (H1.out.trans (h2.out.mono H1.out.size))
  have hb := HB.out w2 B2.out i
  have hcl := Lib.hid (clone68 w2 _ _ _ _ hb.1 hb.2)
  clear hb HB h2 H1
  go_wp2_with fail
  refine hcl.out.mono ?_
  clear hcl
  rintro e w3 ⟨A', c', rfl, hby, -, h3⟩
  go_wp2_with fail
  go_ret2
  exact ⟨i, _, _, _, rfl, P, hby, Lib.hid (B2.out.trans (h3.out.mono B2.out.size))⟩

end Go.Proofs.Ytcidmaeclonilaa
