/- The walk of barbicanlaw12.TreeNear. -/
import Derived.Test.YtcidmaeclonilaaTexts
namespace Go.Proofs.Ytcidmaeclonilaa
open Go Go.RowKit

/-- keys, put one after the other -/
def putAll (zs : List ByteArray) : List KV := zs.foldl (fun l k => ins k (.string ⟨#[]⟩) l) []
theorem putAll_succ {zs : List ByteArray} {i : Nat} {z : ByteArray} (h : zs[i]? = some z) : putAll (zs.take (i + 1)) = ins z (.string ⟨#[]⟩) (putAll (zs.take i)) := by
  unfold putAll
  rw [List.take_add_one, h]
  simp
theorem ins_len_le {k : ByteArray} {v : Value} {l : List KV} (hs : Srt l) : (ins k v l).length ≤ l.length + 1 := by
  rw [ins_len hs]; split <;> omega
theorem putAll_len (zs : List ByteArray) : Srt (putAll zs) ∧ (putAll zs).length ≤ zs.length := by
  have : ∀ (zs : List ByteArray) (l : List KV), Srt l → Srt (zs.foldl (fun l k => ins k (.string ⟨#[]⟩) l) l) ∧ (zs.foldl (fun l k => ins k (.string ⟨#[]⟩) l) l).length ≤ l.length + zs.length := by
    intro zs
    induction zs with
    | nil => intro l h; exact ⟨h, by simp⟩
    | cons z zs ih =>
      intro l h
      have h1 := ih (ins z (.string ⟨#[]⟩) l) h.ins
      have h2 := ins_len_le (k := z) (v := .string ⟨#[]⟩) h
      exact ⟨h1.1, by simp only [List.foldl_cons, List.length_cons] at h1 ⊢; omega⟩
  have h := this zs [] List.Pairwise.nil
  exact ⟨h.1, by have := h.2; simp only [List.length_nil, Nat.zero_add] at this; exact this⟩

/-- a slice of texts that came in -/
structure ArgS (w : World) (A : Option Addr) (n : Nat) (zs : List ByteArray) : Prop where
  len : zs.length = n
  at_ : ∀ (j : Nat) z, zs[j]? = some z → ∃ b off, A = some ⟨b, off, none⟩ ∧ b < w.heap.size ∧ w.cell? ⟨b, off + j, none⟩ = some (.string z)

set_option maxRecDepth 20000 in
set_option maxHeartbeats 4000000 in
theorem treeNear5 (w : World) (A : Option Addr) (n c : Nat) (zs : List ByteArray) (hA : ArgS w A n zs) :
    Calls Try.prog 5 #[.slice A n c] w fun e w' => e = .returned (.bool true) ∧ Hid (Below w.heap.size w w') := by
  have hnew := Lib.hid (new_ownS w)
  have hsure := Lib.hid sure25
  have HA := Lib.hid hA
  clear hA
  by_cases h3 : n ≤ 300
  · have hput := Lib.hid (fun (w1 : World) (a : Nat) (l : List KV) (key z : ByteArray) (H : TOwnS w w1 a l) (hl : l.length ≤ 1000000) => put_ownS H key z hl)
    have hkeys := Lib.hid (fun (w1 : World) (a : Nat) (l : List KV) (H : TOwnS w w1 a l) (hl : l.length ≤ 60000) => keys_ownS H hl)
    have hfirst := Lib.hid (fun (w1 : World) (a : Nat) (l : List KV) (H : TOwnS w w1 a l) => first_ownS H)
    have hlast := Lib.hid (fun (w1 : World) (a : Nat) (l : List KV) (H : TOwnS w w1 a l) => last_ownS H)
    have hfrom := Lib.hid (fun (w1 : World) (a : Nat) (l : List KV) (key : ByteArray) (H : TOwnS w w1 a l) => from_ownS H key true)
    have hto := Lib.hid (fun (w1 : World) (a : Nat) (l : List KV) (key : ByteArray) (H : TOwnS w w1 a l) => to_ownS H key true)
    have hnz : (n : Int) ≤ 300 := by omega
    go_enter Try.func5, Try.ntmps5
    go_wp2_with fail
    refine hnew.out.mono ?_
    rintro e w1 ⟨a, rfl, h1⟩
    clear hnew
    go_wp2_with fail
    go_loopg [4] n (fun kx s4 wr => ∃ (i : Nat), s4 = .int .i64 i ∧ kx + i = n ∧ Hid (TOwnS w wr a (putAll (zs.take i))))
    case atStart => exact ⟨0, rfl, rfl, h1⟩
    case round =>
      obtain ⟨i, rfl, hk, I⟩ := hrel
      clear h1
      by_cases hi : i < n
      · obtain ⟨z, hz⟩ : ∃ z, zs[i]? = some z := ⟨_, List.getElem?_eq_getElem (by rw [HA.out.len]; exact hi)⟩
        obtain ⟨b, off, rfl, hb, hcell⟩ := HA.out.at_ i z hz
        have d0 : wr.cell? ⟨b, off + i, none⟩ = some (.string z) := (I.out.world.cell (p := ⟨b, off + i, none⟩) hb).trans hcell
        have hiz : (i : Int) < (n : Int) := by omega
        have hc := hput.out wr a _ z ⟨#[]⟩ I.out (by have := (putAll_len (zs.take i)).2; simp at this; omega)
        rw [← putAll_succ hz] at hc
        have HC := Lib.hid hc
        clear hc hcell hz I
        go_wp2_with (go_at_call 26; refine HC.out.mono ?_; rintro e w2 ⟨rfl, h2⟩)
        go_roundg (gk - 1)
        case measure => omega
        case rel => exact ⟨i + 1, rfl, by omega, h2⟩
      · have hiz : ¬ ((i : Int) < (n : Int)) := by omega
        obtain ⟨l, hl⟩ : ∃ l, l = putAll (zs.take i) := ⟨_, rfl⟩
        have hl3 : l.length ≤ 300 := by have := (putAll_len (zs.take i)).2; rw [← hl] at this; simp at this; omega
        rw [← hl] at I
        have hks := Lib.hid (hkeys.out wr a l I.out (by omega))
        clear hl hk hput hkeys
        go_wp2_with fail
        refine hks.out.mono ?_
        rintro e w2 ⟨K, kc, rfl, hrow, h2⟩
        have hfi := Lib.hid (hfirst.out w2 a l h2.out.2)
        clear hks hfirst I
        go_wp2_with fail
        refine hfi.out.mono ?_
        rintro e w3 ⟨zk0, zv0, b0, rfl, h3, h4⟩
        have R3 := Lib.hid (show Row w3 9 (.slice K l.length kc) (l.map fun p => .string p.1) from hrow.out.kept fun k hk => h4.out.1.block k (hrow.out.lt k hk))
        clear hfi hrow h2
        go_wp2_with fail
        go_loopg [6, 7, 9] l.length (fun kx s6 s7 s9 wr => ∃ (j : Nat) (zk : ByteArray) (b : Bool), s6 = .int .i64 j ∧ s7 = .string zk ∧ s9 = .bool b ∧ kx + j = l.length ∧ Hid (TOwnS w wr a l ∧ Row wr 9 (.slice K l.length kc) (l.map fun p => .string p.1) ∧ rk l[j]? = zk ∧ l[j]?.isSome = b))
        case atStart => exact ⟨0, zk0, b0, rfl, rfl, rfl, rfl, Lib.hid ⟨h4.out.2, R3.out, h3.out.1, h3.out.2.2⟩⟩
        case round =>
          obtain ⟨j, zk, b, rfl, rfl, rfl, hk, I⟩ := hrel
          clear h3 h4 R3
          cases b with
          | true =>
            obtain ⟨it, ir, ik, ib⟩ := I.out
            obtain ⟨p, hp⟩ := Option.isSome_iff_exists.1 ib
            obtain rfl : p.1 = zk := by rw [← ik, hp]; rfl
            have hj := (List.getElem?_eq_some_iff.1 hp).1
            have hjz : (j : Int) < (l.length : Int) := by omega
            have hj4 : (j : Int) < 400 := by omega
            rw [show (l.map fun p => Value.string p.1) = (l.map (·.1)).map Value.string by rw [List.map_map]; rfl] at ir
            obtain ⟨g, rfl, d0⟩ := ir.str.2 j p.1 (by rw [List.getElem?_map, hp]; rfl)
            have hc := hfrom.out wr a l p.1 it
            rw [from_next it.srt hp] at hc
            have HC := Lib.hid hc
            have HR := Lib.hid ir
            clear it ir ik ib hp hc I hto hlast
            generalize p.1 = zk at *
            go_wp2_with (go_at_call 29; refine HC.out.mono ?_; rintro e w4 ⟨zk4, zv4, b4, rfl, h3, h4⟩)
            go_roundg (gk - 1)
            case measure => omega
            case rel => exact ⟨j + 1, zk4, b4, rfl, rfl, rfl, by omega, Lib.hid ⟨h4.out.2, by
              rw [show (l.map fun p => Value.string p.1) = (l.map (·.1)).map Value.string by rw [List.map_map]; rfl]
              exact HR.out.kept fun k hk => h4.out.1.block k (HR.out.lt k hk), h3.out.1, h3.out.2.2⟩⟩
          | false =>
            obtain ⟨it, ir, ik, ib⟩ := I.out
            have hjl : j = l.length := by
              by_cases hlt : j < l.length
              · rw [List.getElem?_eq_getElem hlt] at ib; cases ib
              · omega
            have hla := Lib.hid (hlast.out wr a l it)
            have HR := Lib.hid ir
            clear it ir ik ib I hlast hfrom hk
            subst hjl
            go_wp2_with fail
            refine hla.out.mono ?_
            rintro e w4 ⟨zk4, zv4, b4, rfl, h3, h4⟩
            have R4 := Lib.hid (show Row w4 9 (.slice K l.length kc) (l.map fun p => .string p.1) from HR.out.kept fun k hk => h4.out.1.block k (HR.out.lt k hk))
            have E4 := Lib.hid (show rk (if l.length = 0 then none else l[l.length - 1]?) = zk4 ∧ (if l.length = 0 then none else l[l.length - 1]?).isSome = b4 from by
              have e : (if l.length = 0 then none else l[l.length - 1]?) = l[l.length - 1]? := by
                cases l with
                | nil => rfl
                | cons p l => rw [if_neg (by simp)]
              rw [e]; exact ⟨h3.out.1, h3.out.2.2⟩)
            clear hla HR h3
            go_wp2_with fail
            go_loopg [6, 10, 12] l.length (fun kx s6 s10 s12 wr => ∃ (i : Nat) (zk : ByteArray) (b : Bool), s6 = .int .i64 i ∧ s10 = .string zk ∧ s12 = .bool b ∧ kx = i ∧ i ≤ l.length ∧ Hid (TOwnS w wr a l ∧ Row wr 9 (.slice K l.length kc) (l.map fun p => .string p.1) ∧ rk (if i = 0 then none else l[i - 1]?) = zk ∧ (if i = 0 then none else l[i - 1]?).isSome = b))
            case atStart => exact ⟨l.length, zk4, b4, rfl, rfl, rfl, rfl, Nat.le_refl _, Lib.hid ⟨h4.out.2, R4.out, E4.out⟩⟩
            case round =>
              obtain ⟨i, zk, b, rfl, rfl, rfl, hki, hil, I⟩ := hrel
              clear E4 R4 h4
              cases i with
              | zero =>
                have hsu := Lib.hid (hsure.out wr)
                obtain ⟨it, -, -, hb⟩ := I.out
                obtain rfl : false = b := hb
                have HW := Lib.hid it.world
                clear it I hsure hto
                go_wp2_with (go_at_call 25; refine hsu.out.mono ?_; rintro e w2 ⟨rfl, h2⟩)
                go_ret
                exact ⟨rfl, Lib.hid (HW.out.trans (h2.out.mono HW.out.size))⟩
              | succ i =>
                obtain ⟨it, ir, ik, ib⟩ := I.out
                rw [if_neg (by omega), Nat.add_sub_cancel] at ik ib
                obtain ⟨p, hp⟩ : ∃ p, l[i]? = some p := ⟨_, List.getElem?_eq_getElem (by omega)⟩
                rw [hp] at ik ib
                obtain rfl : p.1 = zk := ik
                obtain rfl : true = b := ib
                have hiz : (i : Int) < (l.length : Int) := by omega
                rw [show (l.map fun p => Value.string p.1) = (l.map (·.1)).map Value.string by rw [List.map_map]; rfl] at ir
                obtain ⟨g, rfl, d0⟩ := ir.str.2 i p.1 (by rw [List.getElem?_map, hp]; rfl)
                have hc := hto.out wr a l p.1 it
                rw [to_next it.srt hp] at hc
                have HC := Lib.hid hc
                have HR := Lib.hid ir
                clear it ir hp hc I
                generalize p.1 = zk at *
                go_wp2_with (go_at_call 31; refine HC.out.mono ?_; rintro e w4 ⟨zk5, zv5, b5, rfl, h3, h4⟩)
                go_roundg i
                case measure => omega
                case rel => exact ⟨i, zk5, b5, rfl, rfl, rfl, rfl, by omega, Lib.hid ⟨h4.out.2, by
                  rw [show (l.map fun p => Value.string p.1) = (l.map (·.1)).map Value.string by rw [List.map_map]; rfl]
                  exact HR.out.kept fun k hk => h4.out.1.block k (HR.out.lt k hk), h3.out.1, h3.out.2.2⟩⟩
  · have hnz : ¬ ((n : Int) ≤ 300) := by omega
    have hnz2 : (300 : Int) < (n : Int) := by omega
    go_enter Try.func5, Try.ntmps5
    go_wp2_with fail
    refine hnew.out.mono ?_
    rintro e w1 ⟨a, rfl, h1⟩
    have hs := Lib.hid (hsure.out w1)
    clear hnew
    go_wp2_with (go_at_call 25; refine hs.out.mono ?_; rintro e w2 ⟨rfl, h2⟩)
    go_ret
    have h3 := h1.out.world
    exact ⟨rfl, Lib.hid (h3.trans (h2.out.mono h3.size))⟩

end Go.Proofs.Ytcidmaeclonilaa
