/- law12.asks: whatever is asked of a key, the tree and the list tell the same. -/
import Derived.Test.YtcidmaeclonilaaRefU
namespace Go.Proofs.Ytcidmaeclonilaa
open Go Go.RowKit

theorem look_str {l : List KV} (hv : ∀ p ∈ l, StrV p.2) (key : ByteArray) : ∃ zs, (look key l).getD (Value.string ⟨#[]⟩) = .string zs := by
  cases h : look key l with
  | none => exact ⟨_, rfl⟩
  | some v =>
    unfold look at h
    obtain ⟨p, hp, rfl⟩ := Option.map_eq_some_iff.1 h
    obtain ⟨s, hs⟩ := hv p (List.mem_of_find?_eq_some hp)
    exact ⟨s, hs⟩
/-- what the calls of asks tell, in any world behind w -/
structure AskT (w : World) (a : Nat) (A : Option Addr) (n c : Nat) (l : List KV) (key : ByteArray) : Prop where
  fr : ∀ (W : World) (bh : Bool), Below w.heap.size w W → Calls Try.prog 29 #[.pointer (some ⟨a, 0, none⟩), .string key, .bool bh] W fun e W' =>
    ∃ (zk zv : ByteArray) (b : Bool), e = .returned (.tuple #[.string zk, Value.string zv, .bool b]) ∧ Hid (rk (fromL key bh l) = zk ∧ rvS (fromL key bh l) = Value.string zv ∧ (fromL key bh l).isSome = b) ∧ Hid (Below w.heap.size w W')
  tt : ∀ (W : World) (bh : Bool), Below w.heap.size w W → Calls Try.prog 31 #[.pointer (some ⟨a, 0, none⟩), .string key, .bool bh] W fun e W' =>
    ∃ (zk zv : ByteArray) (b : Bool), e = .returned (.tuple #[.string zk, Value.string zv, .bool b]) ∧ Hid (rk (toLst key bh l) = zk ∧ rvS (toLst key bh l) = Value.string zv ∧ (toLst key bh l).isSome = b) ∧ Hid (Below W.heap.size W W')
  rfr : ∀ (W : World) (bh : Bool) (zk zv : ByteArray) (b : Bool), Below w.heap.size w W → (rk (fromL key bh l) = zk ∧ rvS (fromL key bh l) = Value.string zv ∧ (fromL key bh l).isSome = b) →
    Calls Try.prog 78 #[.slice A n c, .string key, .bool bh] W fun e W' => e = .returned (.tuple #[.agg #[.string zk, .string zv], .bool b]) ∧ Hid (Below W.heap.size W W')
  rto : ∀ (W : World) (bh : Bool) (zk zv : ByteArray) (b : Bool), Below w.heap.size w W → (rk (toLst key bh l) = zk ∧ rvS (toLst key bh l) = Value.string zv ∧ (toLst key bh l).isSome = b) →
    Calls Try.prog 79 #[.slice A n c, .string key, .bool bh] W fun e W' => e = .returned (.tuple #[.agg #[.string zk, .string zv], .bool b]) ∧ Hid (Below W.heap.size W W')
theorem askT {w0 w : World} {a : Nat} {A : Option Addr} {n c : Nat} {l : List KV} (key : ByteArray) (H : TOwnS w0 w a l) (hA : PArg w A n l) (hn : n ≤ 60000) : AskT w a A n c l key := by
  refine ⟨fun W bh hb => ?_, fun W bh hb => ?_, fun W bh zk zv b hb h => ?_, fun W bh zk zv b hb h => ?_⟩
  · exact (from_ownS (H.below hb) key bh).mono fun e W' ⟨zk, zv, b, h1, h2, h3⟩ => ⟨zk, zv, b, h1, h2, Lib.hid (hb.trans (h3.out.1.mono hb.size))⟩
  · exact (to_ownS (H.below hb) key bh).mono fun e W' ⟨zk, zv, b, h1, h2, h3⟩ => ⟨zk, zv, b, h1, h2, Lib.hid h3.out.1⟩
  · refine (from78 W A n c l key bh (hA.below hb) hn H.isV).mono fun e W' ⟨h1, h2⟩ => ⟨?_, Lib.hid h2⟩
    rw [h1, h.1, h.2.1, h.2.2]
  · refine (to79 W A n c l key bh (hA.below hb) hn H.isV).mono fun e W' ⟨h1, h2⟩ => ⟨?_, Lib.hid h2⟩
    rw [h1, h.1, h.2.1, h.2.2]

set_option maxHeartbeats 8000000 in
set_option maxRecDepth 100000 in
theorem asks48 (w0 w : World) (a : Nat) (A : Option Addr) (n c : Nat) (l : List KV) (key : ByteArray) (H : TOwnS w0 w a l) (hA : PArg w A n l) (hn : n ≤ 60000) :
    Calls Try.prog 48 #[.pointer (some ⟨a, 0, none⟩), .slice A n c, .string key] w fun e w' => e = .returned (.bool true) ∧ Hid (Below w.heap.size w w') := by
  have T := Lib.hid (askT (c := c) key H hA hn)
  obtain ⟨zs, hzs⟩ := look_str H.isV key
  have hget := get_ownS H key
  have hrget := Lib.hid (fun (W : World) (hb : Below w.heap.size w W) => get77 W A n c l key (hA.below hb) hn H.srt H.isV)
  rw [hzs] at hget
  have HZ := Lib.hid hzs
  have HG := Lib.hid hget
  clear H hA hget hzs
  obtain ⟨rb, hrb⟩ : ∃ rb, rb = (look key l).isSome := ⟨_, rfl⟩
  have HRB := Lib.hid hrb
  rw [← hrb] at HG
  clear hrb
  go_enter Try.func48, Try.ntmps48
  go_wp2_with fail
  refine HG.out.mono ?_
  clear HG
  rintro e w1 ⟨rfl, h1⟩
  have hg2 := hrget.out w1 h1.out.1
  rw [HZ.out, ← HRB.out] at hg2
  have HG2 := Lib.hid hg2
  have B1 := Lib.hid h1.out.1
  clear hg2 h1 hrget
  go_wp2_with fail
  refine HG2.out.mono ?_
  clear HG2
  rintro e w2 ⟨rfl, q, rfl⟩
  have B2 := Lib.hid (below_drewN' B1.out q)
  clear B1
  have hzz : (zs.toList == zs.toList) = true := by simp
  have hbb : (rb == rb) = true := by simp
  go_wp2_with fail
  go_loopg [11, 12, 13, 14, 15, 16, 17, 18, 19, 20, 21] 2 (fun kx s11 s12 s13 s14 s15 s16 s17 s18 s19 s20 s21 wr => ∃ (i : Nat), s11 = .int .i64 i ∧ kx + i = 2 ∧ Hid (Below w.heap.size w wr))
  case atStart => exact ⟨0, rfl, rfl, B2⟩
  case round =>
    obtain ⟨i, rfl, hk, I⟩ := hrel
    clear B2
    by_cases hi : i < 2
    · have hiz : (i : Int) < 2 := by omega
      have hib : (i : Int) + 1 ≤ 9223372036854775807 := by omega
      obtain ⟨bh, hbh⟩ : ∃ bh, ((i : Int) == 1) = bh := ⟨_, rfl⟩
      have hf := Lib.hid (T.out.fr wr bh I.out)
      go_wp2_with fail
      refine hf.out.mono ?_
      clear hf I
      rintro e w3 ⟨zk, zv, b1, rfl, f1, B3⟩
      have hf := Lib.hid (T.out.rfr w3 bh zk zv b1 B3.out f1.out)
      clear f1
      go_wp2_with fail
      refine hf.out.mono ?_
      clear hf
      rintro e w4 ⟨rfl, k4⟩
      have B4 := Lib.hid (B3.out.trans (k4.out.mono B3.out.size))
      clear B3 k4
      have BE := Lib.hid (B4.out.alloc B4.out.size (.cells #[.string zk, .string zv] 81))
      have N1 := Lib.hid (Blk.new w4 81 #[.string zk, .string zv])
      clear B4
      have hf := Lib.hid (T.out.tt _ bh BE.out)
      go_wp2_with fail
      refine hf.out.mono ?_
      clear hf
      rintro e w5 ⟨mk, mv, b2, rfl, f2, k5⟩
      have B5 := Lib.hid (BE.out.trans (k5.out.mono BE.out.size))
      have N2 := Lib.hid (show Blk w5 w4.heap.size 81 #[.string zk, .string zv] from (k5.out.block _ N1.out.lt).trans N1.out)
      clear BE k5 N1
      have hf := Lib.hid (T.out.rto w5 bh mk mv b2 B5.out f2.out)
      clear f2
      go_wp2_with fail
      refine hf.out.mono ?_
      clear hf
      rintro e w6 ⟨rfl, k6⟩
      have B6 := Lib.hid (B5.out.trans (k6.out.mono B5.out.size))
      have N3 := Lib.hid (show Blk w6 w4.heap.size 81 #[.string zk, .string zv] from (k6.out.block _ N2.out.lt).trans N2.out)
      clear B5 k6 N2
      have hlt := N3.out.lt
      have c0 : w6.cell? ⟨w4.heap.size, 0, none⟩ = some (.string zk) := N3.out.cell 0
      have c1 : w6.cell? ⟨w4.heap.size, 1, none⟩ = some (.string zv) := N3.out.cell 1
      have hp := Lib.hid (pair49 (w6.alloc (.cells #[.string mk, .string mv] 81)) zk zv b1)
      have M1 := Lib.hid (Blk.new w6 81 #[.string mk, .string mv])
      have BF := Lib.hid (B6.out.alloc B6.out.size (.cells #[.string mk, .string mv] 81))
      clear B6
      go_wp2_with fail
      refine hp.out.mono ?_
      clear hp N3 c0 c1
      rintro e w7 ⟨rfl, k7⟩
      have B7 := Lib.hid (BF.out.trans (k7.mono BF.out.size))
      have M2 := (show Blk w7 w6.heap.size 81 #[.string mk, .string mv] from (k7.block _ M1.out.lt).trans M1.out)
      have c0 : w7.cell? ⟨w6.heap.size, 0, none⟩ = some (.string mk) := M2.cell 0
      have c1 : w7.cell? ⟨w6.heap.size, 1, none⟩ = some (.string mv) := M2.cell 1
      have hp := Lib.hid (pair49 w7 mk mv b2)
      clear BF k7 M1 M2 hlt
      go_wp2_with fail
      refine hp.out.mono ?_
      clear hp c0 c1
      rintro e w8 ⟨rfl, k8⟩
      have B8 := Lib.hid (B7.out.trans (k8.mono B7.out.size))
      clear B7 k8
      go_wp2_with fail
      go_roundg (gk - 1)
      case measure => omega
      case rel => exact ⟨i + 1, rfl, by omega, B8⟩
    · have hiz : ¬ ((i : Int) < 2) := by omega
      go_wp2_with fail
      go_ret
      exact ⟨rfl, I⟩

end Go.Proofs.Ytcidmaeclonilaa
