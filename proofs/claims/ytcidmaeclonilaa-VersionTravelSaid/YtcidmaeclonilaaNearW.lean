/- end, From, To: walks. -/
import Derived.Test.YtcidmaeclonilaaTree
import Derived.Test.YtcidmaeclonilaaNear
import Derived.Deep.LoopGhost
import Derived.BigQuiet
namespace Go.Proofs.Ytcidmaeclonilaa
open Go Go.RowKit

/-- the cells of a node -/
structure CelS (w : World) (h : Nat) (t : GT) (m : Nat) : Prop where
  len : t.ks.length = m
  key : ∃ (A : Option Addr) (c : Nat), w.cell? ⟨t.b, 0, none⟩ = some (.slice A m c) ∧ ∀ (j : Nat) k, t.ks[j]? = some k → ∃ g, A = some ⟨g, 0, none⟩ ∧ w.cell? ⟨g, j, none⟩ = some (.string k)
  val : ∃ (A : Option Addr) (c : Nat), w.cell? ⟨t.b, 1, none⟩ = some (.slice A m c) ∧ ∀ (j : Nat) v, t.vs[j]? = some v → ∃ g, A = some ⟨g, 0, none⟩ ∧ w.cell? ⟨g, j, none⟩ = some v
  kid : ∃ (A : Option Addr) (c : Nat), w.cell? ⟨t.b, 2, none⟩ = some (.slice A t.cs.length c) ∧ ∀ (j : Nat) d, t.cs[j]? = some d → ∃ g, A = some ⟨g, 0, none⟩ ∧ w.cell? ⟨g, j, none⟩ = some (.pointer (some ⟨d.b, 0, none⟩))
theorem celS {w : World} {h : Nat} {t : GT} (H : Tre TS w h t) (B : BT h t) : CelS w h t t.ks.length := by
  have hN := H.nod
  refine ⟨rfl, ?_, ?_, ?_⟩
  · obtain ⟨A, c, e, -, -, h3, -⟩ := hN.kr.formN (n := t.ks.length) (by simp)
    refine ⟨A, c, (hN.blk.cell 0).trans (congrArg some e), fun j k hj => ?_⟩
    obtain ⟨g, e1, e2, -⟩ := h3 j (.string k) (by rw [List.getElem?_map, hj]; rfl)
    exact ⟨g, e1, e2⟩
  · obtain ⟨A, c, e, -, -, h3, -⟩ := hN.vr.formN (n := t.ks.length) B.vs
    refine ⟨A, c, (hN.blk.cell 1).trans (congrArg some e), fun j k hj => ?_⟩
    obtain ⟨g, e1, e2, -⟩ := h3 j k hj
    exact ⟨g, e1, e2⟩
  · obtain ⟨A, c, e, -, -, h3, -⟩ := hN.cr.formN (n := t.cs.length) (by simp)
    refine ⟨A, c, (hN.blk.cell 2).trans (congrArg some e), fun j d hj => ?_⟩
    obtain ⟨g, e1, e2, -⟩ := h3 j (ptr d) (by rw [List.getElem?_map, hj]; rfl)
    exact ⟨g, e1, e2⟩
theorem leafTS (w : World) (h : Nat) (t : GT) (H : Tre TS w h t) (B : BT h t) :
    Calls Try.prog 64 #[.pointer (some ⟨t.b, 0, none⟩)] w fun e w' => e = .returned (.bool (decide (h = 0))) ∧ w = w' := by
  obtain ⟨A, c, e, -, -, -, -⟩ := H.nod.cr.formN (n := t.cs.length) (by simp)
  have hd : decide (t.cs.length = 0) = decide (h = 0) := by
    cases h with
    | zero => simp [B.1]
    | succ h => simp [B.1]
  rw [← hd]
  exact leafS w t.b t.cs.length c t.kv t.vv A (by rw [← e]; exact H.nod.blk)

def EndPostS (w : World) (l : List KV) (e : Ending) (w' : World) : Prop :=
  ∃ p : KV, l.getLast? = some p ∧ e = .returned (.tuple #[.string p.1, p.2]) ∧ Below w.heap.size w w'

set_option maxHeartbeats 1000000 in
theorem endS (w : World) (h : Nat) (t : GT) (H : Tre TS w h t) (B : BT h t) (h0 : 0 < t.ks.length) :
    Calls Try.prog 65 #[.pointer (some ⟨t.b, 0, none⟩)] w (EndPostS w (toL h t)) := by
  obtain ⟨l, hl⟩ : ∃ l, l = toL h t := ⟨_, rfl⟩
  rw [← hl]
  have start := Lib.hid (show Tre TS w h t ∧ BT h t ∧ 0 < t.ks.length ∧ (toL h t).getLast? = l.getLast? ∧ Below w.heap.size w w from ⟨H, B, h0, by rw [hl], Below.refl _ w⟩)
  clear hl H B h0
  go_enter Try.func65, Try.ntmps65
  go_wp2
  go_loopg [0] h (fun kx s0 wr => ∃ t' : GT, s0 = .pointer (some ⟨t'.b, 0, none⟩) ∧ Hid (Tre TS wr kx t' ∧ BT kx t' ∧ 0 < t'.ks.length ∧ (toL kx t').getLast? = l.getLast? ∧ Below w.heap.size w wr))
  case atStart => exact ⟨t, rfl, start⟩
  case round =>
    obtain ⟨t', rfl, hh⟩ := hrel
    cases gk with
    | zero =>
      have t1 := hh.out
      have hleaf := Lib.hid (leafTS wr 0 t' t1.1 t1.2.1)
      have c := celS t1.1 t1.2.1
      obtain ⟨m, hm⟩ : ∃ m, t'.ks.length = m + 1 := ⟨t'.ks.length - 1, by have := t1.2.2.1; omega⟩
      rw [hm] at c
      obtain ⟨KA, kc, d0, d1⟩ := c.key
      obtain ⟨VA, vc, e0, e1⟩ := c.val
      obtain ⟨s, hk⟩ : ∃ s, t'.ks[m]? = some s := ⟨_, List.getElem?_eq_getElem (by omega)⟩
      obtain ⟨v, hv, hp⟩ := vs_get t1.2.1 hk
      obtain ⟨g, rfl, d2⟩ := d1 m _ hk
      obtain ⟨gv, rfl, e2⟩ := e1 m _ hv
      obtain ⟨zu, rfl⟩ : StrV v := t1.1.nod.v1 v (List.mem_of_getElem? hv)
      have hfin := Lib.hid (show EndPostS w l (.returned (.tuple #[.string s, Value.string zu])) wr from ⟨(s, Value.string zu), by rw [← t1.2.2.2.1]; exact last_leafN t1.2.1 hm hk hv, rfl, t1.2.2.2.2⟩)
      have hiz : (m : Int) < (m : Int) + 1 := by omega
      have hib : (m : Int) ≤ 64 := by have := t1.2.1.ks; omega
      clear t1 c d1 e1 hk hv hp hh start
      clear hm
      go_wp2_with (go_at_call 64; refine hleaf.out.mono ?_; rintro e w' ⟨rfl, rfl⟩)
      go_quiet (fail)
      go_wp2
      go_ret2
      obtain ⟨p, e1, e2, e3⟩ := hfin.out
      exact ⟨p, e1, e2, below_drewN' e3 _⟩
    | succ gk =>
      have t1 := hh.out
      have hleaf := Lib.hid (leafTS wr (gk + 1) t' t1.1 t1.2.1)
      have c := celS t1.1 t1.2.1
      have hcs := t1.2.1.1
      obtain ⟨CA, cc, d0, d1⟩ := c.kid
      rw [hcs] at d0
      obtain ⟨d, hd⟩ : ∃ d, t'.cs[t'.ks.length]? = some d := ⟨_, List.getElem?_eq_getElem (by omega)⟩
      obtain ⟨g, rfl, d2⟩ := d1 _ _ hd
      have Bd := t1.2.1.kid (List.mem_of_getElem? hd)
      have hrel2 := Lib.hid (show ∀ q, Tre TS (wr.drewN q) gk d ∧ BT gk d ∧ 0 < d.ks.length ∧ (toL gk d).getLast? = l.getLast? ∧ Below w.heap.size w (wr.drewN q) from fun q =>
        ⟨(t1.1.kid hd).below (below_drewN' (Below.refl _ _) q), Bd.1, by omega, by rw [← last_kid t1.2.1 hd (toL_ne Bd.1 (by omega))]; exact t1.2.2.2.1, below_drewN' t1.2.2.2.2 q⟩)
      have hib : t'.ks.length ≤ 64 := by have := t1.2.1.ks; omega
      clear t1 c d1 hd hh start hcs Bd
      generalize t'.ks.length = m at *
      have hiz : (m : Int) < (m : Int) + 1 := by omega
      go_wp2_with (go_at_call 64; refine hleaf.out.mono ?_; rintro e w' ⟨rfl, rfl⟩)
      go_quiet (fail)
      go_wp2
      go_roundg gk
      case measure => omega
      case rel => exact ⟨d, rfl, Lib.hid (hrel2.out _)⟩

/-- a pair's key, its value -/
def rk (o : Option KV) : ByteArray := (o.map (·.1)).getD ⟨#[]⟩
def rvS (o : Option KV) : Value := (o.map (·.2)).getD (Value.string ⟨#[]⟩)
/-- a neighbour is told -/
def NearPostS (w : World) (o : Option KV) (e : Ending) (w' : World) : Prop :=
  e = .returned (.tuple #[.string (rk o), rvS o, .bool o.isSome]) ∧ Below w.heap.size w w'
/-- on the way down -/
structure NrIS (F : List KV → Option KV) (w wr : World) (h : Nat) (t : GT) (o acc : Option KV) : Prop where
  tre : Tre TS wr h t
  bt : BT h t
  srt : Srt (toL h t)
  acc : (F (toL h t)).or acc = o
  below : Below w.heap.size w wr
theorem NrIS.fin {F : List KV → Option KV} {w wr : World} {h : Nat} {t : GT} {o acc : Option KV} (H : NrIS F w wr h t o acc) {x : Option KV} (hx : F (toL h t) = x) {k : ByteArray} {v : Value} {b : Bool} (hk : rk (x.or acc) = k) (hv : rvS (x.or acc) = v) (hb : (x.or acc).isSome = b) {w1 : World} (hw : Below wr.heap.size wr w1) :
    NearPostS w o (.returned (.tuple #[.string k, v, .bool b])) w1 := by
  have ho := H.acc
  rw [hx] at ho
  subst ho hk hv hb
  exact ⟨rfl, H.below.trans (hw.mono H.below.size)⟩
theorem NrIS.down {F : List KV → Option KV} {w wr : World} {h : Nat} {t : GT} {o acc : Option KV} (H : NrIS F w wr (h + 1) t o acc) {i : Nat} {d : GT} {x : Option KV} (hi : i ≤ t.ks.length) (hd : t.cs[i]? = some d) (hx : F (toL (h + 1) t) = (F (toL h d)).or x) {w1 : World} (hw : Below wr.heap.size wr w1) :
    NrIS F w w1 h d o (x.or acc) :=
  ⟨(H.tre.kid hd).below hw, (H.bt.kid (List.mem_of_getElem? hd)).1, kid_srt H.bt H.srt hi hd, by rw [← Option.or_assoc, ← hx]; exact H.acc, H.below.trans (hw.mono H.below.size)⟩

end Go.Proofs.Ytcidmaeclonilaa
