/- The iterator over chains: what it goes along; All itself. -/
import Derived.Test.YtcidmaeclonilaaSeqC
import Derived.Test.YtcidmaeclonilaaSeqM
namespace Go.Proofs.Ytcidmaeclonilaa
open Go Go.RowKit

theorem near_ofC {w0 W W' : World} {a : Nat} {l : List KV} {o : Option KV} {e : Ending} (h : ∃ (zk : ByteArray) (za : Option Addr) (zn zc : Nat) (b : Bool), e = .returned (.tuple #[.string zk, Value.slice za zn zc, .bool b]) ∧ Hid (rkC o = zk ∧ rvC o = Value.slice za zn zc ∧ o.isSome = b) ∧ Hid (Below W.heap.size W W' ∧ TOwnC w0 W' a l)) : NearEC W o e W' := by
  obtain ⟨zk, za, zn, zc, b, h1, h2, h3⟩ := h
  exact ⟨zk, za, zn, zc, b, h1, h2, Lib.hid h3.out.1⟩
theorem stepsC {w0 w : World} {a : Nat} {l : List KV} (H : TOwnC w0 w a l) (fr : ByteArray) (hf of : Bool) : StepsC w a (goF fr hf of l) 113 89 hf fr of := by
  refine ⟨fun W hb => ⟨l[0]?, fun h => ?_, (first_ownC (H.below hb)).mono fun e W' h => near_ofC h⟩, fun h W hb => ?_, fun W hb i p hp => ?_⟩
  · subst h
    unfold goF loB
    cases l <;> simp
  · subst h
    have := (from_ownC (H.below hb) fr of).mono fun e W' h => near_ofC h
    refine this.mono fun e W' h => ?_
    have e1 : fromL fr of l = (goF fr true of l)[0]? := by
      unfold fromL goF
      rw [find_drop]
      congr 2
      funext p
      rw [from_lo]
    rwa [e1] at h
  · have := (from_ownC (H.below hb) p.1 true).mono fun e W' h => near_ofC h
    obtain ⟨k, hk⟩ := dropWhile_drop (fun p : KV => !loB fr hf of p.1) l
    have hk' : goF fr hf of l = l.drop k := hk
    rw [hk'] at hp ⊢
    rw [List.getElem?_drop] at hp ⊢
    rw [from_next H.srt hp] at this
    rwa [← Nat.add_assoc]

/-- what a loop over chains is handed: one of them -/
def encC {xs : List CK} (x : { x : CK // x ∈ xs }) : Array Value := #[.string x.1.1, .slice x.1.2.1 x.1.2.2.1 x.1.2.2.2]
theorem all112_stops (n : Nat) (hn : 1 ≤ n) {w0 w wa : World} {a : Nat} {l : List KV} (H : TOwnC w0 w a l) (h01 : Below w.heap.size w wa) (Bt Br : Nat) (fr to : ByteArray) (hf ht of ot : Bool) (hBt : Bt < wa.heap.size) (hBr : Br < wa.heap.size)
    (ct : wa.cell? ⟨Bt, 0, none⟩ = some (.pointer (some ⟨a, 0, none⟩))) (cr : RngAt wa Br ⟨fr, to, hf, ht, of, ot⟩) (xs : List CK) (hxs : xs = (inR fr to hf ht of ot l).map kvC) :
    SeqStopsK Fence.wide n Try.prog 112 #[.pointer (some ⟨Bt, 0, none⟩), .pointer (some ⟨Br, 0, none⟩)] (encC (xs := xs)) (KB w.heap.size [Bt, Br]) (fun ys => ys.map (·.1) = xs) (fun pre => pre.map (·.1) <+: xs) xs.length wa := fun lp J Jx W hW hJ hJx hY h0 => by
  have e := goF_in H.srt fr to hf ht of ot
  have := seqC_in n hn lp a Bt Br fr to hf ht of ot (hasB fr to hf ht of ot) (goF fr hf of l) (fun pre W => ∃ pre' : List { x : CK // x ∈ xs }, pre'.map (·.1) = pre ∧ J pre' W) (fun pre W => ∃ pre' : List { x : CK // x ∈ xs }, pre'.map (·.1) = pre ∧ Jx pre' W) w wa W h01 hW hBt hBr ct cr (fun w1 key => has12 w1 fr to key hf ht of ot)
    (fun p hp => H.isV p ((List.dropWhile_sublist _).subset hp)) (stepsC H fr hf of) (fun s A B row hs hg hr => by
      obtain ⟨p, h1, h2⟩ := hs
      exact ⟨p, h1, hJ p A B row h2 hg hr⟩) (fun pre x W1 hj hp => by
      rw [e, ← hxs] at hp
      obtain ⟨p, h1, h2⟩ := hj
      have hx : x ∈ xs := hp.subset (by simp)
      have hlen : p.length < xs.length := by
        have := hp.length_le
        rw [← h1] at this
        simp at this; omega
      exact (hY p ⟨x, hx⟩ W1 h2 hlen).mono fun e' W' hh => by
        rcases hh with ⟨a1, a2, a3⟩ | ⟨a1, a2⟩
        · exact .inl ⟨a1, ⟨_, by simp [h1], a2⟩, a3⟩
        · exact .inr ⟨a1, ⟨_, by simp [h1], a2⟩⟩) ⟨[], rfl, h0⟩
  rw [e, ← hxs] at this
  refine this.mono fun e' W' hh => ?_
  obtain ⟨h1, h2⟩ := hh
  refine ⟨h1, ?_⟩
  rcases h2 with ⟨ys, rfl, p, hp, hj⟩ | ⟨pre, hpre, p, hp, hj⟩
  · exact .inl ⟨p, hp, hj⟩
  · exact .inr ⟨p, by show p.map (·.1) <+: xs; rw [hp]; exact hpre, hj⟩

set_option maxHeartbeats 1000000 in
theorem all93 (w : World) (p : Option Addr) (fr to : ByteArray) (hf ht of ot : Bool) :
    Calls Try.prog 93 #[.pointer p, .agg #[.string fr, .string to, .bool hf, .bool ht, .bool of, .bool ot]] w fun e w' => e = .returned (.func (.func 112) #[] #[.pointer (some ⟨w.heap.size, 0, none⟩), .pointer (some ⟨w.heap.size + 1, 0, none⟩)]) ∧
      w' = (w.alloc (.cells #[.pointer p] 110)).alloc (.cells #[.string fr, .string to, .bool hf, .bool ht, .bool of, .bool ot] 24) := by
  go_enter Try.func93, Try.ntmps93
  go_wp2
  go_ret
  exact ⟨rfl, rfl⟩

end Go.Proofs.Ytcidmaeclonilaa
