/- scope.of: an operation of one Arg, or of none that it has. scope.of: an operation of two Args. -/
import Derived.Test.YtbcmmecilheicaaGreatDoorEvCE

/- scope.of: an operation of one Arg, or of none that it has. -/
namespace Go.Proofs.YtbcmmecilheicaaGreatDoor
open Go Go.RowKit

/-- cells of an expression in a box of its own -/
theorem ex_at {W W' : World} {b : Nat} {t : TypeId} {c0 c1 c2 c3 c4 c5 c6 c7 : Value} (z : Blk W b t #[c0, c1, c2, c3, c4, c5, c6, c7]) (h : Below W.heap.size W W') :
  W'.cell? ⟨b, 0, none⟩ = some c0 ∧ W'.cell? ⟨b, 4, none⟩ = some c4 ∧ W'.cell? ⟨b, 7, none⟩ = some c7 := by
 have z' := z.below h
 exact ⟨z'.cell 0, z'.cell 4, z'.cell 7⟩

set_option maxRecDepth 100000 in
set_option maxHeartbeats 4000000 in
/-- another number of Args than the operation has -/
theorem of_not (W : World) (E : Env) (VA : Option Addr) (vn vc : Nat) (LA : Option Addr) (ln lc : Nat) (op : ByteArray) (kind col : Int) (v : Val) (A : Option Addr) (n c : Nat) (k : Int)
  (o1 : (op.toList == [108, 105, 116]) = false) (o2 : (op.toList == [99, 111, 108]) = false) (o3 : (op.toList == [108, 97, 98, 101, 108]) = false)
  (H36 : Hid (∀ W, Calls Tryz.prog 82 #[.string op] W fun e w' => e = .returned (.int .i64 k) ∧ Hid (Below W.heap.size W w'))) (hk : k ≠ (n : Int)) :
  Calls Tryz.prog 42 #[.agg #[.int .i64 E.at_, .slice VA vn vc, .slice LA ln lc], .agg #[.string op, .int .i64 kind, .int .i64 col, .int .i64 v.kind, .int .i64 v.int, .string v.text, .bool v.bool, .slice A n c]] W fun e w' => e = .returned (resV (Val.null, some 40)) ∧ Hid (Below W.heap.size W w') := by
 have hk2 : (k != (n : Int)) = true := by simpa using hk
 clear hk
 go_enter Tryz.func42, Tryz.ntmps42
 go_upto_region 1 with fail
 obtain ⟨W1, hW1⟩ : ∃ x, x = ((W.alloc (.cells #[.int .i64 E.at_, .slice VA vn vc, .slice LA ln lc] 115)).alloc (.cells #[.string op, .int .i64 kind, .int .i64 col, .int .i64 v.kind, .int .i64 v.int, .string v.text, .bool v.bool, .slice A n c] 51)).alloc (.cells #[.int .i64 0, .int .i64 0, .string ⟨#[]⟩, .bool false] 26) := ⟨_, rfl⟩
 have zx : Blk W1 (W.heap.size + 1) 51 #[.string op, .int .i64 kind, .int .i64 col, .int .i64 v.kind, .int .i64 v.int, .string v.text, .bool v.bool, .slice A n c] := by rw [hW1]; exact (blk_new' (w := W.alloc _) rfl (by simp)).alloc _
 have zr : Blk W1 (W.heap.size + 1 + 1) 26 #[.int .i64 0, .int .i64 0, .string ⟨#[]⟩, .bool false] := by rw [hW1]; exact blk_new' (w := (W.alloc _).alloc _) rfl (by simp)
 have bW : Below W.heap.size W W1 := by rw [hW1]; exact bt (below_alloc _ _) (bt (below_alloc _ _) (below_alloc _ _))
 rw [← hW1]
 have ZX := Lib.hid zx
 have ZR := Lib.hid zr
 have BW := Lib.hid bW
 have c0 := zx.cell 0
 clear hW1 zx zr bW
 go_upto_region 11 with fail
 have hb := below_drew W1
 have hs3 := hb.size
 have KC := Lib.hid (fun (W' : World) (h : Below W1.heap.size W1 W') => ex_at ZX.out h)
 clear c0
 go_region_held3 (fun W' : World => W'.cell? ⟨W.heap.size + 1, 0, none⟩ = some (.string op) ∧ W'.cell? ⟨W.heap.size + 1, 4, none⟩ = some (.int .i64 v.int) ∧ W'.cell? ⟨W.heap.size + 1, 7, none⟩ = some (.slice A n c))
  ((refine KC.out _ ?_; go_grown; done))
  ((go_at_call 82; refine (H36.out _).mono ?_; rintro e w2 ⟨rfl, h2⟩; have hb2 := bt h2.out (show Below W1.heap.size W1 _ by go_grown); have hs2 := hb2.size))
 go_wp2_with fail
 refine (null34 _).mono ?_
 rintro e w3 ⟨rfl, h3⟩
 have hb3 := bt h3.out hb2
 have zb := ZR.out.below hb3
 have hfz := fun o => zb.frozen o
 have q0 := zb.cell 0
 have q1 := zb.cell 1
 have q2 := zb.cell 2
 have q3 := zb.cell 3
 have ZB := Lib.hid zb
 have HB := Lib.hid (bt hb3 BW.out)
 have hl2 := BW.out.size
 clear zb h2 h3 hb2 hb3 hs2
 go_wp2
 refine bodyPost_ret (results_cv (s := 4) (k := 5) rfl rfl rfl (val_set ZB.out _ _ _ _)) rfl ⟨rfl, Lib.hid (by have hb := HB.out; have hs := hb.size; go_grown)⟩

/-- what comes of the Args -/
noncomputable def unTail (op : ByteArray) : List Val × Option Int → Res
 | (_, some er) => (Val.null, some er)
 | (l, none) => unaryP op (l.getD 0 Val.null)

set_option maxRecDepth 100000 in
set_option maxHeartbeats 8000000 in
/-- an operation of one Arg -/
theorem of_un (W : World) (at_ : Int) (R : List Val × Option Int) (VA : Option Addr) (vn vc : Nat) (LA : Option Addr) (ln lc : Nat) (op : ByteArray) (kind col : Int) (v : Val) (A : Option Addr) (c : Nat)
  (o1 : (op.toList == [108, 105, 116]) = false) (o2 : (op.toList == [99, 111, 108]) = false) (o3 : (op.toList == [108, 97, 98, 101, 108]) = false)
  (H36 : Hid (∀ W, Calls Tryz.prog 82 #[.string op] W fun e w' => e = .returned (.int .i64 1) ∧ Hid (Below W.heap.size W w')))
  (HU : Hid (∀ W (a : Val), Calls Tryz.prog 84 #[.string op, .agg #[.int .i64 a.kind, .int .i64 a.int, .string a.text, .bool a.bool]] W fun e w' => e = .returned (resV (unaryP op a)) ∧ Hid (Below W.heap.size W w')))
  (hlen : R.2 = none → R.1.length = 1)
  (HALL : Hid (∀ W', Below W.heap.size W W' → Calls Tryz.prog 83 #[.agg #[.int .i64 at_, .slice VA vn vc, .slice LA ln lc], .slice A 1 c] W' fun e w' => ∃ (A' : Option Addr) (k c' : Nat), e = .returned (.tuple #[.slice A' k c', errV R.2]) ∧ Hid (ValsAt w' A' k R.1 ∧ ∀ b o, A' = some ⟨b, o, none⟩ → W'.heap.size ≤ b) ∧ Hid (Below W'.heap.size W' w'))) :
  Calls Tryz.prog 42 #[.agg #[.int .i64 at_, .slice VA vn vc, .slice LA ln lc], .agg #[.string op, .int .i64 kind, .int .i64 col, .int .i64 v.kind, .int .i64 v.int, .string v.text, .bool v.bool, .slice A 1 c]] W fun e w' => e = .returned (resV (unTail op R)) ∧ Hid (Below W.heap.size W w') := by
 have hone : ((1 : Nat) : Int) = 1 := rfl
 obtain ⟨rl, re⟩ := R
 obtain ⟨⟨⟨rk, ri, rs, rb⟩, rer⟩, hr⟩ : ∃ r, r = unTail op (rl, re) := ⟨_, rfl⟩
 rw [← hr]
 have HRR := Lib.hid hr
 clear hr
 go_enter Tryz.func42, Tryz.ntmps42
 go_upto_region 1 with fail
 obtain ⟨W1, hW1⟩ : ∃ x, x = ((W.alloc (.cells #[.int .i64 at_, .slice VA vn vc, .slice LA ln lc] 115)).alloc (.cells #[.string op, .int .i64 kind, .int .i64 col, .int .i64 v.kind, .int .i64 v.int, .string v.text, .bool v.bool, .slice A 1 c] 51)).alloc (.cells #[.int .i64 0, .int .i64 0, .string ⟨#[]⟩, .bool false] 26) := ⟨_, rfl⟩
 have zx : Blk W1 (W.heap.size + 1) 51 #[.string op, .int .i64 kind, .int .i64 col, .int .i64 v.kind, .int .i64 v.int, .string v.text, .bool v.bool, .slice A 1 c] := by rw [hW1]; exact (blk_new' (w := W.alloc _) rfl (by simp)).alloc _
 have zs : Blk W1 W.heap.size 115 #[.int .i64 at_, .slice VA vn vc, .slice LA ln lc] := by rw [hW1]; exact ((blk_new' (w := W) rfl rfl).alloc _).alloc _
 have zr : Blk W1 (W.heap.size + 1 + 1) 26 #[.int .i64 0, .int .i64 0, .string ⟨#[]⟩, .bool false] := by rw [hW1]; exact blk_new' (w := (W.alloc _).alloc _) rfl (by simp)
 have bW : Below W.heap.size W W1 := by rw [hW1]; exact bt (below_alloc _ _) (bt (below_alloc _ _) (below_alloc _ _))
 rw [← hW1]
 have ZX := Lib.hid zx
 have ZS := Lib.hid zs
 have ZR := Lib.hid zr
 have BW := Lib.hid bW
 have c0 := zx.cell 0
 clear hW1 zx zr zs bW
 go_upto_region 11 with fail
 have hb := below_drew W1
 have hs3 := hb.size
 have KC := Lib.hid (fun (W' : World) (h : Below W1.heap.size W1 W') => ex_at ZX.out h)
 clear c0
 go_region_held3 (fun W' : World => W'.cell? ⟨W.heap.size + 1, 0, none⟩ = some (.string op) ∧ W'.cell? ⟨W.heap.size + 1, 4, none⟩ = some (.int .i64 v.int) ∧ W'.cell? ⟨W.heap.size + 1, 7, none⟩ = some (.slice A 1 c))
  ((refine KC.out _ ?_; go_grown; done))
  ((go_at_call 82; refine (H36.out _).mono ?_; rintro e w2 ⟨rfl, h2⟩; have hb2 := bt h2.out (show Below W1.heap.size W1 _ by go_grown); have hs2 := hb2.size))
 have hb2' := Lib.hid hb2
 have s0 := (ZS.out.below hb2).cell 0
 have s1 := (ZS.out.below hb2).cell 1
 have s2 := (ZS.out.below hb2).cell 2
 have x7 := (ZX.out.below hb2).cell 7
 have call := Lib.hid (HALL.out w2 (bt hb2 BW.out))
 clear h2 hb2 hs2
 go_wp2_with fail
 refine call.out.mono ?_
 clear call s0 s1 s2 x7
 rintro e w3 ⟨A', k', c', rfl, HVN, h3⟩
 have hvals := Lib.hid HVN.out.1
 have hb3 := bt h3.out hb2'.out
 cases re with
 | some er =>
  simp only [errV]
  go_wp2_with fail
  refine (null34 _).mono ?_
  rintro e w4 ⟨rfl, h4⟩
  have hb4 := bt h4.out hb3
  have zb := ZR.out.below hb4
  have hfz := fun o => zb.frozen o
  have q0 := zb.cell 0
  have q1 := zb.cell 1
  have q2 := zb.cell 2
  have q3 := zb.cell 3
  have ZB := Lib.hid zb
  have HB := Lib.hid (bt hb4 BW.out)
  have hl2 := BW.out.size
  clear zb h3 h4 hb3 hb4 hvals
  go_wp2
  refine bodyPost_ret (results_cv (s := 4) (k := 5) rfl rfl rfl (val_set ZB.out _ _ _ _)) rfl ⟨by rw [HRR.out]; rfl, Lib.hid (by have hb := HB.out; have hs := hb.size; go_grown)⟩
 | none =>
  simp only [errV]
  have hl1 := hlen rfl
  obtain ⟨a, rfl⟩ : ∃ a, rl = [a] := List.length_eq_one_iff.1 hl1
  obtain rfl : 1 = k' := hvals.out.len
  obtain ⟨b', off', rfl, hbl, hva⟩ := hvals.out.at_ 0 a rfl
  simp only [Nat.zero_mul, Nat.add_zero] at hva
  have HV := Lib.hid hva
  have hbn : W.heap.size + 1 + 1 ≠ b' := by
   have h1 := HVN.out.2 b' off' rfl
   have h2 := hb2'.out.size
   have h3 := ZR.out.lt
   omega
  have HU2 := Lib.hid (fun W' => HU.out W' a)
  have hu : unaryP op a = (⟨rk, ri, rs, rb⟩, rer) := HRR.out.symm
  rw [hu] at HU2
  simp only [resV, Val.cells] at HU2
  clear hu hva HU hl1 hlen
  have HB3 := Lib.hid hb3
  have HBL := Lib.hid hbl
  have KD := Lib.hid (fun (W' : World) (h : Below w3.heap.size w3 W') => (show W'.cell? ⟨W.heap.size + 1, 0, none⟩ = some (.string op) ∧ W'.cell? ⟨b', off', none⟩ = some (.int .i64 a.kind) ∧ W'.cell? ⟨b', off' + 1, none⟩ = some (.int .i64 a.int) ∧ W'.cell? ⟨b', off' + 2, none⟩ = some (.string a.text) ∧ W'.cell? ⟨b', off' + 3, none⟩ = some (.bool a.bool) from
   ⟨((ZX.out.below HB3.out).below h).cell 0, (HV.out.below HBL.out h).c0, (HV.out.below HBL.out h).c1, (HV.out.below HBL.out h).c2, (HV.out.below HBL.out h).c3⟩))
  clear h3 hb3 hbl hvals KC
  go_upto_region 17 with fail
  have hb := below_drew w3
  have hs3 := hb.size
  go_region_held3 (fun W' : World => W'.cell? ⟨W.heap.size + 1, 0, none⟩ = some (.string op) ∧ W'.cell? ⟨b', off', none⟩ = some (.int .i64 a.kind) ∧ W'.cell? ⟨b', off' + 1, none⟩ = some (.int .i64 a.int) ∧ W'.cell? ⟨b', off' + 2, none⟩ = some (.string a.text) ∧ W'.cell? ⟨b', off' + 3, none⟩ = some (.bool a.bool))
   ((first | (refine KD.out _ ?_; go_grown; done) | (have q := KD.out _ hb4; obtain ⟨p0, p1, p2, p3, p4⟩ := q; simp [World.cell?_setCell_far, hbn, p0, p1, p2, p3, p4])))
   ((go_at_call 84; refine (HU2.out _).mono ?_; rintro e w4 ⟨rfl, h4⟩; have hb4 := bt h4.out (show Below w3.heap.size w3 _ by go_grown); have hs4 := hb4.size; have H14 := bt hb4 HB3.out; have zb := ZR.out.below H14; have hfz := fun o => zb.frozen o; have q0 := zb.cell 0; have q1 := zb.cell 1; have q2 := zb.cell 2; have q3 := zb.cell 3))
  have HB := Lib.hid (bt H14 BW.out)
  have ZB := Lib.hid zb
  have hl2 := BW.out.size
  clear zb H14
  go_wp2_with fail
  refine bodyPost_ret (results_cv (s := 4) (k := 5) rfl rfl rfl (val_set ZB.out _ _ _ _)) rfl ⟨rfl, Lib.hid (by have hb := HB.out; have hs := hb.size; go_grown)⟩

end Go.Proofs.YtbcmmecilheicaaGreatDoor

/- scope.of: an operation of two Args. -/
namespace Go.Proofs.YtbcmmecilheicaaGreatDoor
open Go Go.RowKit

theorem len_two {α : Type} {l : List α} (h : l.length = 2) : ∃ a b, l = [a, b] := by
 match l, h with
 | [a, b], _ => exact ⟨a, b, rfl⟩
/-- what comes of two Args -/
def biTail (F : Val → Val → Res) : List Val × Option Int → Res
 | (_, some er) => (Val.null, some er)
 | (l, none) => F (l.getD 0 Val.null) (l.getD 1 Val.null)

set_option maxRecDepth 100000 in
set_option maxHeartbeats 32000000 in
theorem of_bin1 (K : FuncId) (hK : K = 112 ∨ K = 113 ∨ K = 114 ∨ K = 111 ∨ K = 117) (W : World) (at_ : Int) (R : List Val × Option Int) (VA : Option Addr) (vn vc : Nat) (LA : Option Addr) (ln lc : Nat) (op : ByteArray) (kind col : Int) (v : Val) (A : Option Addr) (c : Nat)
  (o1 : (op.toList == [108, 105, 116]) = false) (o2 : (op.toList == [99, 111, 108]) = false) (o3 : (op.toList == [108, 97, 98, 101, 108]) = false)
  (H36 : Hid (∀ W, Calls Tryz.prog 82 #[.string op] W fun e w' => e = .returned (.int .i64 2) ∧ Hid (Below W.heap.size W w')))
  (F : Val → Val → Res) (H39 : Hid (∀ W, Calls Tryz.prog 85 #[.string op] W fun e w' => e = .returned (.func (.func K) #[] #[]) ∧ w' = W)) (HF : Hid (∀ W (a b : Val), a.text.size ≤ TB → b.text.size ≤ TB → Calls Tryz.prog K #[.agg #[.int .i64 a.kind, .int .i64 a.int, .string a.text, .bool a.bool], .agg #[.int .i64 b.kind, .int .i64 b.int, .string b.text, .bool b.bool]] W fun e w' => e = .returned (resV (F a b)) ∧ Hid (Below W.heap.size W w')))
  (hlen : R.2 = none → R.1.length = 2) (hsz : ∀ v ∈ R.1, v.text.size ≤ TB)
  (HALL : Hid (∀ W', Below W.heap.size W W' → Calls Tryz.prog 83 #[.agg #[.int .i64 at_, .slice VA vn vc, .slice LA ln lc], .slice A 2 c] W' fun e w' => ∃ (A' : Option Addr) (k c' : Nat), e = .returned (.tuple #[.slice A' k c', errV R.2]) ∧ Hid (ValsAt w' A' k R.1 ∧ ∀ b o, A' = some ⟨b, o, none⟩ → W'.heap.size ≤ b) ∧ Hid (Below W'.heap.size W' w'))) :
  Calls Tryz.prog 42 #[.agg #[.int .i64 at_, .slice VA vn vc, .slice LA ln lc], .agg #[.string op, .int .i64 kind, .int .i64 col, .int .i64 v.kind, .int .i64 v.int, .string v.text, .bool v.bool, .slice A 2 c]] W fun e w' => e = .returned (resV (biTail F R)) ∧ Hid (Below W.heap.size W w') := by
 have hone : ((2 : Nat) : Int) = 2 := rfl
 obtain ⟨rl, re⟩ := R
 obtain ⟨⟨⟨rk, ri, rs, rb⟩, rer⟩, hr⟩ : ∃ r, r = biTail F (rl, re) := ⟨_, rfl⟩
 rw [← hr]
 have HRR := Lib.hid hr
 clear hr
 go_enter Tryz.func42, Tryz.ntmps42
 go_upto_region 1 with fail
 obtain ⟨W1, hW1⟩ : ∃ x, x = ((W.alloc (.cells #[.int .i64 at_, .slice VA vn vc, .slice LA ln lc] 115)).alloc (.cells #[.string op, .int .i64 kind, .int .i64 col, .int .i64 v.kind, .int .i64 v.int, .string v.text, .bool v.bool, .slice A 2 c] 51)).alloc (.cells #[.int .i64 0, .int .i64 0, .string ⟨#[]⟩, .bool false] 26) := ⟨_, rfl⟩
 have zx : Blk W1 (W.heap.size + 1) 51 #[.string op, .int .i64 kind, .int .i64 col, .int .i64 v.kind, .int .i64 v.int, .string v.text, .bool v.bool, .slice A 2 c] := by rw [hW1]; exact (blk_new' (w := W.alloc _) rfl (by simp)).alloc _
 have zs : Blk W1 W.heap.size 115 #[.int .i64 at_, .slice VA vn vc, .slice LA ln lc] := by rw [hW1]; exact ((blk_new' (w := W) rfl rfl).alloc _).alloc _
 have zr : Blk W1 (W.heap.size + 1 + 1) 26 #[.int .i64 0, .int .i64 0, .string ⟨#[]⟩, .bool false] := by rw [hW1]; exact blk_new' (w := (W.alloc _).alloc _) rfl (by simp)
 have bW : Below W.heap.size W W1 := by rw [hW1]; exact bt (below_alloc _ _) (bt (below_alloc _ _) (below_alloc _ _))
 rw [← hW1]
 have ZX := Lib.hid zx
 have ZS := Lib.hid zs
 have ZR := Lib.hid zr
 have BW := Lib.hid bW
 have c0 := zx.cell 0
 clear hW1 zx zr zs bW
 go_upto_region 11 with fail
 have hb := below_drew W1
 have hs3 := hb.size
 have KC := Lib.hid (fun (W' : World) (h : Below W1.heap.size W1 W') => ex_at ZX.out h)
 clear c0
 go_region_held3 (fun W' : World => W'.cell? ⟨W.heap.size + 1, 0, none⟩ = some (.string op) ∧ W'.cell? ⟨W.heap.size + 1, 4, none⟩ = some (.int .i64 v.int) ∧ W'.cell? ⟨W.heap.size + 1, 7, none⟩ = some (.slice A 2 c))
  ((refine KC.out _ ?_; go_grown; done))
  ((go_at_call 82; refine (H36.out _).mono ?_; rintro e w2 ⟨rfl, h2⟩; have hb2 := bt h2.out (show Below W1.heap.size W1 _ by go_grown); have hs2 := hb2.size))
 have hb2' := Lib.hid hb2
 have s0 := (ZS.out.below hb2).cell 0
 have s1 := (ZS.out.below hb2).cell 1
 have s2 := (ZS.out.below hb2).cell 2
 have x7 := (ZX.out.below hb2).cell 7
 have call := Lib.hid (HALL.out w2 (bt hb2 BW.out))
 clear h2 hb2 hs2
 go_wp2_with fail
 refine call.out.mono ?_
 clear call s0 s1 s2 x7
 rintro e w3 ⟨A', k', c', rfl, HVN, h3⟩
 have hvals := Lib.hid HVN.out.1
 have hb3 := bt h3.out hb2'.out
 cases re with
 | some er =>
  simp only [errV]
  go_wp2_with fail
  refine (null34 _).mono ?_
  rintro e w4 ⟨rfl, h4⟩
  have hb4 := bt h4.out hb3
  have zb := ZR.out.below hb4
  have hfz := fun o => zb.frozen o
  have q0 := zb.cell 0
  have q1 := zb.cell 1
  have q2 := zb.cell 2
  have q3 := zb.cell 3
  have ZB := Lib.hid zb
  have HB := Lib.hid (bt hb4 BW.out)
  have hl2 := BW.out.size
  clear zb h3 h4 hb3 hb4 hvals
  go_wp2
  refine bodyPost_ret (results_cv (s := 4) (k := 5) rfl rfl rfl (val_set ZB.out _ _ _ _)) rfl ⟨by rw [HRR.out]; rfl, Lib.hid (by have hb := HB.out; have hs := hb.size; go_grown)⟩
 | none =>
  simp only [errV]
  have hl1 := hlen rfl
  obtain ⟨a, b, rfl⟩ : ∃ a b, rl = [a, b] := len_two hl1
  obtain rfl : 2 = k' := hvals.out.len
  obtain ⟨b', off', rfl, hbl, hva⟩ := hvals.out.at_ 0 a rfl
  obtain ⟨b2, off2, he2, -, hvb⟩ := hvals.out.at_ 1 b rfl
  injection he2 with he2
  injection he2 with he2 he3
  subst he2 he3
  simp only [Nat.zero_mul, Nat.add_zero, Nat.one_mul] at hva hvb
  have HV := Lib.hid hva
  have HV2 := Lib.hid hvb
  have hbn : W.heap.size + 1 + 1 ≠ b' := by
   have h1 := HVN.out.2 b' off' rfl
   have h2 := hb2'.out.size
   have h3 := ZR.out.lt
   omega
  have hs9a : a.text.size ≤ TB := hsz a (by simp)
  have hs9b : b.text.size ≤ TB := hsz b (by simp)
  have HS9 := Lib.hid (And.intro hs9a hs9b)
  have hu : F a b = (⟨rk, ri, rs, rb⟩, rer) := HRR.out.symm
  have HF2 := Lib.hid (fun W1 => HF.out W1 a b hs9a hs9b)
  rw [hu] at HF2
  simp only [resV, Val.cells] at HF2
  clear hu hva hvb HF hl1 hlen hsz hs9a hs9b
  have HB3 := Lib.hid hb3
  have HBL := Lib.hid hbl
  have KD := Lib.hid (fun (W' : World) (h : Below w3.heap.size w3 W') => (show W'.cell? ⟨W.heap.size + 1, 0, none⟩ = some (.string op) ∧ (W'.cell? ⟨b', off', none⟩ = some (.int .i64 a.kind) ∧ W'.cell? ⟨b', off' + 1, none⟩ = some (.int .i64 a.int) ∧ W'.cell? ⟨b', off' + 2, none⟩ = some (.string a.text) ∧ W'.cell? ⟨b', off' + 3, none⟩ = some (.bool a.bool)) ∧ (W'.cell? ⟨b', off' + 4, none⟩ = some (.int .i64 b.kind) ∧ W'.cell? ⟨b', off' + 4 + 1, none⟩ = some (.int .i64 b.int) ∧ W'.cell? ⟨b', off' + 4 + 2, none⟩ = some (.string b.text) ∧ W'.cell? ⟨b', off' + 4 + 3, none⟩ = some (.bool b.bool)) from
   ⟨((ZX.out.below HB3.out).below h).cell 0, ⟨(HV.out.below HBL.out h).c0, (HV.out.below HBL.out h).c1, (HV.out.below HBL.out h).c2, (HV.out.below HBL.out h).c3⟩, (HV2.out.below HBL.out h).c0, (HV2.out.below HBL.out h).c1, (HV2.out.below HBL.out h).c2, (HV2.out.below HBL.out h).c3⟩))
  clear h3 hb3 hbl hvals KC
  go_upto_region 18 with fail
  have hb := below_drew w3
  have hs3 := hb.size
  rcases hK with rfl | rfl | rfl | rfl | rfl
  all_goals
   go_region_held3 (fun W' : World => W'.cell? ⟨W.heap.size + 1, 0, none⟩ = some (.string op) ∧ (W'.cell? ⟨b', off', none⟩ = some (.int .i64 a.kind) ∧ W'.cell? ⟨b', off' + 1, none⟩ = some (.int .i64 a.int) ∧ W'.cell? ⟨b', off' + 2, none⟩ = some (.string a.text) ∧ W'.cell? ⟨b', off' + 3, none⟩ = some (.bool a.bool)) ∧ (W'.cell? ⟨b', off' + 4, none⟩ = some (.int .i64 b.kind) ∧ W'.cell? ⟨b', off' + 4 + 1, none⟩ = some (.int .i64 b.int) ∧ W'.cell? ⟨b', off' + 4 + 2, none⟩ = some (.string b.text) ∧ W'.cell? ⟨b', off' + 4 + 3, none⟩ = some (.bool b.bool)))
    ((first | (refine KD.out _ ?_; go_grown; done) | (have q := KD.out _ hb4; obtain ⟨p0, ⟨p1, p2, p3, p4⟩, p5, p6, p7, p8⟩ := q; simp [World.cell?_setCell_far, hbn, p0, p1, p2, p3, p4, p5, p6, p7, p8])))
    (first
     | (go_at_call 85; refine (H39.out _).mono ?_; rintro e w9 ⟨rfl, rfl⟩)
     | ((first | go_at_call 112 | go_at_call 113 | go_at_call 114 | go_at_call 111 | go_at_call 117); refine (HF2.out _).mono ?_; rintro e w4 ⟨rfl, h4⟩; have hb4 := bt h4.out (show Below w3.heap.size w3 _ by go_grown); have hs4 := hb4.size; have H14 := bt hb4 HB3.out; have zb := ZR.out.below H14; have hfz := fun o => zb.frozen o; have q0 := zb.cell 0; have q1 := zb.cell 1; have q2 := zb.cell 2; have q3 := zb.cell 3))
   have HB := Lib.hid (bt H14 BW.out)
   have ZB := Lib.hid zb
   have hl2 := BW.out.size
   clear zb H14
   go_wp2_with fail
   refine bodyPost_ret (results_cv (s := 4) (k := 5) rfl rfl rfl (val_set ZB.out _ _ _ _)) rfl ⟨rfl, Lib.hid (by have hb := HB.out; have hs := hb.size; go_grown)⟩

set_option maxRecDepth 100000 in
set_option maxHeartbeats 32000000 in
theorem of_bin2 (K : FuncId) (fv : Value) (hK : K = 115 ∨ K = 116) (W : World) (at_ : Int) (R : List Val × Option Int) (VA : Option Addr) (vn vc : Nat) (LA : Option Addr) (ln lc : Nat) (op : ByteArray) (kind col : Int) (v : Val) (A : Option Addr) (c : Nat)
  (o1 : (op.toList == [108, 105, 116]) = false) (o2 : (op.toList == [99, 111, 108]) = false) (o3 : (op.toList == [108, 97, 98, 101, 108]) = false)
  (H36 : Hid (∀ W, Calls Tryz.prog 82 #[.string op] W fun e w' => e = .returned (.int .i64 2) ∧ Hid (Below W.heap.size W w')))
  (F : Val → Val → Res) (H39 : Hid (∀ W, Calls Tryz.prog 85 #[.string op] W fun e w' => e = .returned (.func (.func K) #[fv] #[]) ∧ w' = W)) (HF : Hid (∀ W (a b : Val), a.text.size ≤ TB → b.text.size ≤ TB → Calls Tryz.prog K #[fv, .agg #[.int .i64 a.kind, .int .i64 a.int, .string a.text, .bool a.bool], .agg #[.int .i64 b.kind, .int .i64 b.int, .string b.text, .bool b.bool]] W fun e w' => e = .returned (resV (F a b)) ∧ Hid (Below W.heap.size W w')))
  (hlen : R.2 = none → R.1.length = 2) (hsz : ∀ v ∈ R.1, v.text.size ≤ TB)
  (HALL : Hid (∀ W', Below W.heap.size W W' → Calls Tryz.prog 83 #[.agg #[.int .i64 at_, .slice VA vn vc, .slice LA ln lc], .slice A 2 c] W' fun e w' => ∃ (A' : Option Addr) (k c' : Nat), e = .returned (.tuple #[.slice A' k c', errV R.2]) ∧ Hid (ValsAt w' A' k R.1 ∧ ∀ b o, A' = some ⟨b, o, none⟩ → W'.heap.size ≤ b) ∧ Hid (Below W'.heap.size W' w'))) :
  Calls Tryz.prog 42 #[.agg #[.int .i64 at_, .slice VA vn vc, .slice LA ln lc], .agg #[.string op, .int .i64 kind, .int .i64 col, .int .i64 v.kind, .int .i64 v.int, .string v.text, .bool v.bool, .slice A 2 c]] W fun e w' => e = .returned (resV (biTail F R)) ∧ Hid (Below W.heap.size W w') := by
 have hone : ((2 : Nat) : Int) = 2 := rfl
 obtain ⟨rl, re⟩ := R
 obtain ⟨⟨⟨rk, ri, rs, rb⟩, rer⟩, hr⟩ : ∃ r, r = biTail F (rl, re) := ⟨_, rfl⟩
 rw [← hr]
 have HRR := Lib.hid hr
 clear hr
 go_enter Tryz.func42, Tryz.ntmps42
 go_upto_region 1 with fail
 obtain ⟨W1, hW1⟩ : ∃ x, x = ((W.alloc (.cells #[.int .i64 at_, .slice VA vn vc, .slice LA ln lc] 115)).alloc (.cells #[.string op, .int .i64 kind, .int .i64 col, .int .i64 v.kind, .int .i64 v.int, .string v.text, .bool v.bool, .slice A 2 c] 51)).alloc (.cells #[.int .i64 0, .int .i64 0, .string ⟨#[]⟩, .bool false] 26) := ⟨_, rfl⟩
 have zx : Blk W1 (W.heap.size + 1) 51 #[.string op, .int .i64 kind, .int .i64 col, .int .i64 v.kind, .int .i64 v.int, .string v.text, .bool v.bool, .slice A 2 c] := by rw [hW1]; exact (blk_new' (w := W.alloc _) rfl (by simp)).alloc _
 have zs : Blk W1 W.heap.size 115 #[.int .i64 at_, .slice VA vn vc, .slice LA ln lc] := by rw [hW1]; exact ((blk_new' (w := W) rfl rfl).alloc _).alloc _
 have zr : Blk W1 (W.heap.size + 1 + 1) 26 #[.int .i64 0, .int .i64 0, .string ⟨#[]⟩, .bool false] := by rw [hW1]; exact blk_new' (w := (W.alloc _).alloc _) rfl (by simp)
 have bW : Below W.heap.size W W1 := by rw [hW1]; exact bt (below_alloc _ _) (bt (below_alloc _ _) (below_alloc _ _))
 rw [← hW1]
 have ZX := Lib.hid zx
 have ZS := Lib.hid zs
 have ZR := Lib.hid zr
 have BW := Lib.hid bW
 have c0 := zx.cell 0
 clear hW1 zx zr zs bW
 go_upto_region 11 with fail
 have hb := below_drew W1
 have hs3 := hb.size
 have KC := Lib.hid (fun (W' : World) (h : Below W1.heap.size W1 W') => ex_at ZX.out h)
 clear c0
 go_region_held3 (fun W' : World => W'.cell? ⟨W.heap.size + 1, 0, none⟩ = some (.string op) ∧ W'.cell? ⟨W.heap.size + 1, 4, none⟩ = some (.int .i64 v.int) ∧ W'.cell? ⟨W.heap.size + 1, 7, none⟩ = some (.slice A 2 c))
  ((refine KC.out _ ?_; go_grown; done))
  ((go_at_call 82; refine (H36.out _).mono ?_; rintro e w2 ⟨rfl, h2⟩; have hb2 := bt h2.out (show Below W1.heap.size W1 _ by go_grown); have hs2 := hb2.size))
 have hb2' := Lib.hid hb2
 have s0 := (ZS.out.below hb2).cell 0
 have s1 := (ZS.out.below hb2).cell 1
 have s2 := (ZS.out.below hb2).cell 2
 have x7 := (ZX.out.below hb2).cell 7
 have call := Lib.hid (HALL.out w2 (bt hb2 BW.out))
 clear h2 hb2 hs2
 go_wp2_with fail
 refine call.out.mono ?_
 clear call s0 s1 s2 x7
 rintro e w3 ⟨A', k', c', rfl, HVN, h3⟩
 have hvals := Lib.hid HVN.out.1
 have hb3 := bt h3.out hb2'.out
 cases re with
 | some er =>
  simp only [errV]
  go_wp2_with fail
  refine (null34 _).mono ?_
  rintro e w4 ⟨rfl, h4⟩
  have hb4 := bt h4.out hb3
  have zb := ZR.out.below hb4
  have hfz := fun o => zb.frozen o
  have q0 := zb.cell 0
  have q1 := zb.cell 1
  have q2 := zb.cell 2
  have q3 := zb.cell 3
  have ZB := Lib.hid zb
  have HB := Lib.hid (bt hb4 BW.out)
  have hl2 := BW.out.size
  clear zb h3 h4 hb3 hb4 hvals
  go_wp2
  refine bodyPost_ret (results_cv (s := 4) (k := 5) rfl rfl rfl (val_set ZB.out _ _ _ _)) rfl ⟨by rw [HRR.out]; rfl, Lib.hid (by have hb := HB.out; have hs := hb.size; go_grown)⟩
 | none =>
  simp only [errV]
  have hl1 := hlen rfl
  obtain ⟨a, b, rfl⟩ : ∃ a b, rl = [a, b] := len_two hl1
  obtain rfl : 2 = k' := hvals.out.len
  obtain ⟨b', off', rfl, hbl, hva⟩ := hvals.out.at_ 0 a rfl
  obtain ⟨b2, off2, he2, -, hvb⟩ := hvals.out.at_ 1 b rfl
  injection he2 with he2
  injection he2 with he2 he3
  subst he2 he3
  simp only [Nat.zero_mul, Nat.add_zero, Nat.one_mul] at hva hvb
  have HV := Lib.hid hva
  have HV2 := Lib.hid hvb
  have hbn : W.heap.size + 1 + 1 ≠ b' := by
   have h1 := HVN.out.2 b' off' rfl
   have h2 := hb2'.out.size
   have h3 := ZR.out.lt
   omega
  have hs9a : a.text.size ≤ TB := hsz a (by simp)
  have hs9b : b.text.size ≤ TB := hsz b (by simp)
  have HS9 := Lib.hid (And.intro hs9a hs9b)
  have hu : F a b = (⟨rk, ri, rs, rb⟩, rer) := HRR.out.symm
  have HF2 := Lib.hid (fun W1 => HF.out W1 a b hs9a hs9b)
  rw [hu] at HF2
  simp only [resV, Val.cells] at HF2
  clear hu hva hvb HF hl1 hlen hsz hs9a hs9b
  have HB3 := Lib.hid hb3
  have HBL := Lib.hid hbl
  have KD := Lib.hid (fun (W' : World) (h : Below w3.heap.size w3 W') => (show W'.cell? ⟨W.heap.size + 1, 0, none⟩ = some (.string op) ∧ (W'.cell? ⟨b', off', none⟩ = some (.int .i64 a.kind) ∧ W'.cell? ⟨b', off' + 1, none⟩ = some (.int .i64 a.int) ∧ W'.cell? ⟨b', off' + 2, none⟩ = some (.string a.text) ∧ W'.cell? ⟨b', off' + 3, none⟩ = some (.bool a.bool)) ∧ (W'.cell? ⟨b', off' + 4, none⟩ = some (.int .i64 b.kind) ∧ W'.cell? ⟨b', off' + 4 + 1, none⟩ = some (.int .i64 b.int) ∧ W'.cell? ⟨b', off' + 4 + 2, none⟩ = some (.string b.text) ∧ W'.cell? ⟨b', off' + 4 + 3, none⟩ = some (.bool b.bool)) from
   ⟨((ZX.out.below HB3.out).below h).cell 0, ⟨(HV.out.below HBL.out h).c0, (HV.out.below HBL.out h).c1, (HV.out.below HBL.out h).c2, (HV.out.below HBL.out h).c3⟩, (HV2.out.below HBL.out h).c0, (HV2.out.below HBL.out h).c1, (HV2.out.below HBL.out h).c2, (HV2.out.below HBL.out h).c3⟩))
  clear h3 hb3 hbl hvals KC
  go_upto_region 18 with fail
  have hb := below_drew w3
  have hs3 := hb.size
  rcases hK with rfl | rfl
  all_goals
   go_region_held3 (fun W' : World => W'.cell? ⟨W.heap.size + 1, 0, none⟩ = some (.string op) ∧ (W'.cell? ⟨b', off', none⟩ = some (.int .i64 a.kind) ∧ W'.cell? ⟨b', off' + 1, none⟩ = some (.int .i64 a.int) ∧ W'.cell? ⟨b', off' + 2, none⟩ = some (.string a.text) ∧ W'.cell? ⟨b', off' + 3, none⟩ = some (.bool a.bool)) ∧ (W'.cell? ⟨b', off' + 4, none⟩ = some (.int .i64 b.kind) ∧ W'.cell? ⟨b', off' + 4 + 1, none⟩ = some (.int .i64 b.int) ∧ W'.cell? ⟨b', off' + 4 + 2, none⟩ = some (.string b.text) ∧ W'.cell? ⟨b', off' + 4 + 3, none⟩ = some (.bool b.bool)))
    ((first | (refine KD.out _ ?_; go_grown; done) | (have q := KD.out _ hb4; obtain ⟨p0, ⟨p1, p2, p3, p4⟩, p5, p6, p7, p8⟩ := q; simp [World.cell?_setCell_far, hbn, p0, p1, p2, p3, p4, p5, p6, p7, p8])))
    (first
     | (go_at_call 85; refine (H39.out _).mono ?_; rintro e w9 ⟨rfl, rfl⟩)
     | ((first | go_at_call 115 | go_at_call 116); refine (HF2.out _).mono ?_; rintro e w4 ⟨rfl, h4⟩; have hb4 := bt h4.out (show Below w3.heap.size w3 _ by go_grown); have hs4 := hb4.size; have H14 := bt hb4 HB3.out; have zb := ZR.out.below H14; have hfz := fun o => zb.frozen o; have q0 := zb.cell 0; have q1 := zb.cell 1; have q2 := zb.cell 2; have q3 := zb.cell 3))
   have HB := Lib.hid (bt H14 BW.out)
   have ZB := Lib.hid zb
   have hl2 := BW.out.size
   clear zb H14
   go_wp2_with fail
   refine bodyPost_ret (results_cv (s := 4) (k := 5) rfl rfl rfl (val_set ZB.out _ _ _ _)) rfl ⟨rfl, Lib.hid (by have hb := HB.out; have hs := hb.size; go_grown)⟩

set_option maxRecDepth 100000 in
set_option maxHeartbeats 8000000 in
theorem of_ar (W : World) (at_ : Int) (R : List Val × Option Int) (VA : Option Addr) (vn vc : Nat) (LA : Option Addr) (ln lc : Nat) (op : ByteArray) (kind col : Int) (v : Val) (A : Option Addr) (c : Nat)
  (o1 : (op.toList == [108, 105, 116]) = false) (o2 : (op.toList == [99, 111, 108]) = false) (o3 : (op.toList == [108, 97, 98, 101, 108]) = false)
  (H36 : Hid (∀ W, Calls Tryz.prog 82 #[.string op] W fun e w' => e = .returned (.int .i64 2) ∧ Hid (Below W.heap.size W w')))
  (F : Val → Val → Res) (k : Int) (H39 : Hid (∀ W, Calls Tryz.prog 85 #[.string op] W fun e w' => e = .returned (.func (.func 157) #[] #[.pointer (some ⟨W.heap.size, 0, none⟩)]) ∧ w' = W.alloc (.cells #[.int .u8 k] 5))) (HF : Hid (∀ W (g : Nat) (_hg : W.cell? ⟨g, 0, none⟩ = some (.int .u8 k)) (a b : Val), Calls Tryz.prog 157 #[.agg #[.int .i64 a.kind, .int .i64 a.int, .string a.text, .bool a.bool], .agg #[.int .i64 b.kind, .int .i64 b.int, .string b.text, .bool b.bool], .pointer (some ⟨g, 0, none⟩)] W fun e w' => e = .returned (resV (F a b)) ∧ Hid (Below W.heap.size W w')))
  (hlen : R.2 = none → R.1.length = 2) (hsz : ∀ v ∈ R.1, v.text.size ≤ TB)
  (HALL : Hid (∀ W', Below W.heap.size W W' → Calls Tryz.prog 83 #[.agg #[.int .i64 at_, .slice VA vn vc, .slice LA ln lc], .slice A 2 c] W' fun e w' => ∃ (A' : Option Addr) (k c' : Nat), e = .returned (.tuple #[.slice A' k c', errV R.2]) ∧ Hid (ValsAt w' A' k R.1 ∧ ∀ b o, A' = some ⟨b, o, none⟩ → W'.heap.size ≤ b) ∧ Hid (Below W'.heap.size W' w'))) :
  Calls Tryz.prog 42 #[.agg #[.int .i64 at_, .slice VA vn vc, .slice LA ln lc], .agg #[.string op, .int .i64 kind, .int .i64 col, .int .i64 v.kind, .int .i64 v.int, .string v.text, .bool v.bool, .slice A 2 c]] W fun e w' => e = .returned (resV (biTail F R)) ∧ Hid (Below W.heap.size W w') := by
 have hone : ((2 : Nat) : Int) = 2 := rfl
 obtain ⟨rl, re⟩ := R
 obtain ⟨⟨⟨rk, ri, rs, rb⟩, rer⟩, hr⟩ : ∃ r, r = biTail F (rl, re) := ⟨_, rfl⟩
 rw [← hr]
 have HRR := Lib.hid hr
 clear hr
 go_enter Tryz.func42, Tryz.ntmps42
 go_upto_region 1 with fail
 obtain ⟨W1, hW1⟩ : ∃ x, x = ((W.alloc (.cells #[.int .i64 at_, .slice VA vn vc, .slice LA ln lc] 115)).alloc (.cells #[.string op, .int .i64 kind, .int .i64 col, .int .i64 v.kind, .int .i64 v.int, .string v.text, .bool v.bool, .slice A 2 c] 51)).alloc (.cells #[.int .i64 0, .int .i64 0, .string ⟨#[]⟩, .bool false] 26) := ⟨_, rfl⟩
 have zx : Blk W1 (W.heap.size + 1) 51 #[.string op, .int .i64 kind, .int .i64 col, .int .i64 v.kind, .int .i64 v.int, .string v.text, .bool v.bool, .slice A 2 c] := by rw [hW1]; exact (blk_new' (w := W.alloc _) rfl (by simp)).alloc _
 have zs : Blk W1 W.heap.size 115 #[.int .i64 at_, .slice VA vn vc, .slice LA ln lc] := by rw [hW1]; exact ((blk_new' (w := W) rfl rfl).alloc _).alloc _
 have zr : Blk W1 (W.heap.size + 1 + 1) 26 #[.int .i64 0, .int .i64 0, .string ⟨#[]⟩, .bool false] := by rw [hW1]; exact blk_new' (w := (W.alloc _).alloc _) rfl (by simp)
 have bW : Below W.heap.size W W1 := by rw [hW1]; exact bt (below_alloc _ _) (bt (below_alloc _ _) (below_alloc _ _))
 rw [← hW1]
 have ZX := Lib.hid zx
 have ZS := Lib.hid zs
 have ZR := Lib.hid zr
 have BW := Lib.hid bW
 have c0 := zx.cell 0
 clear hW1 zx zr zs bW
 go_upto_region 11 with fail
 have hb := below_drew W1
 have hs3 := hb.size
 have KC := Lib.hid (fun (W' : World) (h : Below W1.heap.size W1 W') => ex_at ZX.out h)
 clear c0
 go_region_held3 (fun W' : World => W'.cell? ⟨W.heap.size + 1, 0, none⟩ = some (.string op) ∧ W'.cell? ⟨W.heap.size + 1, 4, none⟩ = some (.int .i64 v.int) ∧ W'.cell? ⟨W.heap.size + 1, 7, none⟩ = some (.slice A 2 c))
  ((refine KC.out _ ?_; go_grown; done))
  ((go_at_call 82; refine (H36.out _).mono ?_; rintro e w2 ⟨rfl, h2⟩; have hb2 := bt h2.out (show Below W1.heap.size W1 _ by go_grown); have hs2 := hb2.size))
 have hb2' := Lib.hid hb2
 have s0 := (ZS.out.below hb2).cell 0
 have s1 := (ZS.out.below hb2).cell 1
 have s2 := (ZS.out.below hb2).cell 2
 have x7 := (ZX.out.below hb2).cell 7
 have call := Lib.hid (HALL.out w2 (bt hb2 BW.out))
 clear h2 hb2 hs2
 go_wp2_with fail
 refine call.out.mono ?_
 clear call s0 s1 s2 x7
 rintro e w3 ⟨A', k', c', rfl, HVN, h3⟩
 have hvals := Lib.hid HVN.out.1
 have hb3 := bt h3.out hb2'.out
 cases re with
 | some er =>
  simp only [errV]
  go_wp2_with fail
  refine (null34 _).mono ?_
  rintro e w4 ⟨rfl, h4⟩
  have hb4 := bt h4.out hb3
  have zb := ZR.out.below hb4
  have hfz := fun o => zb.frozen o
  have q0 := zb.cell 0
  have q1 := zb.cell 1
  have q2 := zb.cell 2
  have q3 := zb.cell 3
  have ZB := Lib.hid zb
  have HB := Lib.hid (bt hb4 BW.out)
  have hl2 := BW.out.size
  clear zb h3 h4 hb3 hb4 hvals
  go_wp2
  refine bodyPost_ret (results_cv (s := 4) (k := 5) rfl rfl rfl (val_set ZB.out _ _ _ _)) rfl ⟨by rw [HRR.out]; rfl, Lib.hid (by have hb := HB.out; have hs := hb.size; go_grown)⟩
 | none =>
  simp only [errV]
  have hl1 := hlen rfl
  obtain ⟨a, b, rfl⟩ : ∃ a b, rl = [a, b] := len_two hl1
  obtain rfl : 2 = k' := hvals.out.len
  obtain ⟨b', off', rfl, hbl, hva⟩ := hvals.out.at_ 0 a rfl
  obtain ⟨b2, off2, he2, -, hvb⟩ := hvals.out.at_ 1 b rfl
  injection he2 with he2
  injection he2 with he2 he3
  subst he2 he3
  simp only [Nat.zero_mul, Nat.add_zero, Nat.one_mul] at hva hvb
  have HV := Lib.hid hva
  have HV2 := Lib.hid hvb
  have hbn : W.heap.size + 1 + 1 ≠ b' := by
   have h1 := HVN.out.2 b' off' rfl
   have h2 := hb2'.out.size
   have h3 := ZR.out.lt
   omega
  have hs9a : a.text.size ≤ TB := hsz a (by simp)
  have hs9b : b.text.size ≤ TB := hsz b (by simp)
  have HS9 := Lib.hid (And.intro hs9a hs9b)
  have hu : F a b = (⟨rk, ri, rs, rb⟩, rer) := HRR.out.symm
  have HF2 := Lib.hid (fun W1 g hg => HF.out W1 g hg a b)
  rw [hu] at HF2
  simp only [resV, Val.cells] at HF2
  clear hu hva hvb HF hl1 hlen hsz hs9a hs9b
  have HB3 := Lib.hid hb3
  have HBL := Lib.hid hbl
  have KD := Lib.hid (fun (W' : World) (h : Below w3.heap.size w3 W') => (show W'.cell? ⟨W.heap.size + 1, 0, none⟩ = some (.string op) ∧ (W'.cell? ⟨b', off', none⟩ = some (.int .i64 a.kind) ∧ W'.cell? ⟨b', off' + 1, none⟩ = some (.int .i64 a.int) ∧ W'.cell? ⟨b', off' + 2, none⟩ = some (.string a.text) ∧ W'.cell? ⟨b', off' + 3, none⟩ = some (.bool a.bool)) ∧ (W'.cell? ⟨b', off' + 4, none⟩ = some (.int .i64 b.kind) ∧ W'.cell? ⟨b', off' + 4 + 1, none⟩ = some (.int .i64 b.int) ∧ W'.cell? ⟨b', off' + 4 + 2, none⟩ = some (.string b.text) ∧ W'.cell? ⟨b', off' + 4 + 3, none⟩ = some (.bool b.bool)) from
   ⟨((ZX.out.below HB3.out).below h).cell 0, ⟨(HV.out.below HBL.out h).c0, (HV.out.below HBL.out h).c1, (HV.out.below HBL.out h).c2, (HV.out.below HBL.out h).c3⟩, (HV2.out.below HBL.out h).c0, (HV2.out.below HBL.out h).c1, (HV2.out.below HBL.out h).c2, (HV2.out.below HBL.out h).c3⟩))
  clear h3 hb3 hbl hvals KC
  go_upto_region 18 with fail
  have hb := below_drew w3
  have hs3 := hb.size
  go_region_held3 (fun W' : World => W'.cell? ⟨W.heap.size + 1, 0, none⟩ = some (.string op) ∧ (W'.cell? ⟨b', off', none⟩ = some (.int .i64 a.kind) ∧ W'.cell? ⟨b', off' + 1, none⟩ = some (.int .i64 a.int) ∧ W'.cell? ⟨b', off' + 2, none⟩ = some (.string a.text) ∧ W'.cell? ⟨b', off' + 3, none⟩ = some (.bool a.bool)) ∧ (W'.cell? ⟨b', off' + 4, none⟩ = some (.int .i64 b.kind) ∧ W'.cell? ⟨b', off' + 4 + 1, none⟩ = some (.int .i64 b.int) ∧ W'.cell? ⟨b', off' + 4 + 2, none⟩ = some (.string b.text) ∧ W'.cell? ⟨b', off' + 4 + 3, none⟩ = some (.bool b.bool)))
   ((first | (refine KD.out _ ?_; go_grown; done) | (have q := KD.out _ hb4; obtain ⟨p0, ⟨p1, p2, p3, p4⟩, p5, p6, p7, p8⟩ := q; simp [World.cell?_setCell_far, hbn, p0, p1, p2, p3, p4, p5, p6, p7, p8])))
   (first
    | (go_at_call 85; refine (H39.out _).mono ?_; rintro e w9 ⟨rfl, rfl⟩)
    | (go_at_call 157; refine (HF2.out _ _ ?_).mono ?_; (· first | exact (Blk.new _ _ _).cell 0 | simp); rintro e w4 ⟨rfl, h4⟩; have hb4 := bt h4.out (show Below w3.heap.size w3 _ by go_grown); have hs4 := hb4.size; have H14 := bt hb4 HB3.out; have zb := ZR.out.below H14; have hfz := fun o => zb.frozen o; have q0 := zb.cell 0; have q1 := zb.cell 1; have q2 := zb.cell 2; have q3 := zb.cell 3))
  have HB := Lib.hid (bt H14 BW.out)
  have ZB := Lib.hid zb
  have hl2 := BW.out.size
  clear zb H14
  go_wp2_with fail
  refine bodyPost_ret (results_cv (s := 4) (k := 5) rfl rfl rfl (val_set ZB.out _ _ _ _)) rfl ⟨rfl, Lib.hid (by have hb := HB.out; have hs := hb.size; go_grown)⟩

end Go.Proofs.YtbcmmecilheicaaGreatDoor
