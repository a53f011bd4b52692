/- value.either, And, Or. -/
import Derived.Test.YtbcmmecilheicaaGreatDoorEvV
import Derived.Deep.RegionHeld3
namespace Go.Proofs.YtbcmmecilheicaaGreatDoor
open Go Go.RowKit

def Val.eqB (u v : Val) : Bool := decide (u.kind = v.kind) && decide (u.int = v.int) && decide (u.text.toList = v.text.toList) && (u.bool == v.bool)
theorem eql23 (W : World) (a b c d : Int) (s t : ByteArray) (p q : Bool) : (binOp BinOp.eql 26 (.agg #[.int .i64 a, .int .i64 b, .string s, .bool p]) (.agg #[.int .i64 c, .int .i64 d, .string t, .bool q])).run Tryz.prog W = .ok (.bool (Val.eqB ⟨a, b, s, p⟩ ⟨c, d, t, q⟩)) W := by
 simp only [Val.eqB]
 by_cases h1 : a = c <;> by_cases h2 : b = d <;> by_cases h3 : s.toList = t.toList <;> cases p <;> cases q <;> simp [go_sem, h1, h2, h3]
/-- four cells of a value in a block known whole -/
theorem val_at {W W' : World} {b : Nat} {t : TypeId} {k i : Int} {s : ByteArray} {o : Bool} (z : Blk W b t #[.int .i64 k, .int .i64 i, .string s, .bool o]) (h : Below W.heap.size W W') :
  W'.cell? ⟨b, 0, none⟩ = some (.int .i64 k) ∧ W'.cell? ⟨b, 1, none⟩ = some (.int .i64 i) ∧ W'.cell? ⟨b, 2, none⟩ = some (.string s) ∧ W'.cell? ⟨b, 3, none⟩ = some (.bool o) := by
 have z' := z.below h
 exact ⟨z'.cell 0, z'.cell 1, z'.cell 2, z'.cell 3⟩

set_option maxRecDepth 20000 in
set_option maxHeartbeats 8000000 in
theorem either76 (w : World) (ka kb : Int) (ba bb en : Bool) : Calls Tryz.prog 155 #[.agg #[.int .i64 ka, .int .i64 0, .string ⟨#[]⟩, .bool ba], .agg #[.int .i64 kb, .int .i64 0, .string ⟨#[]⟩, .bool bb], .bool en] w fun e w' => e = .returned (resV (eitherP ⟨ka, 0, ⟨#[]⟩, ba⟩ ⟨kb, 0, ⟨#[]⟩, bb⟩ en)) ∧ Hid (Below w.heap.size w w') := by
 cases hi : isK 3 ⟨ka, 0, ⟨#[]⟩, ba⟩ && isK 3 ⟨kb, 0, ⟨#[]⟩, bb⟩ with
 | false =>
  have hr : eitherP ⟨ka, 0, ⟨#[]⟩, ba⟩ ⟨kb, 0, ⟨#[]⟩, bb⟩ en = (Val.null, some 7) := by simp [eitherP, hi]
  rw [hr]
  have HI := Lib.hid hi
  clear hi hr
  go_enter Tryz.func155, Tryz.ntmps155
  go_wp2_with (go_at_call 150; refine (is71 _ _ _ _ _ [⟨ka, 0, ⟨#[]⟩, ba⟩, ⟨kb, 0, ⟨#[]⟩, bb⟩] (ValsAt.two (t := 26) (blk_new' rfl (by simp))) (by omega)).mono ?_; rintro e w1 ⟨rfl, h1⟩; rw [List.all_cons, List.all_cons, List.all_nil, Bool.and_true, HI.out])
  refine (null34 _).mono ?_
  rintro e w2 ⟨rfl, h2⟩
  have H2 := bt h2.out h1.out
  obtain ⟨hc, hf⟩ := bcell H2
  have hb : Below w.heap.size w w2 := H2.from4
  have zb : Blk w2 (w.heap.size + 1 + 1) 26 #[.int .i64 0, .int .i64 0, .string ⟨#[]⟩, .bool false] := ((blk_new' (w := (w.alloc _).alloc _) rfl (by simp)).alloc _).below H2
  have ZB := Lib.hid zb
  have HB := Lib.hid hb
  clear h1 h2 H2 zb hb
  go_wp2
  refine bodyPost_ret (results_cv (s := 6) (k := 7) rfl rfl rfl (val_set ZB.out _ _ _ _)) rfl ⟨rfl, Lib.hid (by have hb := HB.out; go_grown)⟩
 | true =>
  have HI := Lib.hid hi
  have HQ := Lib.hid (show ∀ W k o, (binOp BinOp.eql 26 (.agg #[.int .i64 k, .int .i64 0, .string ⟨#[]⟩, .bool o]) (.agg #[.int .i64 3, .int .i64 0, .string ⟨#[]⟩, .bool en])).run Tryz.prog W = .ok (.bool (isT ⟨k, 0, ⟨#[]⟩, o⟩ en)) W from fun W k o => by
   rw [eql23]; simp [Val.eqB, isT])
  cases hta : isT ⟨ka, 0, ⟨#[]⟩, ba⟩ en with
  | true =>
   have hr : eitherP ⟨ka, 0, ⟨#[]⟩, ba⟩ ⟨kb, 0, ⟨#[]⟩, bb⟩ en = (Val.ofBool en, none) := by simp [eitherP, hi, hta]
   rw [hr]
   have hqa := fun W => HQ.out W ka ba
   simp only [hta] at hqa
   clear hi hr hta HQ
   go_enter Tryz.func155, Tryz.ntmps155
   go_wp2_with (go_at_call 150; refine (is71 _ _ _ _ _ [⟨ka, 0, ⟨#[]⟩, ba⟩, ⟨kb, 0, ⟨#[]⟩, bb⟩] (ValsAt.two (t := 26) (blk_new' rfl (by simp))) (by omega)).mono ?_; rintro e w1 ⟨rfl, h1⟩; rw [List.all_cons, List.all_cons, List.all_nil, Bool.and_true, HI.out])
   have zb : Blk w1 (w.heap.size + 1 + 1) 26 #[.int .i64 0, .int .i64 0, .string ⟨#[]⟩, .bool false] := ((blk_new' (w := (w.alloc _).alloc _) rfl (by simp)).alloc _).below h1.out
   have za : Blk w1 w.heap.size 26 #[.int .i64 ka, .int .i64 0, .string ⟨#[]⟩, .bool ba] := ((((blk_new' (w := w) rfl rfl).alloc _).alloc _).alloc _).below h1.out
   have zc : Blk w1 (w.heap.size + 1) 26 #[.int .i64 kb, .int .i64 0, .string ⟨#[]⟩, .bool bb] := (((blk_new' (w := w.alloc _) rfl (by simp)).alloc _).alloc _).below h1.out
   have KC := Lib.hid (fun (W : World) (h : Below w1.heap.size w1 W) => And.intro (val_at za h) (val_at zc h))
   have ZB := Lib.hid zb
   have ZA := Lib.hid za
   have ZC := Lib.hid zc
   have BW := Lib.hid h1.out.from4
   have hb := below_drew w1
   have hs3 := hb.size
   clear zb za zc h1
   obtain ⟨⟨a0, a1, a2, a3⟩, c0, c1, c2, c3⟩ := KC.out w1 (Below.refl _ _)
   first | (go_region_with ((go_at_call 98; refine (bool52 _ _).mono ?_; rintro e w2 ⟨rfl, h2⟩; have hb2 := bt h2.out (show Below w1.heap.size w1 _ by go_grown); have hs2 := hb2.size; obtain ⟨⟨a0, a1, a2, a3⟩, c0, c1, c2, c3⟩ := KC.out _ hb2))) | fail
   all_goals clear a0 a1 a2 a3 c0 c1 c2 c3
   all_goals
    go_wp2_with fail
    refine (bool52 _ _).mono ?_
    rintro e w3 ⟨rfl, h3⟩
    have H3 := bt h3.out hb2
    have zb3 := Lib.hid (ZB.out.below H3)
    have hfz := fun o => zb3.out.frozen o
    have q0 := zb3.out.cell 0
    have q1 := zb3.out.cell 1
    have q2 := zb3.out.cell 2
    have q3 := zb3.out.cell 3
    have HB := Lib.hid (bt H3 BW.out)
    have hl2 := ZB.out.lt
    have hl3 := BW.out.size
    clear h2 h3 H3
    go_wp2
    refine bodyPost_ret (results_cv (s := 6) (k := 7) rfl rfl rfl (val_set zb3.out _ _ _ _)) rfl ⟨rfl, Lib.hid (by have hb := HB.out; go_grown)⟩
  | false =>
   have hqa := fun W => HQ.out W ka ba
   simp only [hta] at hqa
   have HTA := Lib.hid hta
   cases htb : isT ⟨kb, 0, ⟨#[]⟩, bb⟩ en with
   | true =>
    have hr : eitherP ⟨ka, 0, ⟨#[]⟩, ba⟩ ⟨kb, 0, ⟨#[]⟩, bb⟩ en = (Val.ofBool en, none) := by simp [eitherP, hi, hta, htb]
    rw [hr]
    have hqb := fun W => HQ.out W kb bb
    simp only [htb] at hqb
    clear hi hr hta htb HQ
    go_enter Tryz.func155, Tryz.ntmps155
    go_wp2_with (go_at_call 150; refine (is71 _ _ _ _ _ [⟨ka, 0, ⟨#[]⟩, ba⟩, ⟨kb, 0, ⟨#[]⟩, bb⟩] (ValsAt.two (t := 26) (blk_new' rfl (by simp))) (by omega)).mono ?_; rintro e w1 ⟨rfl, h1⟩; rw [List.all_cons, List.all_cons, List.all_nil, Bool.and_true, HI.out])
    have zb : Blk w1 (w.heap.size + 1 + 1) 26 #[.int .i64 0, .int .i64 0, .string ⟨#[]⟩, .bool false] := ((blk_new' (w := (w.alloc _).alloc _) rfl (by simp)).alloc _).below h1.out
    have za : Blk w1 w.heap.size 26 #[.int .i64 ka, .int .i64 0, .string ⟨#[]⟩, .bool ba] := ((((blk_new' (w := w) rfl rfl).alloc _).alloc _).alloc _).below h1.out
    have zc : Blk w1 (w.heap.size + 1) 26 #[.int .i64 kb, .int .i64 0, .string ⟨#[]⟩, .bool bb] := (((blk_new' (w := w.alloc _) rfl (by simp)).alloc _).alloc _).below h1.out
    have KC := Lib.hid (fun (W : World) (h : Below w1.heap.size w1 W) => And.intro (val_at za h) (val_at zc h))
    have ZB := Lib.hid zb
    have ZA := Lib.hid za
    have ZC := Lib.hid zc
    have BW := Lib.hid h1.out.from4
    have hb := below_drew w1
    have hs3 := hb.size
    clear zb za zc h1
    obtain ⟨⟨a0, a1, a2, a3⟩, c0, c1, c2, c3⟩ := KC.out w1 (Below.refl _ _)
    first | (go_region_with ((go_at_call 98; refine (bool52 _ _).mono ?_; rintro e w2 ⟨rfl, h2⟩; have hb2 := bt h2.out (show Below w1.heap.size w1 _ by go_grown); have hs2 := hb2.size; obtain ⟨⟨a0, a1, a2, a3⟩, c0, c1, c2, c3⟩ := KC.out _ hb2))) | fail
    all_goals clear a0 a1 a2 a3 c0 c1 c2 c3
    all_goals
     go_wp2_with fail
     refine (bool52 _ _).mono ?_
     rintro e w3 ⟨rfl, h3⟩
     have H3 := bt h3.out hb2
     have zb3 := Lib.hid (ZB.out.below H3)
     have hfz := fun o => zb3.out.frozen o
     have q0 := zb3.out.cell 0
     have q1 := zb3.out.cell 1
     have q2 := zb3.out.cell 2
     have q3 := zb3.out.cell 3
     have HB := Lib.hid (bt H3 BW.out)
     have hl2 := ZB.out.lt
     have hl3 := BW.out.size
     clear h2 h3 H3
     go_wp2
     refine bodyPost_ret (results_cv (s := 6) (k := 7) rfl rfl rfl (val_set zb3.out _ _ _ _)) rfl ⟨rfl, Lib.hid (by have hb := HB.out; go_grown)⟩
   | false =>
    have hqb := fun W => HQ.out W kb bb
    simp only [htb] at hqb
    cases hn : nullB ⟨ka, 0, ⟨#[]⟩, ba⟩ || nullB ⟨kb, 0, ⟨#[]⟩, bb⟩ with
    | true =>
     have hr : eitherP ⟨ka, 0, ⟨#[]⟩, ba⟩ ⟨kb, 0, ⟨#[]⟩, bb⟩ en = (Val.null, none) := by simp [eitherP, hi, hta, htb, hn]
     rw [hr]
     have HN := Lib.hid hn
     clear hi hr hta htb hn HQ
     go_enter Tryz.func155, Tryz.ntmps155
     go_wp2_with (go_at_call 150; refine (is71 _ _ _ _ _ [⟨ka, 0, ⟨#[]⟩, ba⟩, ⟨kb, 0, ⟨#[]⟩, bb⟩] (ValsAt.two (t := 26) (blk_new' rfl (by simp))) (by omega)).mono ?_; rintro e w1 ⟨rfl, h1⟩; rw [List.all_cons, List.all_cons, List.all_nil, Bool.and_true, HI.out])
     have zb : Blk w1 (w.heap.size + 1 + 1) 26 #[.int .i64 0, .int .i64 0, .string ⟨#[]⟩, .bool false] := ((blk_new' (w := (w.alloc _).alloc _) rfl (by simp)).alloc _).below h1.out
     have za : Blk w1 w.heap.size 26 #[.int .i64 ka, .int .i64 0, .string ⟨#[]⟩, .bool ba] := ((((blk_new' (w := w) rfl rfl).alloc _).alloc _).alloc _).below h1.out
     have zc : Blk w1 (w.heap.size + 1) 26 #[.int .i64 kb, .int .i64 0, .string ⟨#[]⟩, .bool bb] := (((blk_new' (w := w.alloc _) rfl (by simp)).alloc _).alloc _).below h1.out
     have KC := Lib.hid (fun (W : World) (h : Below w1.heap.size w1 W) => And.intro (val_at za h) (val_at zc h))
     have ZB := Lib.hid zb
     have ZA := Lib.hid za
     have ZC := Lib.hid zc
     have BW := Lib.hid h1.out.from4
     have hb := below_drew w1
     have hs3 := hb.size
     clear zb za zc h1
     obtain ⟨⟨a0, a1, a2, a3⟩, c0, c1, c2, c3⟩ := KC.out w1 (Below.refl _ _)
     first | (go_region_with ((go_at_call 98; refine (bool52 _ _).mono ?_; rintro e w2 ⟨rfl, h2⟩; have hb2 := bt h2.out (show Below w1.heap.size w1 _ by go_grown); have hs2 := hb2.size; obtain ⟨⟨a0, a1, a2, a3⟩, c0, c1, c2, c3⟩ := KC.out _ hb2))) | fail
     all_goals clear a0 a1 a2 a3 c0 c1 c2 c3
     all_goals
      obtain ⟨⟨a0, a1, a2, a3⟩, c0, c1, c2, c3⟩ := KC.out _ hb2
      go_wp2_with fail
      refine (null72 _ _ _ _ [⟨ka, 0, ⟨#[]⟩, ba⟩, ⟨kb, 0, ⟨#[]⟩, bb⟩] (ValsAt.two (t := 26) (blk_new' rfl rfl)) (by omega)).mono ?_
      rintro e w9 ⟨rfl, h9⟩
      rw [List.any_cons, List.any_cons, List.any_nil, Bool.or_false, HN.out]
      have hb9 := bt h9.out.from1 hb2
      clear a0 a1 a2 a3 c0 c1 c2 c3 h9
      go_wp2_with fail
      refine (null34 _).mono ?_
      rintro e w3 ⟨rfl, h3⟩
      have H3 := bt h3.out hb9
      have zb3 := Lib.hid (ZB.out.below H3)
      have hfz := fun o => zb3.out.frozen o
      have q0 := zb3.out.cell 0
      have q1 := zb3.out.cell 1
      have q2 := zb3.out.cell 2
      have q3 := zb3.out.cell 3
      have HB := Lib.hid (bt H3 BW.out)
      have hl2 := ZB.out.lt
      have hl3 := BW.out.size
      clear h2 h3 H3
      go_wp2
      refine bodyPost_ret (results_cv (s := 6) (k := 7) rfl rfl rfl (val_set zb3.out _ _ _ _)) rfl ⟨rfl, Lib.hid (by have hb := HB.out; go_grown)⟩
    | false =>
     have hr : eitherP ⟨ka, 0, ⟨#[]⟩, ba⟩ ⟨kb, 0, ⟨#[]⟩, bb⟩ en = (Val.ofBool (!en), none) := by simp [eitherP, hi, hta, htb, hn]
     rw [hr]
     have HN := Lib.hid hn
     clear hi hr hta htb hn HQ
     go_enter Tryz.func155, Tryz.ntmps155
     go_wp2_with (go_at_call 150; refine (is71 _ _ _ _ _ [⟨ka, 0, ⟨#[]⟩, ba⟩, ⟨kb, 0, ⟨#[]⟩, bb⟩] (ValsAt.two (t := 26) (blk_new' rfl (by simp))) (by omega)).mono ?_; rintro e w1 ⟨rfl, h1⟩; rw [List.all_cons, List.all_cons, List.all_nil, Bool.and_true, HI.out])
     have zb : Blk w1 (w.heap.size + 1 + 1) 26 #[.int .i64 0, .int .i64 0, .string ⟨#[]⟩, .bool false] := ((blk_new' (w := (w.alloc _).alloc _) rfl (by simp)).alloc _).below h1.out
     have za : Blk w1 w.heap.size 26 #[.int .i64 ka, .int .i64 0, .string ⟨#[]⟩, .bool ba] := ((((blk_new' (w := w) rfl rfl).alloc _).alloc _).alloc _).below h1.out
     have zc : Blk w1 (w.heap.size + 1) 26 #[.int .i64 kb, .int .i64 0, .string ⟨#[]⟩, .bool bb] := (((blk_new' (w := w.alloc _) rfl (by simp)).alloc _).alloc _).below h1.out
     have KC := Lib.hid (fun (W : World) (h : Below w1.heap.size w1 W) => And.intro (val_at za h) (val_at zc h))
     have ZB := Lib.hid zb
     have ZA := Lib.hid za
     have ZC := Lib.hid zc
     have BW := Lib.hid h1.out.from4
     have hb := below_drew w1
     have hs3 := hb.size
     clear zb za zc h1
     obtain ⟨⟨a0, a1, a2, a3⟩, c0, c1, c2, c3⟩ := KC.out w1 (Below.refl _ _)
     first | (go_region_with ((go_at_call 98; refine (bool52 _ _).mono ?_; rintro e w2 ⟨rfl, h2⟩; have hb2 := bt h2.out (show Below w1.heap.size w1 _ by go_grown); have hs2 := hb2.size; obtain ⟨⟨a0, a1, a2, a3⟩, c0, c1, c2, c3⟩ := KC.out _ hb2))) | fail
     all_goals clear a0 a1 a2 a3 c0 c1 c2 c3
     all_goals
      obtain ⟨⟨a0, a1, a2, a3⟩, c0, c1, c2, c3⟩ := KC.out _ hb2
      go_wp2_with fail
      refine (null72 _ _ _ _ [⟨ka, 0, ⟨#[]⟩, ba⟩, ⟨kb, 0, ⟨#[]⟩, bb⟩] (ValsAt.two (t := 26) (blk_new' rfl rfl)) (by omega)).mono ?_
      rintro e w9 ⟨rfl, h9⟩
      rw [List.any_cons, List.any_cons, List.any_nil, Bool.or_false, HN.out]
      have hb9 := bt h9.out.from1 hb2
      clear a0 a1 a2 a3 c0 c1 c2 c3 h9
      go_wp2_with fail
      refine (bool52 _ _).mono ?_
      rintro e w3 ⟨rfl, h3⟩
      have H3 := bt h3.out hb9
      have zb3 := Lib.hid (ZB.out.below H3)
      have hfz := fun o => zb3.out.frozen o
      have q0 := zb3.out.cell 0
      have q1 := zb3.out.cell 1
      have q2 := zb3.out.cell 2
      have q3 := zb3.out.cell 3
      have HB := Lib.hid (bt H3 BW.out)
      have hl2 := ZB.out.lt
      have hl3 := BW.out.size
      clear h2 h3 H3
      go_wp2
      refine bodyPost_ret (results_cv (s := 6) (k := 7) rfl rfl rfl (val_set zb3.out _ _ _ _)) rfl ⟨rfl, Lib.hid (by have hb := HB.out; go_grown)⟩

end Go.Proofs.YtbcmmecilheicaaGreatDoor
