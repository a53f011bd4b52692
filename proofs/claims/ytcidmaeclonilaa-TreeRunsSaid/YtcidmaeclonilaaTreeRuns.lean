/- The walk of barbicanlaw12.TreeRuns. -/
import Derived.Test.YtcidmaeclonilaaBeside
import Derived.Test.YtcidmaeclonilaaAsks
import Derived.Test.YtcidmaeclonilaaTreeShape
namespace Go.Proofs.Ytcidmaeclonilaa
open Go Go.RowKit

set_option maxRecDepth 100000 in
set_option maxHeartbeats 8000000 in
theorem treeRuns10 (w : World) (A : Option Addr) (n c : Nat) (acts : List (Int × ByteArray × ByteArray)) (hA : ArgA w A n acts) :
    Calls Try.prog 10 #[.slice A n c] w fun e w' => e = .returned (.bool true) ∧ Hid (Below w.heap.size w w') := by
  have hnew := Lib.hid (new_ownS w)
  have hsure := Lib.hid sure25
  have HA := Lib.hid hA
  clear hA
  go_enter Try.func10, Try.ntmps10
  go_wp2_with fail
  refine hnew.out.mono ?_
  rintro e w1 ⟨a, rfl, h1⟩
  clear hnew
  go_wp2_with fail
  go_loopg [4, 5] n (fun kx s4 s5 wr => ∃ (i : Nat) (l : List KV) (B : Option Addr) (m d : Nat), s4 = .slice B m d ∧ s5 = .int .i64 i ∧ kx + i = n ∧ i ≤ 300 ∧ Hid (TL w wr a l B m d l [] ∧ l.length ≤ i))
  case atStart => exact ⟨0, [], none, 0, 0, rfl, rfl, rfl, by omega, Lib.hid ⟨TL.start h1.out, Nat.le_refl _⟩⟩
  case round =>
    obtain ⟨i, l, B, m, d, rfl, rfl, hk, hi3, I⟩ := hrel
    clear h1
    by_cases hi : i < n ∧ i < 300
    · obtain ⟨hi1, hi30⟩ := hi
      have hiz : (i : Int) < (n : Int) := by omega
      have hi3z : (i : Int) < 300 := by omega
      obtain ⟨⟨k, z, v⟩, hact⟩ : ∃ x, acts[i]? = some x := ⟨_, List.getElem?_eq_getElem (by rw [HA.out.len]; exact hi1)⟩
      obtain ⟨ba, off, rfl, hb, e0, e1, e2⟩ := HA.out.at_ i k z v hact
      have d0 : wr.cell? ⟨ba, off + i * 3, none⟩ = some (.int .i64 k) := (I.out.1.world.cell (p := ⟨ba, off + i * 3, none⟩) hb).trans e0
      have d1 : wr.cell? ⟨ba, off + i * 3 + 1, none⟩ = some (.string z) := (I.out.1.world.cell (p := ⟨ba, off + i * 3 + 1, none⟩) hb).trans e1
      have d2 : wr.cell? ⟨ba, off + i * 3 + 2, none⟩ = some (.string v) := (I.out.1.world.cell (p := ⟨ba, off + i * 3 + 2, none⟩) hb).trans e2
      clear e0 e1 e2 hact
      have T0 := Lib.hid (I.out.1.box (w' := wr.alloc (.cells #[.int .i64 k, .string z, .string v] 71)) ((Below.refl _ wr).alloc (Nat.le_refl _) _) (by simp))
      have hbk := Lib.hid (show Blk (wr.alloc (.cells #[.int .i64 k, .string z, .string v] 71)) wr.heap.size 71 #[.int .i64 k, .string z, .string v] from Blk.new wr 71 _)
      have LN := Lib.hid I.out.2
      have SR := Lib.hid I.out.1.tree.srt
      have SV := Lib.hid I.out.1.tree.isV
      have ML := Lib.hid I.out.1.list.len
      clear I
      obtain ⟨zs, hzs⟩ := look_str SV.out z
      obtain ⟨rb, hrb⟩ : ∃ rb, rb = (look z l).isSome := ⟨_, rfl⟩
      have HZ := Lib.hid hzs
      have HB := Lib.hid hrb
      clear hzs hrb
      -- what the loop's end wants, wherever it comes from
      have kinds : (∃ ab : Bool, (wrap64 ((IntKind.u64.wrap k).tmod 4) == 0) = ab ∧ (ab = true ∨ (wrap64 ((IntKind.u64.wrap k).tmod 4) == 1) = true)) ∨ (wrap64 ((IntKind.u64.wrap k).tmod 4) == 2) = true ∨ ((wrap64 ((IntKind.u64.wrap k).tmod 4) == 0) = false ∧ (wrap64 ((IntKind.u64.wrap k).tmod 4) == 1) = false ∧ (wrap64 ((IntKind.u64.wrap k).tmod 4) == 2) = false) := by
        generalize wrap64 ((IntKind.u64.wrap k).tmod 4) = x
        cases h0 : (x == 0) with
        | true => exact .inl ⟨true, rfl, .inl rfl⟩
        | false =>
          cases h1 : (x == 1) with
          | true => exact .inl ⟨false, rfl, .inr rfl⟩
          | false =>
            cases h2 : (x == 2) with
            | true => exact .inr (.inl rfl)
            | false => exact .inr (.inr ⟨rfl, rfl, rfl⟩)
      rcases kinds with ⟨ab, hq0, hq1⟩ | hq | ⟨hq0, hq1, hq2⟩
      · -- Put
        have hc := (put_tl T0.out z v (by have := LN.out; omega))
        rw [HZ.out, ← HB.out] at hc
        have hrc := Lib.hid (fun (w3 : World) (l4 : List KV) (T : TL w w3 a l4 B m d l [wr.heap.size]) => by
          have h := rput_tl T (by have := ML.out; have := LN.out; omega) SR.out SV.out z v
          rw [HZ.out, ← HB.out] at h
          exact h)
        have HL := Lib.hid (show (ins z (Value.string v) l).length ≤ i + 1 by have := ins_len_le' (k := z) (v := Value.string v) SR.out; have := LN.out; omega)
        have HC := Lib.hid hc
        clear hc T0 ML LN SR SV HZ HB
        generalize ins z (Value.string v) l = l4 at *
        rcases hq1 with rfl | hq1
        all_goals
          try cases ab
        all_goals
          go_wp2_with fail
          refine HC.out.mono ?_
          clear HC
          rintro e w3 ⟨rfl, h3⟩
          have bk3 : Blk w3 wr.heap.size 71 #[.int .i64 k, .string z, .string v] := (h3.out.2 _ (by simp)).trans hbk.out
          have c1 := bk3.cell 1
          have c2 := bk3.cell 2
          have HR := Lib.hid (hrc.out w3 _ h3.out.1)
          have BK3 := Lib.hid bk3
          clear hrc h3 bk3 hbk
          simp only [List.getElem?_toArray, List.getElem?_cons_succ, List.getElem?_cons_zero] at c1 c2
          go_wp2_with fail
          refine HR.out.mono ?_
          clear HR
          rintro e w4 ⟨B4, m4, d4, rfl, h4⟩
          have bk4 : Blk w4 wr.heap.size 71 #[.int .i64 k, .string z, .string v] := (h4.out.2 _ (by simp)).trans BK3.out
          clear c1 c2 BK3
          have c1 := bk4.cell 1
          simp only [List.getElem?_toArray, List.getElem?_cons_succ, List.getElem?_cons_zero] at c1
          obtain rfl : l4.length = m4 := h4.out.1.list.len
          have hln := Lib.hid (len_ownS h4.out.1.tree)
          have hak := Lib.hid (asks48 w w4 a B4 l4.length d4 l4 z h4.out.1.tree h4.out.1.list.arg (by have := HL.out; omega))
          have T4 := Lib.hid (h4.out.1.less (Y := []) (fun k hk => by cases hk))
          clear h4 bk4
          have hzz : (zs.toList == zs.toList) = true := by simp
          have hbb : (rb == rb) = true := by simp
          go_wp2_with (first | (go_at_call 40; refine hln.out.mono ?_; rintro e w5 ⟨rfl, rfl⟩) | (go_at_call 48; refine hak.out.mono ?_; rintro e w5 ⟨rfl, h5⟩))
          go_roundg (gk - 1)
          case measure => omega
          case rel => exact ⟨i + 1, l4, B4, l4.length, d4, rfl, rfl, by omega, by omega, Lib.hid ⟨T4.out.below h5.out, HL.out⟩⟩
      · -- Drop
        have hc := (drop_tl T0.out z (by have := LN.out; omega))
        rw [HZ.out, ← HB.out] at hc
        have hrc := Lib.hid (fun (w3 : World) (l4 : List KV) (T : TL w w3 a l4 B m d l [wr.heap.size]) => by
          have h := rdrop_tl T (by have := ML.out; have := LN.out; omega) SR.out SV.out z
          rw [HZ.out, ← HB.out] at h
          exact h)
        have HL := Lib.hid (show (del z l).length ≤ i + 1 by have := del_len_le (k := z) (l := l); have := LN.out; omega)
        have HC := Lib.hid hc
        clear hc T0 ML LN SR SV HZ HB
        generalize del z l = l4 at *
        go_wp2_with fail
        refine HC.out.mono ?_
        clear HC
        rintro e w3 ⟨rfl, h3⟩
        have bk3 : Blk w3 wr.heap.size 71 #[.int .i64 k, .string z, .string v] := (h3.out.2 _ (by simp)).trans hbk.out
        have c1 := bk3.cell 1
        have HR := Lib.hid (hrc.out w3 _ h3.out.1)
        have BK3 := Lib.hid bk3
        clear hrc h3 bk3 hbk
        simp only [List.getElem?_toArray, List.getElem?_cons_succ, List.getElem?_cons_zero] at c1
        go_wp2_with fail
        refine HR.out.mono ?_
        clear HR
        rintro e w4 ⟨B4, m4, d4, rfl, h4⟩
        have bk4 : Blk w4 wr.heap.size 71 #[.int .i64 k, .string z, .string v] := (h4.out.2 _ (by simp)).trans BK3.out
        clear c1 BK3
        have c1 := bk4.cell 1
        simp only [List.getElem?_toArray, List.getElem?_cons_succ, List.getElem?_cons_zero] at c1
        obtain rfl : l4.length = m4 := h4.out.1.list.len
        have hln := Lib.hid (len_ownS h4.out.1.tree)
        have hak := Lib.hid (asks48 w w4 a B4 l4.length d4 l4 z h4.out.1.tree h4.out.1.list.arg (by have := HL.out; omega))
        have T4 := Lib.hid (h4.out.1.less (Y := []) (fun k hk => by cases hk))
        clear h4 bk4
        have hzz : (zs.toList == zs.toList) = true := by simp
        have hbb : (rb == rb) = true := by simp
        go_wp2_with (first | (go_at_call 40; refine hln.out.mono ?_; rintro e w5 ⟨rfl, rfl⟩) | (go_at_call 48; refine hak.out.mono ?_; rintro e w5 ⟨rfl, h5⟩))
        go_roundg (gk - 1)
        case measure => omega
        case rel => exact ⟨i + 1, l4, B4, l4.length, d4, rfl, rfl, by omega, by omega, Lib.hid ⟨T4.out.below h5.out, HL.out⟩⟩
      · -- neither
        have c1 := hbk.out.cell 1
        simp only [List.getElem?_toArray, List.getElem?_cons_succ, List.getElem?_cons_zero] at c1
        obtain rfl : l.length = m := ML.out
        have hln := Lib.hid (len_ownS T0.out.tree)
        have hak := Lib.hid (asks48 w _ a B l.length d l z T0.out.tree T0.out.list.arg (by have := LN.out; omega))
        have T4 := Lib.hid (T0.out.less (Y := []) (fun k hk => by cases hk))
        clear hbk T0 SR SV HZ HB
        go_wp2_with (first | (go_at_call 40; refine hln.out.mono ?_; rintro e w5 ⟨rfl, rfl⟩) | (go_at_call 48; refine hak.out.mono ?_; rintro e w5 ⟨rfl, h5⟩))
        go_roundg (gk - 1)
        case measure => omega
        case rel => exact ⟨i + 1, l, B, l.length, d, rfl, rfl, by omega, by omega, Lib.hid ⟨T4.out.below h5.out, by have := LN.out; omega⟩⟩
    · have hor : ¬ ((i : Int) < (n : Int)) ∨ ((i : Int) < (n : Int) ∧ ¬ ((i : Int) < 300)) := by omega
      have hl3 : l.length ≤ 300 := by have := I.out.2; omega
      have T := Lib.hid I.out.1
      obtain rfl : l.length = m := I.out.1.list.len
      clear I hi hk
      obtain ⟨wo, rfl⟩ : ∃ x, x = wr := ⟨_, rfl⟩
      rcases hor with hiz | ⟨hiz, hi3z⟩
      all_goals
        go_wp2_with fail
        go_loopg [11, 12] l.length (fun kx s11 s12 wx => ∃ (j ck : Nat) (K : Option Addr), s11 = .slice K j ck ∧ s12 = .int .i64 j ∧ kx + j = l.length ∧ Hid (KsIS wo wx l j K ck))
        case atStart => exact ⟨0, 0, none, rfl, rfl, rfl, Lib.hid ⟨Nat.zero_le _, by simpa using Row.nil wo 9, fun k hk => by simp at hk, Below.refl _ _⟩⟩
        case round =>
          obtain ⟨j, ck, K, rfl, rfl, hk, I⟩ := hrel
          by_cases hj : j < l.length
          · obtain ⟨p, hp⟩ : ∃ p, l[j]? = some p := ⟨_, List.getElem?_eq_getElem hj⟩
            obtain ⟨A', c', w2, hr, hnx⟩ := I.out.step (by omega) hp
            obtain ⟨g, rfl, hg, d0, -⟩ := (T.out.list.arg.below I.out.below).at_ j p hp
            have hjz : (j : Int) < (l.length : Int) := by omega
            have NX := Lib.hid hnx
            clear hnx hp
            generalize p.1 = x at *
            go_wp2_with (at_builtin; (refine wpList_append_runI _ rfl _ _ 37 37 rfl (.slice K j ck) (.slice (some ⟨wr.heap.size, 0, none⟩) 1 1) rfl rfl hr ?_))
            go_roundg (gk - 1)
            case measure => omega
            case rel => exact ⟨j + 1, c', A', rfl, rfl, by omega, Lib.hid (NX.out _ (Below.refl _ _))⟩
          · have hjz : ¬ ((j : Int) < (l.length : Int)) := by omega
            obtain rfl : j = l.length := by have := I.out.le; omega
            have T1 := Lib.hid (T.out.below I.out.below)
            have KR := Lib.hid (show Row wr 9 (.slice K l.length ck) ((l.map (·.1)).map Value.string) from by
              have := I.out.row
              rw [List.take_length] at this
              exact row_str2 this)
            have hf := Lib.hid (first_ownS T1.out.tree)
            clear I T
            go_wp2_with fail
            refine hf.out.mono ?_
            clear hf
            rintro e w3 ⟨fk, fv, fb, rfl, h3, h3b⟩
            have T2 := Lib.hid (T1.out.below h3b.out.1)
            have KR2 := Lib.hid (KR.out.kept fun k hk => h3b.out.1.block k (KR.out.lt k hk))
            have hla := Lib.hid (last_ownS T2.out.tree)
            clear h3b T1 KR
            go_wp2_with fail
            refine hla.out.mono ?_
            clear hla
            rintro e w4 ⟨gk', gv, gb, rfl, h4, h4b⟩
            have T3 := Lib.hid (T2.out.below h4b.out.1)
            have KR3 := Lib.hid (KR2.out.kept fun k hk => h4b.out.1.block k (KR2.out.lt k hk))
            clear h4b T2 KR2
            have hks := Lib.hid (keys_ownS T3.out.tree (by omega))
            cases l with
            | nil =>
              obtain rfl : (⟨#[]⟩ : ByteArray) = fk := h3.out.1
              obtain rfl : (⟨#[]⟩ : ByteArray) = fv := by have := h3.out.2.1; simpa [rvS] using this
              obtain rfl : false = fb := h3.out.2.2
              obtain rfl : (⟨#[]⟩ : ByteArray) = gk' := h4.out.1
              obtain rfl : (⟨#[]⟩ : ByteArray) = gv := by have := h4.out.2.1; simpa [rvS] using this
              obtain rfl : false = gb := h4.out.2.2
              clear h3 h4
              have hcat : (({ data := #[] } : ByteArray) ++ { data := #[] } ++ { data := #[] } ++ { data := #[] }).toList = [] := by decide +kernel
              have hsu := Lib.hid (fun w7 => hsure.out w7)
              have TW := Lib.hid T3.out.world
              clear hsure
              go_wp2_with (first | (go_at_call 27; refine hks.out.mono ?_; rintro e w7 ⟨A7, c7, rfl, h7, h7b⟩; have hs7 := hsu.out w7) | (go_at_call 25; refine hs7.mono ?_; rintro e w8 ⟨rfl, h8⟩))
              go_ret
              have B7 := h7b.out.2.world
              exact ⟨rfl, Lib.hid (B7.trans (h8.out.mono B7.size))⟩
            | cons p l =>
              obtain ⟨k1, v1⟩ := p
              obtain ⟨z1, hz1⟩ := T3.out.tree.isV (k1, v1) (by simp)
              obtain rfl : v1 = .string z1 := hz1
              obtain rfl : k1 = fk := h3.out.1
              obtain rfl : z1 = fv := by have := h3.out.2.1; simpa [rvS] using this
              obtain rfl : true = fb := h3.out.2.2
              obtain ⟨p2, hp2⟩ : ∃ p, ((k1, Value.string z1) :: l)[((k1, Value.string z1) :: l).length - 1]? = some p := ⟨_, List.getElem?_eq_getElem (by simp)⟩
              obtain ⟨k2, v2⟩ := p2
              have h4' := h4.out
              rw [hp2] at h4'
              obtain ⟨z2, hz2⟩ := T3.out.tree.isV (k2, v2) (List.mem_of_getElem? hp2)
              obtain rfl : v2 = .string z2 := hz2
              obtain rfl : k2 = gk' := h4'.1
              obtain rfl : z2 = gv := by have := h4'.2.1; simpa [rvS] using this
              obtain rfl : true = gb := h4'.2.2
              obtain ⟨bg, rfl, hbg, d0, d1⟩ := T3.out.list.arg.at_ 0 (k1, .string z1) rfl
              obtain ⟨bg', hbg', -, d2, d3⟩ := T3.out.list.arg.at_ _ _ hp2
              obtain rfl : bg = bg' := by simpa using hbg'
              simp only [List.length_cons] at *
              generalize l.length = N at *
              have HS := Lib.hid (And.intro hbg (And.intro d0 (And.intro d1 (And.intro d2 d3))))
              clear h3 h4 h4' hp2 hbg' d0 d1 d2 d3 hbg
              have hp1 := Lib.hid (fun w7 => pair49 w7 k1 z1 true)
              have hp2 := Lib.hid (fun w7 => pair49 w7 k2 z2 true)
              have hsu := Lib.hid (fun w7 => hsure.out w7)
              clear hsure
              go_wp2_with fail
              refine hks.out.mono ?_
              clear hks
              rintro e w7 ⟨A7, c7, rfl, h7, h7b⟩
              have ht := Lib.hid (texts43 w7 A7 K (N + 1) (N + 1) c7 ck _ _ (row_str2 h7.out) (KR3.out.kept fun k hk => h7b.out.1.block k (KR3.out.lt k hk)) (by omega))
              have B7 := Lib.hid h7b.out.1
              have W7 := Lib.hid h7b.out.2.world
              clear h7 h7b
              go_wp2_with fail
              refine ht.out.mono ?_
              clear ht
              rintro e w8 ⟨rfl, q, rfl⟩
              have B8 := Lib.hid (below_drewN' B7.out q)
              have W8 := Lib.hid (below_drewN' W7.out q)
              clear B7 W7
              have f0 : w7.cell? ⟨bg, 0, none⟩ = some (.string k1) := (B8.out.cell (p := ⟨bg, 0, none⟩) HS.out.1).trans HS.out.2.1
              have f1 : w7.cell? ⟨bg, 1, none⟩ = some (.string z1) := (B8.out.cell (p := ⟨bg, 1, none⟩) HS.out.1).trans HS.out.2.2.1
              have hdd : ∀ xs : List ByteArray, decide (xs = xs) = true := fun xs => by simp
              simp only [hdd]
              go_wp2_with fail
              refine (hp1.out _).mono ?_
              rintro e w9 ⟨rfl, h9⟩
              clear hp1
              have B9 := Lib.hid (B8.out.trans (h9.mono B8.out.size))
              have W9 := Lib.hid (W8.out.trans (h9.mono W8.out.size))
              clear h9 B8 W8 f0 f1
              have f2 : w9.cell? ⟨bg, N * 2, none⟩ = some (.string k2) := (B9.out.cell (p := ⟨bg, N * 2, none⟩) HS.out.1).trans HS.out.2.2.2.1
              have f3 : w9.cell? ⟨bg, N * 2 + 1, none⟩ = some (.string z2) := (B9.out.cell (p := ⟨bg, N * 2 + 1, none⟩) HS.out.1).trans HS.out.2.2.2.2
              go_wp2_with fail
              refine (hp2.out _).mono ?_
              rintro e w10 ⟨rfl, h10⟩
              clear hp2 f2 f3
              have W10 := Lib.hid (W9.out.trans (h10.mono W9.out.size))
              clear h10 B9 W9
              go_wp2_with fail
              refine (hsu.out _).mono ?_
              rintro e w11 ⟨rfl, h11⟩
              clear hsu
              go_wp2_with fail
              go_ret
              exact ⟨rfl, Lib.hid (W10.out.trans (h11.out.mono W10.out.size))⟩

end Go.Proofs.Ytcidmaeclonilaa
