/- InboxOwn returns true. -/
import Derived.Test.YtfaemjlemaclbaaGreatMIOwnG
import Derived.Test.YtfaemjlemaclbaaGreatMApartSess
import Derived.Test.YtfaemjlemaclbaaGreatMApartBytes
namespace Go.Proofs.YtfaemjlemaclbaaGreat
set_option linter.unusedVariables false
set_option linter.unusedSimpArgs false
open Go.RowKit Go.Maps
set_option maxHeartbeats 8000000 in
set_option maxRecDepth 100000 in
theorem iown_in (a b : Int) (v : Value) (ops : List OpI) (w : World) (hv : OpsRdI w v ops) :
    Calls Tryz.prog 7 #[.int .i64 a, .int .i64 b, v] w fun e w' => e = .returned (.bool true) ∧ Below w.heap.size w w' := by
  obtain ⟨ao, cap, rfl, hl, -⟩ := id hv
  have HV := Lib.hid hv
  clear hv
  obtain ⟨n, hn⟩ : ∃ n, n = ops.length := ⟨_, rfl⟩
  rw [← hn] at hl
  have HN := Lib.hid hn
  rw [← hn]
  clear hn
  go_enter Tryz.func7, Tryz.ntmps7
  go_wp2_with fail
  have c := within_any a 64 w (by decide) (by decide)
  change Calls Tryz.prog _ #[_, .int .i64 64] _ _ at c
  refine c.mono ?_
  clear c
  rintro e w1 ⟨k1, hk1, rfl, hw⟩
  rw [hw]
  clear hw w1
  go_wp2_with fail
  have c := within_any b 4096 w (by decide) (by decide)
  change Calls Tryz.prog _ #[_, .int .i64 4096] _ _ at c
  refine c.mono ?_
  clear c
  rintro e w1 ⟨k2, hk2, rfl, hw⟩
  rw [hw]
  clear hw w1
  obtain ⟨A, hA⟩ : ∃ A : Nat, A = 1 + k1 := ⟨_, rfl⟩
  obtain ⟨B, hB⟩ : ∃ B : Nat, B = 1 + k2 := ⟨_, rfl⟩
  have eA : (1 : Int) + (k1 : Int) = (A : Int) := by omega
  have eB : (1 : Int) + (k2 : Int) = (B : Int) := by omega
  have hok : newOk (A : Int) (B : Int) := ⟨by omega, by omega, by omega, by omega⟩
  clear hA hB
  go_wp2_with fail
  refine (both_yes A B w hok).mono ?_
  intro e w1 hpost
  obtain ⟨x, d, S, rfl, hD, hS, hB1⟩ := hpost
  have hG : OwnG w w1 0 x d S ⟨A, B, 0, [], []⟩ (.slice none 0 0) (.slice none 0 0) (.slice none 0 0) (.slice none 0 0) [] [] [] [] [] [] := OwnG.start ⟨hD, hB1, hS⟩
  have HG := Lib.hid hG
  obtain ⟨m, hm⟩ : ∃ m : IM, m = ⟨A, B, 0, [], []⟩ := ⟨_, rfl⟩
  rw [← hm] at HG
  clear hD hS hB1 hm hG eA eB hk1 hk2
  go_wp2_with fail
  refine (knows_any _).mono ?_
  rintro e w9 ⟨rfl, hB9⟩
  have HG' := Lib.hid (HG.out.later hB9)
  clear HG hB9
  go_wp2_with fail
  go_loopw [10, 11, 12, 13, 14] (fun bv tv gv lv i wr => ∃ (t k : Nat) (S : Nat → Prop) (m : IM) (bs gs ls : List Value) (Bt : List (List UInt8)) (Gs : List (List (Int × Int))) (Ls : List (List Sess)), t ≤ n ∧ k ≤ 2 * t ∧ Bt.length ≤ 2 * t ∧ Gs.length ≤ 2 * t ∧ Ls.length ≤ 3 * t ∧ i = .int .i64 (t : Int) ∧
    Hid (OwnG w wr k x d S m bv tv gv lv bs gs ls Bt Gs Ls)) (fun _ _ _ _ i _ => n - (intOf i).toNat)
  case atStart => exact ⟨0, 0, S, m, [], [], [], [], [], [], Nat.zero_le _, Nat.le_refl _, Nat.le_refl _, Nat.le_refl _, Nat.le_refl _, rfl, HG'⟩
  case round =>
    clear HG'
    obtain ⟨t, k, S, m, bs, gs, ls, Bt, Gs, Ls, ht, hk, hb2, hg2, hl3, rfl, HG⟩ := hrel
    by_cases hlt : t < n
    · obtain ⟨o, ho⟩ : ∃ o, ops[t]? = some o := ⟨_, List.getElem?_eq_getElem (by rw [← HN.out]; exact hlt)⟩
      obtain ⟨bb, off, dv, gv, rfl, hu, f1, f2, hcell⟩ := HV.out.at HG.out.go.below ho rfl
      obtain ⟨bav, bcap, rfl, -⟩ := own_open HG.out.byt.lg.own
      obtain ⟨tav, tcap, rfl, -⟩ := own_open HG.out.txt.own
      obtain ⟨gav, gcap, rfl, -⟩ := own_open HG.out.got.lg.own
      obtain ⟨lav, lcap, rfl, -⟩ := own_open HG.out.lst.lg.own
      have HU := Lib.hid hu
      have cpl := HG.out.plays o hu f1 f2 (by omega)
      have HPL := Lib.hid cpl
      clear cpl
      by_cases k1 : o.kind = 1
      · obtain ⟨okind, ⟨ukind, uep, uses, path, idx, cnt, data, ucode, got⟩, oep, onum, ocode⟩ := o
        obtain rfl : okind = 1 := k1
        have e0 := hcell 0 _ rfl
        rw [← Nat.add_assoc] at e0
        simp only [Nat.add_zero] at e0
        have ix : (t : Int) < (n : Int) := by omega
        have HOP := Lib.hid ho
        have HF1 := Lib.hid f1
        have hdv := hu.dat
        have hgv := hu.got
        simp only at hdv hgv
        obtain ⟨dp, dc, rfl, -⟩ := id hdv
        obtain ⟨gp, gc, rfl, -⟩ := id hgv
        have HG0 := Lib.hid HG.out
        clear hu f1 f2 hcell hdv hgv ho HPL HG
        go_wp2_with fail
        go_loopw [10, 11, 12, 15, 16, 17] (fun bv' tv' gv' kv _ _ wq => ∃ (j k2 : Nat) (S2 : Nat → Prop) (m2 : IM) (bs2 gs2 : List Value) (Bt2 : List (List UInt8)) (Gs2 : List (List (Int × Int))), j ≤ 2 ∧ k2 ≤ k + j ∧ Bt2.length ≤ Bt.length + j ∧ Gs2.length ≤ Gs.length + j ∧ kv = .int .i64 (j : Int) ∧
          Hid (OwnG w wq k2 x d S2 m2 bv' tv' gv' (.slice lav ls.length lcap) bs2 gs2 ls Bt2 Gs2 Ls)) (fun _ _ _ kv _ _ _ => 2 - (intOf kv).toNat)
        case atStart => exact ⟨0, k, S, m, bs, gs, Bt, Gs, by omega, Nat.le_refl _, Nat.le_refl _, Nat.le_refl _, rfl, HG0⟩
        case round =>
          clear HG0
          obtain ⟨j, k2, S2, m2, bs2, gs2, Bt2, Gs2, hj, hk2, hbt2, hgt2, rfl, HG⟩ := hrel
          obtain ⟨bav2, bcap2, rfl, -⟩ := own_open HG.out.byt.lg.own
          obtain ⟨tav2, tcap2, rfl, -⟩ := own_open HG.out.txt.own
          obtain ⟨gav2, gcap2, rfl, -⟩ := own_open HG.out.got.lg.own
          by_cases hlj : j < 2
          · obtain ⟨bb', off', dv, gv, hbb, hu, f1, f2, hcell⟩ := HV.out.at HG.out.go.below HOP.out rfl
            injection hbb with hbb
            injection hbb with e1 e2
            subst e1
            subst e2
            have hdv := hu.dat
            have hgv := hu.got
            simp only at hdv hgv f1
            obtain ⟨dp, dc, rfl, -⟩ := id hdv
            obtain ⟨gp, gc, rfl, -⟩ := id hgv
            have e1 := hcell 1 _ rfl
            rw [← Nat.add_assoc] at e1
            have e2 := hcell 2 _ rfl
            rw [← Nat.add_assoc] at e2
            have e3 := hcell 3 _ rfl
            rw [← Nat.add_assoc] at e3
            have e4 := hcell 4 _ rfl
            rw [← Nat.add_assoc] at e4
            have e5 := hcell 5 _ rfl
            rw [← Nat.add_assoc] at e5
            have e6 := hcell 6 _ rfl
            rw [← Nat.add_assoc] at e6
            have e7 := hcell 7 _ rfl
            rw [← Nat.add_assoc] at e7
            have e8 := hcell 8 _ rfl
            rw [← Nat.add_assoc] at e8
            have e9 := hcell 9 _ rfl
            rw [← Nat.add_assoc] at e9
            simp only at e1 e2 e3 e4 e5 e6 e8
            have hbb : bb < w.heap.size := by
              obtain ⟨b', o', dv', gv', hb', -, -, -, hc'⟩ := HV.out.at (Below.refl _ _) HOP.out rfl
              injection hb' with hb'
              injection hb' with e1 e2
              subst e1
              exact World.block_lt_of_cell? _ _ (hc' 0 _ rfl)
            obtain ⟨U, hU⟩ : ∃ U : UD, U = ⟨ukind, uep, uses, path, idx, cnt, data, ucode, got⟩ := ⟨_, rfl⟩
            obtain ⟨ans, hans⟩ : ∃ a, a = (m2.take U).2 := ⟨_, rfl⟩
            obtain ⟨m3, hm3⟩ : ∃ a, a = (m2.take U).1 := ⟨_, rfl⟩
            have hinv := HG.out.go.duo.inv
            have hlens := ans_lens hinv U
            have hfar : data ≠ [] → ∀ b, (Value.slice dp data.length dc).ownBlock = some b → b < w.heap.size := f1
            have c1 := duo_take1 HG.out.go.duo U dp gp dc gc (by rw [hU]; exact hdv) (fun hn b e hs => by
              rw [hU] at hn e
              have h1 := hfar hn b e
              have h2 := HG.out.go.new b hs
              omega) (by have := HN.out; omega)
            have c2 := fun (w2 : World) (Si Sr : Nat → Prop) (h : MidD wr w2 x d (k2 + 1) S2 m2 (m2.take U).1 Si Sr) => duo_take2 (u := U) h hinv dp gp dc gc (by
              rw [hU]
              refine bs_same hdv h.same (fun hne b e hs => ?_)
              have h1 := hfar hne b e
              have h2 := HG.out.go.new b hs
              omega) (fun hn b e => by
              rw [hU] at hn e
              have h1 := hfar hn b e
              refine ⟨Nat.lt_of_lt_of_le h1 (Nat.le_trans HG.out.go.below.size h.same.size), fun hs => ?_⟩
              have h2 := HG.out.go.new b hs
              omega)
            rw [← hans, ← hm3] at c1
            rw [← hans] at hlens
            simp only [← hans, ← hm3] at c2
            rw [hU] at c1 c2
            simp only [uv] at c1 c2
            have HC1 := Lib.hid c1; have HC2 := Lib.hid c2; have HLN := Lib.hid hlens; have HFAR := Lib.hid hfar; have HDV := Lib.hid hdv
            have ixj : (j : Int) < (2 : Int) := by omega
            clear c1 c2 hlens hfar hdv hgv hU hans hm3 hinv hu f1 f2 hcell
            go_wp2_with fail
            refine HC1.out.mono ?_
            rintro e w2 ⟨gv1, bv1, Si, Sr, rfl, hg1, hb1, mid, hno⟩
            obtain ⟨ga, gacap, rfl, -⟩ := own_open hg1
            obtain ⟨ba, bacap, rfl, -⟩ := own_open hb1
            obtain ⟨W3, hW3⟩ : ∃ W3, W3 = w2.alloc (.cells #[.int .i64 ans.st, .int .i64 ans.code, .slice ga ans.got.length gacap, .slice ba ans.blk.length bacap] 45) := ⟨_, rfl⟩
            have hB3 : Below w2.heap.size w2 W3 := hW3 ▸ (Below.refl _ _).alloc (Nat.le_refl _) _
            have hA3 : Blk W3 w2.heap.size 45 [.int .i64 ans.st, .int .i64 ans.code, .slice ga ans.got.length gacap, .slice ba ans.blk.length bacap] := hW3 ▸ Blk.new w2 _ _
            have hm3' := mid.later hB3
            have hz2 : wr.heap.size ≤ w2.heap.size := mid.same.size
            have hz3 : w2.heap.size < W3.heap.size := hA3.lt
            have hBr : Below w.heap.size wr W3 := (mid.same.belowB fun i hi => ⟨Nat.lt_of_lt_of_le hi HG.out.go.below.size, fun hs => by have := HG.out.go.new i hs; omega⟩).trans (hB3.mono (Nat.le_trans HG.out.go.below.size hz2))
            have f1 := below_cell hBr e1 hbb
            have f2 := below_cell hBr e2 hbb
            have f3 := below_cell hBr e3 hbb
            have f4 := below_cell hBr e4 hbb
            have f5 := below_cell hBr e5 hbb
            have f6 := below_cell hBr e6 hbb
            have f7 := below_cell hBr e7 hbb
            have f8 := below_cell hBr e8 hbb
            have f9 := below_cell hBr e9 hbb
            rw [hW3] at f1 f2 f3 f4 f5 f6 f7 f8 f9
            have HMID := Lib.hid (mid.later hB3)
            have HA3 := Lib.hid hA3; have HHG1 := Lib.hid hg1; have HHB1 := Lib.hid hb1; have HNO := Lib.hid hno; have HB3 := Lib.hid hB3; have HSM := Lib.hid mid.same
            have c2 := HC2.out _ _ _ (mid.later hB3)
            have HC3 := Lib.hid c2
            clear hBr mid hA3 hg1 hb1 hno hB3 c2 e1 e2 e3 e4 e5 e6 e7 e8 e9 HC1
            go_wp2_with fail
            rw [← hW3]
            refine HC3.out.mono ?_
            rintro e w4 ⟨gv2, bv2, S4, rfl, rg2, rob, duo4, turn4, same4, foot4⟩
            obtain ⟨gb, gbcap, rfl, -⟩ := id rg2
            obtain ⟨bb2, bbcap, rfl, -⟩ := own_open rob
            have rb2 := Rd.of_own rob
            obtain ⟨W5, hW5⟩ : ∃ W5, W5 = w4.alloc (.cells #[.int .i64 ans.st, .int .i64 ans.code, .slice gb ans.got.length gbcap, .slice bb2 ans.blk.length bbcap] 47) := ⟨_, rfl⟩
            have hB5 : Below w4.heap.size w4 W5 := hW5 ▸ (Below.refl _ _).alloc (Nat.le_refl _) _
            have hA5 : Blk W5 w4.heap.size 47 [.int .i64 ans.st, .int .i64 ans.code, .slice gb ans.got.length gbcap, .slice bb2 ans.blk.length bbcap] := hW5 ▸ Blk.new w4 _ _
            have ha5 : Blk W5 w2.heap.size 45 [.int .i64 ans.st, .int .i64 ans.code, .slice ga ans.got.length gacap, .slice ba ans.blk.length bacap] := (HA3.out.same same4 (fun hs => by have := HG.out.go.duo.lt hs; omega)).later hB5
            have q0 := ha5.cell_some (i := 0) rfl
            have q1 := ha5.cell_some (i := 1) rfl
            have q2 := ha5.cell_some (i := 2) rfl
            have q3 := ha5.cell_some (i := 3) rfl
            have p0 := hA5.cell_some (i := 0) rfl
            have p1 := hA5.cell_some (i := 1) rfl
            have p2 := hA5.cell_some (i := 2) rfl
            have p3 := hA5.cell_some (i := 3) rfl
            rw [hW5] at q0 q1 q2 q3 p0 p1 p2 p3
            have hga4 := own_same HHG1.out (Same.of_below HB3.out no) (fun _ _ h => h)
            have hba4 := own_same HHB1.out (Same.of_below HB3.out no) (fun _ _ h => h)
            have hS2w : ∀ b, S2 b → b < wr.heap.size := fun b hb => HG.out.go.duo.lt hb
            have hga4 := own_same hga4 same4 (fun b e hs => by have h1 := (hga4.lt b e).1; have h2 := hS2w b hs; omega)
            have hba4 := own_same hba4 same4 (fun b e hs => by have h1 := (hba4.lt b e).1; have h2 := hS2w b hs; omega)
            have hnoa : ∀ b, (Value.slice ga ans.got.length gacap).ownBlock = some b → ¬ S4 b := fun b e hs => by
              have h1 := HHG1.out.lt b e
              rcases foot4 b hs with q | q | q
              · exact HNO.out b (.inl e) q
              · have := hS2w b q; omega
              · have := HB3.out.size; omega
            have hnob : ∀ b, (Value.slice ba ans.blk.length bacap).ownBlock = some b → ¬ S4 b := fun b e hs => by
              have h1 := HHB1.out.lt b e
              rcases foot4 b hs with q | q | q
              · exact HNO.out b (.inr e) q
              · have := hS2w b q; omega
              · have := HB3.out.size; omega
            have HG4 := Lib.hid (HG.out.turn (HG.out.go.turn duo4 turn4) turn4)
            have HNA := Lib.hid hnoa; have HNB := Lib.hid hnob
            have hal := ialike_yes ans.st ans.code (.slice ga ans.got.length gacap) (.slice gb ans.got.length gbcap) (.slice ba ans.blk.length bacap) (.slice bb2 ans.blk.length bbcap) ans.got ans.blk W5 (Rgs.of_own (own_later hga4 hB5)) (rg2.later hB5) (by have := HLN.out.1; omega) (Rd.of_own (own_later hba4 hB5)) (Rd.later rb2 hB5)
            have HAL := Lib.hid hal
            have HGA := Lib.hid (own_later hga4 hB5); have HBA := Lib.hid (own_later hba4 hB5); have HBB := Lib.hid (own_later rob hB5); have HA5 := Lib.hid hA5; have Ha5 := Lib.hid ha5; have HB5 := Lib.hid hB5; have HZ4 := Lib.hid same4.size
            clear hga4 hba4 hS2w hnoa hnob hal hA5 ha5 hB5 rg2 rb2 rob duo4 turn4 same4 foot4 f1 f2 f3 f4 f5 f6 f7 f8 f9 HC3 HC2
            go_wp2_with fail
            rw [← hW5]
            refine HAL.out.mono ?_
            rintro e w6 ⟨rfl, hB6⟩
            have ha6 := Ha5.out.later hB6
            have hA6 := HA5.out.later hB6
            have q2 := ha6.cell_some (i := 2) rfl
            have q3 := ha6.cell_some (i := 3) rfl
            have p3 := hA6.cell_some (i := 3) rfl
            have HM6 := Lib.hid ((HG4.out.later (below_trans HB5.out hB6)).mid)
            have HGA6 := Lib.hid (own_later HGA.out hB6); have HBA6 := Lib.hid (own_later HBA.out hB6); have HBB6 := Lib.hid (own_later HBB.out hB6)
            have Ha6 := Lib.hid ha6; have HA6 := Lib.hid hA6
            have hz6 : wr.heap.size ≤ w6.heap.size := by have h1 := HZ4.out; have h2 := HB5.out.size; have h3 := hB6.size; omega
            have hbase : w.heap.size ≤ wr.heap.size := HG.out.go.below.size
            clear ha6 hA6 hB6 HAL p0 p1 p2 q0 q1 HGA HBA HBB HA5 Ha5 hW3 hW5
            have hbl : bs2.length = Bt2.length := by have := HG.out.byt.lg.len; rwa [List.length_map] at this
            have hgl : gs2.length = Gs2.length := by have := HG.out.got.lg.len; rwa [List.length_map] at this
            have hb24 : (bs2.length + 1) * 24 ≤ 140737488355328 := by omega
            have ht16 : (Bt2.length + 1) * 16 ≤ 140737488355328 := by omega
            have hg24 : (gs2.length + 1) * 24 ≤ 140737488355328 := by omega
            have HBL := Lib.hid hbl; have HGL := Lib.hid hgl
            clear hbl hgl
            have HZ6 := Lib.hid hz6
            go_wp2_with (first
              | (at_builtin; (refine wpList_app1 El.bytes rfl (.tmp 78) (.tmp 81) rfl HM6.out.byt.lg.own rfl (cs := #[.slice ba ans.blk.length bacap]) rfl rfl (by simp [Value.oneCell']) hb24 (Nat.le_trans hbase hz6) ?_); intro v7 w7 hown7 hgr7 hN7; go_loud (
                  have hm7 := HM6.out.byt1 (b1 := wr.heap.size) HBA6.out (fun b hb => (HG.out.byt.lg.foot_lt b hb).2) hbase (fun b hb e => HNB.out b e hb) HLN.out.2 hown7 hgr7 hN7
                  have ha7 := Ha6.out.grown hgr7 (own_blk_ne HM6.out.byt.lg.own Ha6.out (by decide))
                  have hA7 := HA6.out.grown hgr7 (own_blk_ne HM6.out.byt.lg.own HA6.out (by decide))
                  have hga7 := own_same HGA6.out (Same.of_grown hgr7) (fun b e e' => by
                    rcases own_ne HGA6.out HM6.out.byt.lg.own (by decide) with q | q
                    · rw [q] at e; cases e
                    · exact q (e.trans e'))
                  have hbb7 := own_same HBB6.out (Same.of_grown hgr7) (fun b e e' => by
                    rcases own_ne HBB6.out HM6.out.byt.lg.own (by decide) with q | q
                    · rw [q] at e; cases e
                    · exact q (e.trans e'))
                  have hz7 := hgr7.size
                  have hz7' : w.heap.size ≤ w7.heap.size := Nat.le_trans hbase (Nat.le_trans hz6 hz7)
                  obtain ⟨av7, ac7, hav7, -⟩ := own_open hown7
                  subst hav7
                  have cv7 := run_str8 (W := w7) (Rd.of_own hbb7) rfl
                  have q2 := ha7.cell_some (i := 2) rfl
                  have p3 := hA7.cell_some (i := 3) rfl); have HM7 := Lib.hid hm7; have Ha7 := Lib.hid ha7; have HGA7 := Lib.hid hga7; clear hown7 hgr7 hN7 hm7 ha7 hA7 hga7 hbb7)
              | (at_builtin; (refine wpList_app1 El.txts rfl (.tmp 83) (.tmp 87) rfl HM7.out.txt.own rfl (cs := #[.string (str ans.blk)]) rfl rfl (by simp [Value.oneCell']) ht16 hz7' ?_); intro v8 w8 hown8 hgr8 hN8; go_loud (
                  have hm8 := HM7.out.txt1 hown8 hgr8 hN8
                  have ha8 := Ha7.out.grown hgr8 (own_blk_ne HM7.out.txt.own Ha7.out (by decide))
                  have hga8 := own_same HGA7.out (Same.of_grown hgr8) (fun b e e' => by
                    rcases own_ne HGA7.out HM7.out.txt.own (by decide) with q | q
                    · rw [q] at e; cases e
                    · exact q (e.trans e'))
                  have hz8 := hgr8.size
                  have hz8' : w.heap.size ≤ w8.heap.size := Nat.le_trans hz7' hz8
                  obtain ⟨av8, ac8, hav8, -⟩ := own_open hown8
                  subst hav8
                  have q2 := ha8.cell_some (i := 2) rfl); have HM8 := Lib.hid hm8; have HGA8 := Lib.hid hga8; clear hown8 hgr8 hN8 hm8 ha8 hga8 cv7)
              | (at_builtin; (refine wpList_app1 El.ranges rfl (.tmp 89) (.tmp 92) rfl HM8.out.got.lg.own rfl (cs := #[.slice ga ans.got.length gacap]) rfl rfl (by simp [Value.oneCell']) hg24 hz8' ?_); intro v9 w9 hown9 hgr9 hN9; go_loud (
                  have hm9 := HM8.out.got1 (b1 := wr.heap.size) HGA8.out (fun b hb => (HG.out.got.lg.foot_lt b hb).2) hbase (fun b hb e => HNA.out b e hb) HLN.out.1 hown9 hgr9 hN9); have HM9 := Lib.hid hm9.fin; clear hown9 hgr9 hN9 hm9)
              | fail)
            go_roundw
            case rel => exact ⟨j + 1, k2 + 1, S4, m3, _, _, _, _, by omega, by omega, by rw [List.length_append]; simp; omega, by rw [List.length_append]; simp; omega, by go_num, HM9⟩
            case measure => simp [intOf]; omega
          · obtain rfl : j = 2 := by omega
            have HG2 := Lib.hid HG.out
            clear HG
            obtain ⟨Si, Sr, hin, -, -, -⟩ := id HG2.out.go.duo
            have HIN := Lib.hid hin
            clear hin e0
            go_wp2_with fail
            refine (in_open HIN.out).mono ?_
            rintro e w3 ⟨v1, rfl, ho1, hB3⟩
            obtain ⟨a1, c1, rfl, -⟩ := own_open ho1
            have HO1 := Lib.hid ho1; have HB3 := Lib.hid hB3; have HIN3 := Lib.hid (HIN.out.later hB3)
            clear ho1 hB3
            go_wp2_with fail
            refine (in_decided HIN3.out).mono ?_
            rintro e w4 ⟨v2, rfl, ho2, hB4⟩
            obtain ⟨a2, c2, rfl, -⟩ := own_open ho2
            have HO2 := Lib.hid ho2; have HB4 := Lib.hid hB4; have HIN4 := Lib.hid (HIN3.out.later hB4)
            clear ho2 hB4
            go_wp2_with fail
            refine (in_open HIN4.out).mono ?_
            rintro e w5 ⟨v3, rfl, ho3, hB5⟩
            obtain ⟨a3, c3, rfl, -⟩ := own_open ho3
            have HO3 := Lib.hid ho3; have HB5 := Lib.hid hB5
            clear ho3 hB5
            have hB25 : Below wr.heap.size wr w5 := below_trans (below_trans HB3.out HB4.out) HB5.out
            obtain ⟨W6, hW6⟩ : ∃ W6, W6 = w5.alloc (.cells #[.slice a1 m2.O.length c1, .slice a2 m2.C.length c2, .slice a3 m2.O.length c3] 50) := ⟨_, rfl⟩
            have hB6 : Below w5.heap.size w5 W6 := hW6 ▸ (Below.refl _ _).alloc (Nat.le_refl _) _
            have hR6 := Rd.new w5 50 [.slice a1 m2.O.length c1, .slice a2 m2.C.length c2, .slice a3 m2.O.length c3] 3 (by simp [maxLen])
            rw [show ([.slice a1 m2.O.length c1, .slice a2 m2.C.length c2, .slice a3 m2.O.length c3] : List Value).toArray = #[.slice a1 m2.O.length c1, .slice a2 m2.C.length c2, .slice a3 m2.O.length c3] from rfl, ← hW6] at hR6
            have HB26 := Lib.hid (below_trans hB25 hB6); have HB56 := Lib.hid hB6; have HR6 := Lib.hid hR6; have HW6 := Lib.hid hW6
            have hbase : w.heap.size ≤ W6.heap.size := Nat.le_trans HG2.out.go.below.size (Nat.le_trans hB25.size hB6.size)
            have hll : ls.length = Ls.length := by have := HG2.out.lst.lg.len; rwa [List.length_map] at this
            have hbnd : (ls.length + 3) * 24 ≤ 140737488355328 := by omega
            have hc1 : m2.O.length ≤ 4097 := by have h1 := HIN.out.inv.lo; have h2 := HIN.out.inv.mo2; omega
            have hc2 : m2.C.length ≤ 4097 := by have h1 := HIN.out.inv.lc; have h2 := HIN.out.inv.ms2; omega
            have HC1 := Lib.hid hc1; have HC2 := Lib.hid hc2; have HLLN := Lib.hid hll
            clear hB25 hB6 hR6 hW6 hc1 hc2 hll
            have p1 : W6.ownsRow wr.heap.size 66 2 (.slice a1 m2.O.length c1) (m2.O.map (·.1)).length ((m2.O.map (·.1)).flatMap sc) := by rw [List.length_map]; exact own_later (own_later (own_later HO1.out HB4.out) HB5.out) HB56.out
            have p2 : W6.ownsRow w3.heap.size 66 2 (.slice a2 m2.C.length c2) (m2.C.map (·.1)).length ((m2.C.map (·.1)).flatMap sc) := by rw [List.length_map]; exact own_later (own_later HO2.out HB5.out) HB56.out
            have p3 : W6.ownsRow w4.heap.size 66 2 (.slice a3 m2.O.length c3) (m2.O.map (·.1)).length ((m2.O.map (·.1)).flatMap sc) := by rw [List.length_map]; exact own_later HO3.out HB56.out
            have q1 : (m2.O.map (·.1)).length ≤ 4097 := by rw [List.length_map]; exact HC1.out
            have q2 : (m2.C.map (·.1)).length ≤ 4097 := by rw [List.length_map]; exact HC2.out
            have l3 := fun (lv' : Value) (w7 : World) => HG2.out.lst3 (b1 := 0) (lv' := lv') (w7 := w7) HB26.out p1 p2 p3 HB3.out.size HB4.out.size (fun b hb => (HO1.out.lt b hb).2) (fun b hb => (HO2.out.lt b hb).2) q1 q2 q1
            have L3 := Lib.hid l3
            clear p1 p2 p3 q1 q2 l3
            go_wp2_with (at_builtin; rw [← HW6.out]; go_loud (refine wpList_app El.sesss rfl (.tmp 102) (.tmp 109) rfl (own_later HG2.out.lst.lg.own HB26.out) rfl HR6.out rfl rfl (by intro x hx; simp at hx; rcases hx with rfl | rfl | rfl <;> rfl) hbnd hbase ?_); intro v7 w7 hown7 hgr7 hN7; go_loud (have h7 := L3.out v7 w7 hown7 hgr7 hN7); have H7 := Lib.hid h7; clear hown7 hgr7 hN7 h7)
            go_roundw
            case rel => exact ⟨t + 1, k2, S2, m2, bs2, gs2, _, Bt2, Gs2, _, by omega, by omega, by omega, by omega, by rw [List.length_append]; simp; omega, by go_num, H7⟩
            case measure => simp [intOf]; omega
      · obtain ⟨okind, ⟨ukind, uep, uses, path, idx, cnt, data, ucode, got⟩, oep, onum, ocode⟩ := o
        have c := HPL.out
        simp only [opv] at c
        have kb : (okind == 1) = false := by simpa using k1
        have e0 := hcell 0 _ rfl
        rw [← Nat.add_assoc] at e0
        have e1 := hcell 1 _ rfl
        rw [← Nat.add_assoc] at e1
        have e2 := hcell 2 _ rfl
        rw [← Nat.add_assoc] at e2
        have e3 := hcell 3 _ rfl
        rw [← Nat.add_assoc] at e3
        have e4 := hcell 4 _ rfl
        rw [← Nat.add_assoc] at e4
        have e5 := hcell 5 _ rfl
        rw [← Nat.add_assoc] at e5
        have e6 := hcell 6 _ rfl
        rw [← Nat.add_assoc] at e6
        have e7 := hcell 7 _ rfl
        rw [← Nat.add_assoc] at e7
        have e8 := hcell 8 _ rfl
        rw [← Nat.add_assoc] at e8
        have e9 := hcell 9 _ rfl
        rw [← Nat.add_assoc] at e9
        have e10 := hcell 10 _ rfl
        rw [← Nat.add_assoc] at e10
        have e11 := hcell 11 _ rfl
        rw [← Nat.add_assoc] at e11
        have e12 := hcell 12 _ rfl
        rw [← Nat.add_assoc] at e12
        simp only [Nat.add_zero] at e0
        simp only at e1 e2 e3 e4 e5 e6 e8 e10 e11 e12
        have hdv := hu.dat
        have hgv := hu.got
        simp only at hdv hgv
        obtain ⟨dp, dc, rfl, -⟩ := id hdv
        obtain ⟨gp, gc, rfl, -⟩ := id hgv
        have HC := Lib.hid c
        have HGB := Lib.hid HG.out.go.below
        have ix : (t : Int) < (n : Int) := by omega
        have HOP := Lib.hid ho
        clear c hu f1 f2 hcell hdv hgv ho

        clear HPL
        go_wp2_with fail
        refine HC.out.mono ?_
        rintro e w2 ⟨rfl, S2, h2⟩
        obtain ⟨m2, hm2⟩ : ∃ m2, m2 = m.play ⟨okind, ⟨ukind, uep, uses, path, idx, cnt, data, ucode, got⟩, oep, onum, ocode⟩ := ⟨_, rfl⟩
        rw [← hm2] at h2
        obtain ⟨Si, Sr, hin, -, -, -⟩ := id h2.go.duo
        have HIN := Lib.hid hin
        have HG2 := Lib.hid h2
        clear h2 hm2 hin HC e0 e1 e2 e3 e4 e5 e6 e7 e8 e9 e10 e11 e12
        go_wp2_with fail
        refine (in_open HIN.out).mono ?_
        rintro e w3 ⟨v1, rfl, ho1, hB3⟩
        obtain ⟨a1, c1, rfl, -⟩ := own_open ho1
        have HO1 := Lib.hid ho1; have HB3 := Lib.hid hB3; have HIN3 := Lib.hid (HIN.out.later hB3)
        clear ho1 hB3
        go_wp2_with fail
        refine (in_decided HIN3.out).mono ?_
        rintro e w4 ⟨v2, rfl, ho2, hB4⟩
        obtain ⟨a2, c2, rfl, -⟩ := own_open ho2
        have HO2 := Lib.hid ho2; have HB4 := Lib.hid hB4; have HIN4 := Lib.hid (HIN3.out.later hB4)
        clear ho2 hB4
        go_wp2_with fail
        refine (in_open HIN4.out).mono ?_
        rintro e w5 ⟨v3, rfl, ho3, hB5⟩
        obtain ⟨a3, c3, rfl, -⟩ := own_open ho3
        have HO3 := Lib.hid ho3; have HB5 := Lib.hid hB5
        clear ho3 hB5
        have hB25 : Below w2.heap.size w2 w5 := below_trans (below_trans HB3.out HB4.out) HB5.out
        obtain ⟨W6, hW6⟩ : ∃ W6, W6 = w5.alloc (.cells #[.slice a1 m2.O.length c1, .slice a2 m2.C.length c2, .slice a3 m2.O.length c3] 50) := ⟨_, rfl⟩
        have hB6 : Below w5.heap.size w5 W6 := hW6 ▸ (Below.refl _ _).alloc (Nat.le_refl _) _
        have hR6 := Rd.new w5 50 [.slice a1 m2.O.length c1, .slice a2 m2.C.length c2, .slice a3 m2.O.length c3] 3 (by simp [maxLen])
        rw [show ([.slice a1 m2.O.length c1, .slice a2 m2.C.length c2, .slice a3 m2.O.length c3] : List Value).toArray = #[.slice a1 m2.O.length c1, .slice a2 m2.C.length c2, .slice a3 m2.O.length c3] from rfl, ← hW6] at hR6
        have HB26 := Lib.hid (below_trans hB25 hB6); have HB56 := Lib.hid hB6; have HR6 := Lib.hid hR6; have HW6 := Lib.hid hW6
        have hbase : w.heap.size ≤ W6.heap.size := Nat.le_trans HG2.out.go.below.size (Nat.le_trans hB25.size hB6.size)
        have hll : ls.length = Ls.length := by have := HG2.out.lst.lg.len; rwa [List.length_map] at this
        have hbnd : (ls.length + 3) * 24 ≤ 140737488355328 := by omega
        have hc1 : m2.O.length ≤ 4097 := by have h1 := HIN.out.inv.lo; have h2 := HIN.out.inv.mo2; omega
        have hc2 : m2.C.length ≤ 4097 := by have h1 := HIN.out.inv.lc; have h2 := HIN.out.inv.ms2; omega
        have HC1 := Lib.hid hc1; have HC2 := Lib.hid hc2; have HLLN := Lib.hid hll
        clear hB25 hB6 hR6 hW6 hc1 hc2 hll
        have p1 : W6.ownsRow w2.heap.size 66 2 (.slice a1 m2.O.length c1) (m2.O.map (·.1)).length ((m2.O.map (·.1)).flatMap sc) := by rw [List.length_map]; exact own_later (own_later (own_later HO1.out HB4.out) HB5.out) HB56.out
        have p2 : W6.ownsRow w3.heap.size 66 2 (.slice a2 m2.C.length c2) (m2.C.map (·.1)).length ((m2.C.map (·.1)).flatMap sc) := by rw [List.length_map]; exact own_later (own_later HO2.out HB5.out) HB56.out
        have p3 : W6.ownsRow w4.heap.size 66 2 (.slice a3 m2.O.length c3) (m2.O.map (·.1)).length ((m2.O.map (·.1)).flatMap sc) := by rw [List.length_map]; exact own_later HO3.out HB56.out
        have q1 : (m2.O.map (·.1)).length ≤ 4097 := by rw [List.length_map]; exact HC1.out
        have q2 : (m2.C.map (·.1)).length ≤ 4097 := by rw [List.length_map]; exact HC2.out
        have l3 := fun (lv' : Value) (w7 : World) => HG2.out.lst3 (b1 := 0) (lv' := lv') (w7 := w7) HB26.out p1 p2 p3 HB3.out.size HB4.out.size (fun b hb => (HO1.out.lt b hb).2) (fun b hb => (HO2.out.lt b hb).2) q1 q2 q1
        have L3 := Lib.hid l3
        clear p1 p2 p3 q1 q2 l3
        go_wp2_with (at_builtin; rw [← HW6.out]; go_loud (refine wpList_app El.sesss rfl (.tmp 102) (.tmp 109) rfl (own_later HG2.out.lst.lg.own HB26.out) rfl HR6.out rfl rfl (by intro x hx; simp at hx; rcases hx with rfl | rfl | rfl <;> rfl) hbnd hbase ?_); intro v7 w7 hown7 hgr7 hN7; go_loud (have h7 := L3.out v7 w7 hown7 hgr7 hN7); have H7 := Lib.hid h7; clear hown7 hgr7 hN7 h7)
        go_roundw
        case rel => exact ⟨t + 1, k + 1, S2, m2, bs, gs, _, Bt, Gs, _, by omega, by omega, by omega, by omega, by rw [List.length_append]; simp; omega, by go_num, H7⟩
        case measure => simp [intOf]; omega
    · obtain rfl : t = n := by omega
      obtain ⟨we, hwe⟩ : ∃ we, we = wr := ⟨_, rfl⟩
      subst hwe
      obtain ⟨ba, bcap, rfl, -⟩ := own_open HG.out.byt.lg.own
      obtain ⟨ta, tcap, rfl, -⟩ := own_open HG.out.txt.own
      obtain ⟨ga, gcap, rfl, -⟩ := own_open HG.out.got.lg.own
      obtain ⟨la, lcap, rfl, -⟩ := own_open HG.out.lst.lg.own
      have hbl : bs.length = Bt.length := by have := HG.out.byt.lg.len; rwa [List.length_map] at this
      have hob := HG.out.byt.lg.own
      have hot := HG.out.txt.own
      obtain ⟨N1, hN1⟩ : ∃ N1, N1 = Bt.length := ⟨_, rfl⟩
      rw [hbl, ← hN1] at hob
      rw [← hN1] at hot
      rw [hbl, ← hN1]
      rw [← hN1] at hb2
      have HN1 := Lib.hid hN1; have HBL := Lib.hid hbl; have HOB := Lib.hid hob; have HOT := Lib.hid hot
      clear hN1 hbl hob hot
      go_wp2_with fail
      go_loopw [18] (fun i wq => ∃ q r : Nat, q ≤ N1 ∧ i = .int .i64 (q : Int) ∧ wq = we.drewN r) (fun i _ => N1 - (intOf i).toNat)
      case atStart => exact ⟨0, 0, Nat.zero_le _, rfl, rfl⟩
      case round =>
        obtain ⟨q, r, hq, rfl, rfl⟩ := hrel
        by_cases hlq : q < N1
        · have ixq : (q : Int) < (N1 : Int) := by omega
          obtain ⟨y, hy⟩ : ∃ y, bs[q]? = some y := ⟨_, List.getElem?_eq_getElem (by rw [HBL.out, ← HN1.out]; exact hlq)⟩
          obtain ⟨l, hl0⟩ : ∃ l, Bt[q]? = some l := ⟨_, List.getElem?_eq_getElem (by rw [← HN1.out]; exact hlq)⟩
          obtain ⟨b1, o1, c1, e1, -, -, -, k1⟩ := (Rd.of_own HOB.out).form (by intro h; rw [h] at hy; simp at hy)
          obtain ⟨b2, o2, c2, e2, -, -, -, k2⟩ := (Rd.of_own HOT.out).form (by intro h; have := congrArg List.length h; simp at this; rw [this] at hl0; simp at hl0)
          injection e1 with e1 e1' e1''
          injection e2 with e2 e2' e2''
          subst e1; subst e2
          have d1 := k1 q y hy
          have d2 := k2 q (.string (str l)) (by rw [List.getElem?_map, hl0]; rfl)
          have hown := HG.out.byt.lg.rows.own q y hy
          have ee : (Bt.map fun b => (b.length, b.map ub)).getD q (0, []) = (l.length, l.map ub) := by
            rw [List.getD_eq_getElem?_getD, List.getElem?_map, hl0]; rfl
          simp only [ee] at hown
          obtain ⟨yp, yc, rfl, -⟩ := own_open hown
          have cv := fun r' => run_str8 (W := we.drewN r') (Rd.of_own hown) rfl
          obtain ⟨sl, hsl⟩ : ∃ sl, sl = str l := ⟨_, rfl⟩
          obtain ⟨ln, hln⟩ : ∃ ln, ln = l.length := ⟨_, rfl⟩
          rw [← hsl] at d2 cv
          rw [← hln] at d1 cv
          clear e1' e1'' e2' e2'' k1 k2 hy hl0 hown ee hsl hln
          go_wp2_with fail
          go_quiet (fail)
          go_wp2_with fail
          go_roundw
          case rel => exact ⟨q + 1, _, by omega, by go_num, rfl⟩
          case measure => simp [intOf]; omega
        · obtain rfl : q = N1 := by omega
          have hW : Below we.heap.size we (we.drewN r) := below_drewN (Below.refl _ _) r
          have go1 := HG.out.go.later hW
          have byt1 := HG.out.byt.later hW
          have got1 := HG.out.got.later hW
          have lst1 := HG.out.lst.later hW
          have hgl : gs.length = Gs.length := by have := HG.out.got.lg.len; rwa [List.length_map] at this
          have hll : ls.length = Ls.length := by have := HG.out.lst.lg.len; rwa [List.length_map] at this
          have cb := apartBytes_any (.slice ba q bcap) w.heap.size w.heap.size q bs _ _ (we.drewN r) (own_later HOB.out hW) byt1.lg.rows (by have := go1.below.size; exact this) (fun i => Nat.le_trans (lens_le (M := 65536) HG.out.b1 i) (by decide)) (by omega)
          have HCB := Lib.hid cb; have HGO1 := Lib.hid go1; have HBY1 := Lib.hid byt1; have HGT1 := Lib.hid got1; have HLS1 := Lib.hid lst1; have HGL := Lib.hid hgl; have HLL := Lib.hid hll
          clear cb go1 byt1 got1 lst1 hgl hll hW
          obtain ⟨Ng, hNg⟩ : ∃ Ng, Ng = gs.length := ⟨_, rfl⟩
          obtain ⟨Nl, hNl⟩ : ∃ Nl, Nl = ls.length := ⟨_, rfl⟩
          have hg2' : Ng ≤ 2 * t := by rw [hNg, HGL.out]; exact hg2
          have hl3' : Nl ≤ 3 * t := by rw [hNl, HLL.out]; exact hl3
          rw [← hNg, ← hNl]
          have HNG := Lib.hid hNg; have HNL := Lib.hid hNl
          clear hNg hNl
          go_wp2_with fail
          refine HCB.out.mono ?_
          rintro e w2 ⟨rfl, hs2⟩
          have hgo2 := HGO1.out.past HBY1.out hs2
          have hgt2 := HGT1.out.past HBY1.out.lg hs2 (by decide) (by decide)
          have hls2 := HLS1.out.past HBY1.out.lg hs2 (by decide) (by decide)
          have cg := apartRanges_any (.slice ga Ng gcap) w.heap.size w.heap.size Ng gs _ _ w2 (by have := hgt2.lg.own; rwa [← HNG.out] at this) hgt2.lg.rows hgo2.below.size (fun i => Nat.le_trans (lens_le (M := 64) HG.out.g1 i) (by decide)) (by omega)
          have HCG := Lib.hid cg; have HGO2 := Lib.hid hgo2; have HGT2 := Lib.hid hgt2; have HLS2 := Lib.hid hls2
          clear cg hgo2 hgt2 hls2 hs2 HCB HGO1 HBY1 HGT1 HLS1
          go_wp2_with fail
          refine HCG.out.mono ?_
          rintro e w3 ⟨rfl, hs3⟩
          have hgo3 := HGO2.out.past HGT2.out hs3
          have hls3 := HLS2.out.past HGT2.out.lg hs3 (by decide) (by decide)
          have cl := apartSess_any (.slice la Nl lcap) w.heap.size w.heap.size Nl ls _ _ w3 (by have := hls3.lg.own; rwa [← HNL.out] at this) hls3.lg.rows hgo3.below.size (fun i => Nat.le_trans (lens_le (M := 4097) HG.out.l1 i) (by decide)) (by omega)
          have HCL := Lib.hid cl; have HGO3 := Lib.hid hgo3; have HLS3 := Lib.hid hls3
          clear cl hgo3 hls3 hs3 HCG HGO2 HGT2 HLS2
          go_wp2_with fail
          refine HCL.out.mono ?_
          rintro e w4 ⟨rfl, hs4⟩
          have hgo4 := HGO3.out.past HLS3.out hs4
          have HGO4 := Lib.hid hgo4
          have HSH := Lib.hid hgo4.shows
          clear hgo4 hs4 HCL HGO3 HLS3 HG HOB HOT
          go_wp2_with fail
          refine HSH.out.mono ?_
          rintro e w5 ⟨rfl, h5, -⟩
          have HG5 := Lib.hid h5
          clear h5 HSH HGO4
          go_wp2_with fail
          go_loopw [22] (fun i wr => ∃ (j k : Nat) (S : Nat → Prop) (m : IM), j ≤ t ∧ k ≤ 2 * t + j ∧ i = .int .i64 (j : Int) ∧ Hid (GoesI w wr k x d S m)) (fun i _ => t - (intOf i).toNat)
          case atStart => exact ⟨0, k, S, m, Nat.zero_le _, hk, rfl, HG5⟩
          case round =>
            clear HG5
            obtain ⟨j, k, S, m, hj, hk, rfl, HG⟩ := hrel
            by_cases hltj : j < t
            · obtain ⟨o, ho⟩ : ∃ o, ops[j]? = some o := ⟨_, List.getElem?_eq_getElem (by rw [← HN.out]; exact hltj)⟩
              obtain ⟨bb, off, dv, gv, rfl, hu, f1, f2, hcell⟩ := HV.out.at HG.out.below ho rfl
              have c := HG.out.plays2 o hu f1 f2 (by omega)
              obtain ⟨okind, ⟨ukind, uep, uses, path, idx, cnt, data, ucode, got⟩, oep, onum, ocode⟩ := o
              simp only [opv] at c
              have e0 := hcell 0 _ rfl
              rw [← Nat.add_assoc] at e0
              have e1 := hcell 1 _ rfl
              rw [← Nat.add_assoc] at e1
              have e2 := hcell 2 _ rfl
              rw [← Nat.add_assoc] at e2
              have e3 := hcell 3 _ rfl
              rw [← Nat.add_assoc] at e3
              have e4 := hcell 4 _ rfl
              rw [← Nat.add_assoc] at e4
              have e5 := hcell 5 _ rfl
              rw [← Nat.add_assoc] at e5
              have e6 := hcell 6 _ rfl
              rw [← Nat.add_assoc] at e6
              have e7 := hcell 7 _ rfl
              rw [← Nat.add_assoc] at e7
              have e8 := hcell 8 _ rfl
              rw [← Nat.add_assoc] at e8
              have e9 := hcell 9 _ rfl
              rw [← Nat.add_assoc] at e9
              have e10 := hcell 10 _ rfl
              rw [← Nat.add_assoc] at e10
              have e11 := hcell 11 _ rfl
              rw [← Nat.add_assoc] at e11
              have e12 := hcell 12 _ rfl
              rw [← Nat.add_assoc] at e12
              simp only [Nat.add_zero] at e0
              simp only at e1 e2 e3 e4 e5 e6 e8 e10 e11 e12
              have hdv := hu.dat
              have hgv := hu.got
              simp only at hdv hgv
              obtain ⟨dp, dc, rfl, -⟩ := id hdv
              obtain ⟨gp, gc, rfl, -⟩ := id hgv
              have HC := Lib.hid c
              have HGB := Lib.hid HG.out.below
              have ix : (j : Int) < (t : Int) := by omega
              have HOP := Lib.hid ho
              clear c hu f1 f2 hcell hdv hgv ho

              go_wp2_with fail
              refine HC.out.mono ?_
              rintro e w6 ⟨rfl, S2, h2⟩
              have hsh := h2.shows
              have HSH := Lib.hid hsh
              clear h2 hsh e0 e1 e2 e3 e4 e5 e6 e7 e8 e9 e10 e11 e12
              go_wp2_with fail
              refine HSH.out.mono ?_
              rintro e w7 ⟨rfl, h3, -⟩
              have HG3 := Lib.hid h3
              clear h3
              go_wp2_with fail
              go_roundw
              case rel => exact ⟨j + 1, _, _, _, by omega, by omega, by go_num, HG3⟩
              case measure => simp [intOf]; omega
            · obtain rfl : j = t := by omega
              go_wp2_with fail
              go_ret
              exact ⟨rfl, HG.out.below⟩
theorem iown_walk (W : World) (v0 : Int) (x0 : Int) (h0 : cInt.rep W [.int .i64 v0] x0) (v1 : Int) (x1 : Int) (h1 : cInt.rep W [.int .i64 v1] x1) (v2 : Value) (x2) (h2 : cOpsI.rep W [v2] x2) :
    Calls Tryz.prog 7 #[.int .i64 v0, .int .i64 v1, v2] W fun e w' => e = .returned (.bool true) ∧ Below W.heap.size W w' := iown_in v0 v1 v2 _ W (cOpsI_rd h2)
end Go.Proofs.YtfaemjlemaclbaaGreat
