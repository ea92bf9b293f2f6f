/- Take: a session that is being put together. Printed by wip/gen_itake.py. -/
import Derived.Test.YtfaemjlemaclbaaGreatMITake3
import Derived.Test.YtfaemjlemaclbaaGreatMRefGot
namespace Go.Proofs.YtfaemjlemaclbaaGreat
set_option linter.unusedVariables false
set_option linter.unusedSimpArgs false
open Go.RowKit Go.Maps
section
variable {w : World} {x bo bd t : Nat} {O : List OE} {C : List CE} {m : IM}
set_option maxHeartbeats 2000000 in
set_option maxRecDepth 100000 in
theorem take_old_ok (h : IAt w x bo bd t O C m) (u : UD) (dp gp : Option Addr) (dc gc : Nat) (hd : Bs w (.slice dp u.data.length dc) u.data) (hdn : ∀ b, (Value.slice dp u.data.length dc).ownBlock = some b → ¬ IF x bo bd O C b) (hk : u.kind = 1) (hdat : u.isData) (hs : ¬ u.ep.toNat < m.ep.toNat) (hc : lk (m.rise u.ep).C (u.ep, u.ses) = none) {b : BoxS} (ho : lk (m.rise u.ep).O (u.ep, u.ses) = some b) (hcnt : (b.cnt : Int) = u.cnt) (he : errOf b u = 0 ∨ errOf b u = 3) (ht : t < 4611686018427387904) :
    Calls Tryz.prog 14 #[.pointer (some ⟨x, 0, none⟩), uv u (.slice dp u.data.length dc) (.slice gp u.got.length gc)] w fun e w' => ∃ gv bv, e = .returned (.agg #[.int .i64 (ansOf (b.put u.idx u.data)).st, .int .i64 (ansOf (b.put u.idx u.data)).code, gv, bv]) ∧ w'.ownsRow w.heap.size 63 2 gv (ansOf (b.put u.idx u.data)).got.length (rvs (ansOf (b.put u.idx u.data)).got) ∧ w'.ownsRow w.heap.size 5 1 bv (ansOf (b.put u.idx u.data)).blk.length ((ansOf (b.put u.idx u.data)).blk.map ub) ∧ Took w w' x bo bd (t + 1) O C { (m.rise u.ep) with O := wo (m.rise u.ep).O (u.ep, u.ses) ++ [((u.ep, u.ses), b.put u.idx u.data)] } := by
  obtain ⟨kind, ep, ses, path, idx, cnt, data, code, got⟩ := u
  simp only at hk
  subst hk
  obtain ⟨n, hn⟩ := Int.eq_ofNat_of_zero_le (show 0 ≤ cnt by have := hdat.2.2.2.2.1; simp only at this; omega)
  obtain ⟨ix, hix⟩ := Int.eq_ofNat_of_zero_le (show 0 ≤ idx by have := hdat.2.2.2.2.2.2.1; simp only at this; omega)
  subst hn
  subst hix
  have hn1 : 1 ≤ n := by have := hdat.2.2.2.2.1; simp only at this; omega
  have hn2 : n ≤ 64 := by have := hdat.2.2.2.2.2.1; simp only at this; omega
  have hlt : decide (ep.toNat < m.ep.toNat) = false := by simpa using hs
  have hv := fun W => valid_data ⟨1, ep, ses, path, (ix : Int), (n : Int), data, code, got⟩ dp gp dc gc W rfl
  rw [if_pos hdat] at hv
  simp only [uv] at hv
  simp only [uv]
  obtain ⟨W0, hW0⟩ : ∃ W0, W0 = (w.alloc (.cells #[.int .i64 1, .int .u64 (ep.toNat : Int), .int .u64 (ses.toNat : Int), .int .i64 path, .int .i64 (ix : Int), .int .i64 (n : Int), .slice dp data.length dc, .int .i64 code, .slice gp got.length gc] 35)).alloc (.cells #[.int .i64 0, .int .i64 0, .slice none 0 0, .slice none 0 0] 45) := ⟨_, rfl⟩
  have hB0 : Below w.heap.size w W0 := hW0 ▸ ((Below.refl _ _).alloc (Nat.le_refl _) _).alloc (by simp) _
  have hu0 : Blk W0 w.heap.size 35 [.int .i64 1, .int .u64 (ep.toNat : Int), .int .u64 (ses.toNat : Int), .int .i64 path, .int .i64 (ix : Int), .int .i64 (n : Int), .slice dp data.length dc, .int .i64 code, .slice gp got.length gc] := hW0 ▸ (Blk.new w _ _).alloc _
  have ha0 : Blk W0 (w.heap.size + 1) 45 [.int .i64 0, .int .i64 0, .slice none 0 0, .slice none 0 0] := by
    have := Blk.new (w.alloc (.cells #[.int .i64 1, .int .u64 (ep.toNat : Int), .int .u64 (ses.toNat : Int), .int .i64 path, .int .i64 (ix : Int), .int .i64 (n : Int), .slice dp data.length dc, .int .i64 code, .slice gp got.length gc] 35)) 45 [.int .i64 0, .int .i64 0, .slice none 0 0, .slice none 0 0]
    rw [show (w.alloc (.cells #[.int .i64 1, .int .u64 (ep.toNat : Int), .int .u64 (ses.toNat : Int), .int .i64 path, .int .i64 (ix : Int), .int .i64 (n : Int), .slice dp data.length dc, .int .i64 code, .slice gp got.length gc] 35)).heap.size = w.heap.size + 1 by simp] at this
    exact hW0 ▸ this
  have h0 := h.later hB0
  have c0 := h0.blk.cell_some (i := 0) rfl
  have c1 := h0.blk.cell_some (i := 1) rfl
  have c2 := h0.blk.cell_some (i := 2) rfl
  have c3 := h0.blk.cell_some (i := 3) rfl
  have c4 := h0.blk.cell_some (i := 4) rfl
  have c5 := h0.blk.cell_some (i := 5) rfl
  have d0 := hu0.cell_some (i := 0) rfl
  have d1 := hu0.cell_some (i := 1) rfl
  have d2 := hu0.cell_some (i := 2) rfl
  have d3 := hu0.cell_some (i := 3) rfl
  have d4 := hu0.cell_some (i := 4) rfl
  have d5 := hu0.cell_some (i := 5) rfl
  have d6 := hu0.cell_some (i := 6) rfl
  have d7 := hu0.cell_some (i := 7) rfl
  have d8 := hu0.cell_some (i := 8) rfl
  have HB0 := Lib.hid hB0; have H0 := Lib.hid h0; have HU0 := Lib.hid hu0; have HA0 := Lib.hid ha0; have HIW := Lib.hid h
  clear h h0 hB0 hu0 ha0
  go_enter Tryz.func14, Tryz.ntmps14
  go_wp2_with fail
  rw [← hW0]
  clear hW0
  refine (none_any _ _ _ c3).mono ?_
  rintro e w1 ⟨rfl, hw⟩
  rw [hw]
  clear hw w1
  go_wp2_with fail
  refine (hv _).mono ?_
  rintro e W1 ⟨rfl, hB1⟩
  have c2' := below_cell hB1 c2 (World.block_lt_of_cell? _ _ c2)
  have d1' := below_cell hB1 d1 (World.block_lt_of_cell? _ _ d1)
  have HB1 := Lib.hid hB1
  clear hB1
  go_wp2_with fail
  refine region_class (C := fun w' => w'.cell? ⟨x, 2, none⟩ = some (.int .u64 (m.ep.toNat : Int)) ∧ w'.cell? ⟨w.heap.size, 1, none⟩ = some (.int .u64 (ep.toNat : Int)) ∧ Hid (Below W0.heap.size W0 w')) (by kernel_rfl) (by kernel_rfl) ⟨c2', d1', Lib.hid HB1.out.drew⟩ ?_
  repeat
    (first
     | go_big_quiet_skip
     | (go_big_quiet_want
        rename_i K hK
        apply Exists.intro
        refine ⟨fun w' hw' => ?_, hK _ ?_⟩
        · obtain ⟨c2', d1', hB⟩ := hw'
          go_simp
          first
          | with_reducible rfl
        clear hK K
        simp only [Act.put, List.setIfInBounds_toArray, List.set_cons_zero, List.set_cons_succ]))
  refine wpQuiet_nil ?_
  rintro w5 ⟨c2', d1', hB⟩
  have h5 := H0.out.later hB.out
  have hu5 := HU0.out.later hB.out
  have ha5 := HA0.out.later hB.out
  have hlx : x < w.heap.size := HIW.out.lt (.inl rfl)
  have hlo : bo < w.heap.size := HIW.out.lt (.inr (.inl rfl))
  have hld : bd < w.heap.size := HIW.out.lt (.inr (.inr (.inl rfl)))
  have HB5 := Lib.hid (below_trans HB0.out hB.out)
  have H5 := Lib.hid h5; have HU5 := Lib.hid hu5; have HA5 := Lib.hid ha5
  clear h5 hu5 ha5 hB
  go_wp2_with fail
  refine (rise_any H5.out ep).mono ?_
  rintro e W2 ⟨rfl, O1, C1, hI2, hsO, hsC, hS2⟩
  have hu2 := HU5.out.same hS2 (by rintro (e | e | e) <;> omega)
  have ha2 := HA5.out.same hS2 (by rintro (e | e | e) <;> omega)
  have hB3 : Below W2.heap.size W2 (W2.alloc (.cells #[.int .u64 (ep.toNat : Int), .int .u64 (ses.toNat : Int)] 66)) := (Below.refl _ _).alloc (Nat.le_refl _) _
  have hs3 := Blk.new W2 66 [.int .u64 (ep.toNat : Int), .int .u64 (ses.toNat : Int)]
  have h3 := hI2.later hB3
  have hu3 := hu2.later hB3
  have ha3 := ha2.later hB3
  have d0 := hu2.cell_some (i := 0) rfl
  have d1 := hu2.cell_some (i := 1) rfl
  have d2 := hu2.cell_some (i := 2) rfl
  have d3 := hu2.cell_some (i := 3) rfl
  have d4 := hu2.cell_some (i := 4) rfl
  have d5 := hu2.cell_some (i := 5) rfl
  have d6 := hu2.cell_some (i := 6) rfl
  have d7 := hu2.cell_some (i := 7) rfl
  have d8 := hu2.cell_some (i := 8) rfl
  have g0 := h3.blk.cell_some (i := 0) rfl
  have g1 := h3.blk.cell_some (i := 1) rfl
  have g2 := h3.blk.cell_some (i := 2) rfl
  have g3 := h3.blk.cell_some (i := 3) rfl
  have g4 := h3.blk.cell_some (i := 4) rfl
  have g5 := h3.blk.cell_some (i := 5) rfl
  have s0 := hs3.cell_some (i := 0) rfl
  have s1 := hs3.cell_some (i := 1) rfl
  have hwz : w.heap.size ≤ W2.heap.size := Nat.le_trans HB5.out.size hS2.size
  have HsO := Lib.hid hsO; have HsC := Lib.hid hsC; have HS2 := Lib.hid hS2; have H2 := Lib.hid hI2; have H3 := Lib.hid h3; have HU3 := Lib.hid hu3; have HA3 := Lib.hid ha3; have HS3 := Lib.hid hs3; have HB3 := Lib.hid hB3
  clear hI2 hsO hsC hS2 hu2 ha2 h3 hu3 ha3 hs3 hB3 c0 c1 c2 c3 c4 c5 c2' d1' hv hlt
  have look := fun W hB => H3.out.lookC_no hc W hB
  simp only [sv] at look
  have HL := Lib.hid look
  clear look hc hs
  go_wp2_with fail
  refine region_class (C := fun w' => w'.cell? ⟨x, 4, none⟩ = some (.map (some bd)) ∧ w'.cell? ⟨W2.heap.size, 0, none⟩ = some (.int .u64 (ep.toNat : Int)) ∧ w'.cell? ⟨W2.heap.size, 1, none⟩ = some (.int .u64 (ses.toNat : Int)) ∧ Hid (Below (W2.alloc (.cells #[.int .u64 (ep.toNat : Int), .int .u64 (ses.toNat : Int)] 66)).heap.size (W2.alloc (.cells #[.int .u64 (ep.toNat : Int), .int .u64 (ses.toNat : Int)] 66)) w')) (by kernel_rfl) (by kernel_rfl) ⟨g4, s0, s1, Lib.hid (Below.refl _ _).drew⟩ ?_
  repeat
    (first
     | go_big_quiet_skip
     | (go_big_quiet_want
        rename_i K hK
        apply Exists.intro
        refine ⟨fun w' hw' => ?_, hK _ ?_⟩
        · obtain ⟨g4, s0, s1, hB⟩ := hw'
          have l1 := HL.out w' hB.out
          go_simp
          first
          | with_reducible rfl
        clear hK K
        simp only [Act.put, List.setIfInBounds_toArray, List.set_cons_zero, List.set_cons_succ]))
  refine wpQuiet_nil ?_
  rintro w5 ⟨g4, s0, s1, hB⟩
  have g3' := below_cell hB.out g3 (World.block_lt_of_cell? _ _ g3)
  have HB9 := Lib.hid hB.out
  clear hB HL
  obtain ⟨o, hom, hos, hob⟩ := H3.out.memO ho
  have look := fun W hB => H3.out.lookO hom W hB
  rw [hos] at look
  simp only [sv] at look
  have HL := Lib.hid look
  have HOM := Lib.hid hom
  have HINV := Lib.hid H3.out.inv
  have HHO := Lib.hid ho
  clear look ho hdat hom
  go_wp2_with fail
  refine region_class (C := fun w' => w'.cell? ⟨x, 3, none⟩ = some (.map (some bo)) ∧ w'.cell? ⟨W2.heap.size, 0, none⟩ = some (.int .u64 (ep.toNat : Int)) ∧ w'.cell? ⟨W2.heap.size, 1, none⟩ = some (.int .u64 (ses.toNat : Int)) ∧ Hid (Below (W2.alloc (.cells #[.int .u64 (ep.toNat : Int), .int .u64 (ses.toNat : Int)] 66)).heap.size (W2.alloc (.cells #[.int .u64 (ep.toNat : Int), .int .u64 (ses.toNat : Int)] 66)) w')) (by kernel_rfl) (by kernel_rfl) ⟨g3', s0, s1, Lib.hid HB9.out.drew⟩ ?_
  repeat
    (first
     | go_big_quiet_skip
     | (go_big_quiet_want
        rename_i K hK
        apply Exists.intro
        refine ⟨fun w' hw' => ?_, hK _ ?_⟩
        · obtain ⟨g3', s0, s1, hB⟩ := hw'
          have l1 := HL.out w' hB.out
          go_simp
          first
          | with_reducible rfl
        clear hK K
        simp only [Act.put, List.setIfInBounds_toArray, List.set_cons_zero, List.set_cons_succ]))
  refine wpQuiet_nil ?_
  rintro w5 ⟨g3', s0, s1, hB⟩
  have hSw : Same (IF x bo bd O C) w w5 := ((((Same.of_below HB5.out (IF x bo bd O C)).trans HS2.out fun i hi e => by
    rcases e with e | e | e
    · exact .inl e
    · exact .inr (.inl e)
    · exact .inr (.inr (.inl e))).trans (Same.of_below HB3.out no) fun i hi e => e.elim).trans (Same.of_below hB.out no) fun i hi e => e.elim)
  have hd6 : Bs w5 (.slice dp data.length dc) data := Rd.same hd hSw hdn
  have hu6 := HU3.out.later hB.out
  have ha6 := HA3.out.later hB.out
  have h6 := H3.out.later hB.out
  have hs6 := HS3.out.later hB.out
  have u4 := hu6.cell_some (i := 4) rfl
  have u5 := hu6.cell_some (i := 5) rfl
  have u6 := hu6.cell_some (i := 6) rfl
  have HSW := Lib.hid hSw; have HD := Lib.hid hd6; have HU6 := Lib.hid hu6; have HA6 := Lib.hid ha6; have H6 := Lib.hid h6; have HS6 := Lib.hid hs6
  clear hSw hd6 hu6 ha6 h6 hs6 hd d0 d1 d2 d3 d4 d5 d6 d7 d8 g0 g1 g2 g3 g4 g5 s0 s1
  obtain ⟨os, kb, gb, wh, B1⟩ := o
  simp only at hos hob HL
  subst hos
  subst hob
  have hk6 := H6.out.ko.blk _ HOM.out
  have hx6 := H6.out.ko.box _ HOM.out
  simp only at hk6 hx6
  have k0 := hk6.cell_some (i := 0) rfl
  have HK6 := Lib.hid hk6; have HX6 := Lib.hid hx6
  have HB6 := Lib.hid hB.out
  obtain ⟨W6, hW6⟩ : ∃ W6, W6 = w5 := ⟨_, rfl⟩
  subst hW6
  clear hB hk6 hx6
  have HKN := Lib.hid (HINV.out.box _ (lk_mem HHO.out))
  change (B1.cnt : Int) = (n : Int) at hcnt
  have hcc : B1.cnt = n := by omega
  have hcn : ∀ W, B1.at W gb → Calls Tryz.prog 40 #[.pointer (some ⟨gb, 0, none⟩)] W fun e w' => e = .returned (.int .i64 (n : Int)) ∧ W = w' := fun W h => by
    have := count_any gb B1.cnt B1.len B1.ps W h
    rwa [hcc] at this
  have HCNT := Lib.hid hcn
  clear hcnt hcc hcn
  go_wp2_with fail
  refine region_class (C := fun w' => w'.cell? ⟨kb, 0, none⟩ = some (.pointer (some ⟨gb, 0, none⟩)) ∧ w'.cell? ⟨w.heap.size, 5, none⟩ = some (.int .i64 (n : Int)) ∧ Hid (B1.at w' gb) ∧ Hid (Below W6.heap.size W6 w')) (by kernel_rfl) (by kernel_rfl) ⟨k0, u5, Lib.hid (BoxAt.later HX6.out (Below.refl _ _).drew), Lib.hid (Below.refl _ _).drew⟩ ?_
  repeat
    (first
     | go_big_quiet_skip
     | (go_big_quiet_want
        rename_i K hK
        apply Exists.intro
        refine ⟨fun w' hw' => ?_, hK _ ?_⟩
        · obtain ⟨k0, u5, hx, hB⟩ := hw'
          go_simp
          first
          | (go_at_call 40
             refine (HCNT.out w' hx.out).mono ?_
             rintro e w9 ⟨rfl, rfl⟩
             exact ⟨rfl, k0, u5, hx, hB⟩)
          | with_reducible rfl
        clear hK K
        simp only [Act.put, List.setIfInBounds_toArray, List.set_cons_zero, List.set_cons_succ]))
  refine wpQuiet_nil ?_
  rintro w5 ⟨k0, u5, hx, hB⟩
  have HBa := Lib.hid hB.out
  have u4' := below_cell hB.out u4 (World.block_lt_of_cell? _ _ u4)
  have u6' := below_cell hB.out u6 (World.block_lt_of_cell? _ _ u6)
  have hput := put_any gb B1 ix (.slice dp data.length dc) data w5.drew (BoxAt.later hx.out (Below.refl _ _).drew) ((HD.out.later hB.out).drew) HKN.out.good.fine
  obtain ⟨E, hE⟩ : ∃ E, putErr B1.cnt B1.len B1.ps (ix : Int) data = E := ⟨_, rfl⟩
  obtain ⟨B, hBB⟩ : ∃ B, B1.put (ix : Int) data = B := ⟨_, rfl⟩
  rw [hE, hBB] at hput
  have HPUT := Lib.hid hput; have HE := Lib.hid hE; have HBB := Lib.hid hBB
  have he2 : E = 0 ∨ E = 3 := by
    rw [← HE.out]
    exact he
  clear hput hE hBB u4 u6 hB hx he
  have h9 := H6.out.later HBa.out
  have HI9 := Lib.hid h9
  have n9 := h9.ok_ne HOM.out
  simp only at n9
  have HN9 := Lib.hid n9
  have HK9 := Lib.hid (HK6.out.later HBa.out)
  have HA9 := Lib.hid (HA6.out.later HBa.out)
  clear h9 n9
  go_wp2_with fail
  refine region_phases [8] (by kernel_rfl) (by kernel_rfl) ?_
  refine phases_more (fun w' => w' = w5.drew) rfl ?_
  simp only [List.take_succ_cons, List.take_zero, List.drop_zero]
  repeat (first
    | go_big_quiet_skip
    | (go_big_quiet_want
       rename_i K hK
       apply Exists.intro
       refine ⟨fun w' hw' => ?_, hK _ ?_⟩
       · subst hw'
         have zz0 : w5.drew.cell? _ = _ := k0
         have zz1 : w5.drew.cell? _ = _ := u4'
         have zz2 : w5.drew.cell? _ = _ := u6'
         go_simp
         with_reducible rfl
       clear hK K
       simp only [Act.put, List.setIfInBounds_toArray, List.set_cons_zero, List.set_cons_succ]))
  refine wpQuiet_nil ?_
  rintro w7 rfl
  refine phases_op rfl rfl (fun K hK => ?_)
  go_simp
  go_at_call 38
  refine HPUT.out.mono ?_
  rintro e W9 ⟨rfl, hb9, hS9⟩
  have Hb9 := Lib.hid hb9
  have HS9 := Lib.hid (show Same (at1 gb) w5 W9 from ⟨hS9.os, hS9.tape, hS9.output, hS9.size, hS9.block⟩)
  clear hb9 hS9
  refine hK _ _ (phases_last (fun w' => w' = W9) rfl ?_)
  clear hK K
  simp only [Act.put, List.setIfInBounds_toArray, List.set_cons_zero, List.set_cons_succ, List.drop_succ_cons, List.drop_zero]
  repeat (first
    | go_big_quiet_skip
    | (go_big_quiet_want
       rename_i K hK
       apply Exists.intro
       refine ⟨fun w' hw' => ?_, hK _ ?_⟩
       · subst hw'
         go_simp
         with_reducible rfl
       clear hK K
       simp only [Act.put, List.setIfInBounds_toArray, List.set_cons_zero, List.set_cons_succ]))
  refine wpQuiet_nil ?_
  rintro w7 hw7
  rw [hw7]
  clear hw7 w7
  have hk9 := HK9.out.same HS9.out HN9.out.2.2.2.2.2.2
  have hx9 := HI9.out.blk.same HS9.out fun e => HN9.out.2.2.2.1 e.symm
  have ha9 := HA9.out.same HS9.out fun e => (HX6.out.blk.ne HA6.out (by decide)) e.symm
  have HK9' := Lib.hid hk9; have HX9 := Lib.hid hx9; have HA9' := Lib.hid ha9
  have hxk : x ≠ kb := HN9.out.1.symm
  clear hk9 hx9 ha9
  rcases he2 with he2 | he2
  all_goals
    rw [he2]
    go_wp2_with fail
    refine (touch_any x kb t 101 _ _ _ _ _ _ _ _ HX9.out HK9'.out hxk ht).mono ?_
    rintro e W12 ⟨rfl, hx12, hk12, hS12⟩
    have hg12 : B.at W12 gb := BoxAt.same Hb9.out hS12 (by rintro (e | e); exact HN9.out.2.2.2.1 e; exact HN9.out.2.2.2.2.2.2 e.symm)
    have hKB : Known B := HBB.out ▸ known_put HKN.out _ _
    have hS : Same (fun k => k = x ∨ k = kb ∨ k = gb) w5 W12 := (HS9.out.mono fun i hi (e : i = gb) => (.inr (.inr e) : i = x ∨ i = kb ∨ i = gb)).trans hS12 fun i hi e => by
      rcases e with e | e
      · exact .inl e
      · exact .inr (.inl e)
    have h12 := HI9.out.touchO HOM.out (HINV.out.turnO (lk_mem HHO.out) hKB) hx12 hk12 hg12 hS
    have hSw : Same (IF x bo bd O C) w W12 := (HSW.out.trans (Same.of_below HBa.out no) fun i hi e => e.elim).trans hS fun i hi e => by
      rcases e with e | e | e
      · exact .inl e
      · exact .inr (.inr (.inr (.inl ⟨_, HsO.out.subset HOM.out, .inl e⟩)))
      · exact .inr (.inr (.inr (.inl ⟨_, HsO.out.subset HOM.out, .inr e⟩)))
    have hf : ∀ b, IF x bo bd (owo O1 (ep, ses) ++ [⟨(ep, ses), kb, gb, t + 1, B⟩]) C1 b → IF x bo bd O C b ∨ w.heap.size ≤ b := fun b hb => .inl (by
      rcases hb with e | e | e | ⟨o, ho, e⟩ | ⟨c, hc, e⟩
      · exact .inl e
      · exact .inr (.inl e)
      · exact .inr (.inr (.inl e))
      · rcases List.mem_append.1 ho with h | h
        · exact .inr (.inr (.inr (.inl ⟨o, HsO.out.subset ((owo_sub O1 _).subset h), e⟩)))
        · simp at h
          subst h
          exact .inr (.inr (.inr (.inl ⟨_, HsO.out.subset HOM.out, e⟩)))
      · exact .inr (.inr (.inr (.inr ⟨c, HsC.out.subset hc, e⟩))))
    have ha12 := HA9'.out.same hS12 (by rintro (e | e); exact (HX9.out.ne HA9'.out (by decide)) e.symm; exact (HK9'.out.ne HA9'.out (by decide)) e.symm)
    have k12 := hk12.cell_some (i := 0) rfl
    have H12 := Lib.hid h12; have HSW12 := Lib.hid hSw; have HF12 := Lib.hid hf; have HA12 := Lib.hid ha12; have HBX12 := Lib.hid hg12; have HGOOD := Lib.hid hKB.good
    clear h12 hSw hf ha12 hg12 hKB hS hx12 hk12 hS12 k0
    have HZ12 : Hid (w.heap.size ≤ W12.heap.size) := Lib.hid HSW12.out.size
    obtain ⟨A, hA⟩ : ∃ A, allNe B.ps B.cnt = A := ⟨_, rfl⟩
    have hwh := whole_any gb B W12 HBX12.out HGOOD.out.fine HGOOD.out.n
    rw [hA] at hwh
    have HWH := Lib.hid hwh; have HAA := Lib.hid hA
    clear hwh hA
    cases A with
    | true =>
      go_wp2_with fail
      refine HWH.out.mono ?_
      rintro e W13 ⟨bv, rfl, hbv, hB13⟩
      obtain ⟨ao, cap, rfl, -⟩ := Rd.of_own hbv
      have ha13 := HA12.out.later hB13
      have a0 := ha13.cell_some (i := 0) rfl
      have f0 := ha13.frozen 0
      have a1 := ha13.cell_some (i := 1) rfl
      have f1 := ha13.frozen 1
      have a2 := ha13.cell_some (i := 2) rfl
      have f2 := ha13.frozen 2
      have a3 := ha13.cell_some (i := 3) rfl
      have f3 := ha13.frozen 3
      have HA13 := Lib.hid ha13; have HBV := Lib.hid hbv; have HB13 := Lib.hid hB13
      clear ha13 hbv hB13
      go_wp2_with fail
      refine bodyPost_ret (v := .agg #[.int .i64 4, .int .i64 0, .slice none 0 0, .slice ao (blockOf B).length cap]) (results_cell_row rfl _ _ (w.heap.size + 1) _ _ _ _ rfl ((((HA13.out.set 0 (.int .i64 4)).set 1 (.int .i64 0)).set 2 (.slice none 0 0)).set 3 (.slice ao (blockOf B).length cap)) Tryz.underlying45 rfl (by kernel_rfl)) rfl ?_
      simp only [HBB.out]
      have ean : ansOf B = ⟨4, 0, [], blockOf B⟩ := if_pos HAA.out
      have hT := took_ans (H12.out.later HB13.out) (HSW12.out.trans (Same.of_below HB13.out no) fun i hi e => e.elim) HF12.out HA13.out (by omega) (.int .i64 4) (.int .i64 0) (.slice none 0 0) (.slice ao (blockOf B).length cap)
      refine ⟨_, _, by rw [ean], by rw [ean]; exact World.ownsRow_nil _ _ _ _, ?_, hT⟩
      rw [ean]
      refine own_mono (own_same HBV.out (((((Same.refl (at1 (w.heap.size + 1)) W13).setCell (p := ⟨w.heap.size + 1, 0, none⟩) (fun _ => rfl) _).setCell (p := ⟨w.heap.size + 1, 1, none⟩) (fun _ => rfl) _).setCell (p := ⟨w.heap.size + 1, 2, none⟩) (fun _ => rfl) _).setCell (p := ⟨w.heap.size + 1, 3, none⟩) (fun _ => rfl) _) fun k hk e => ?_) HZ12.out
      exact own_blk_ne HBV.out HA13.out (by decide) (by rw [hk, show k = w.heap.size + 1 from e])
    | false =>
      go_wp2_with fail
      refine HWH.out.mono ?_
      rintro e W13 ⟨bv, rfl, -, hB13⟩
      have k13 := below_cell hB13 k12 (World.block_lt_of_cell? _ _ k12)
      have HB13 := Lib.hid hB13
      have HBX13 := Lib.hid (BoxAt.later HBX12.out hB13)
      clear hB13
      go_wp2_with fail
      refine (got_any gb B.cnt B.len B.ps W13 HBX13.out HGOOD.out.fine.hi).mono ?_
      rintro e W14 ⟨gv, rfl, hgv, hB14⟩
      obtain ⟨ao, cap, rfl, -⟩ := Rd.of_own hgv
      have ha14 := (HA12.out.later HB13.out).later hB14
      have a0 := ha14.cell_some (i := 0) rfl
      have f0 := ha14.frozen 0
      have a1 := ha14.cell_some (i := 1) rfl
      have f1 := ha14.frozen 1
      have a2 := ha14.cell_some (i := 2) rfl
      have f2 := ha14.frozen 2
      have a3 := ha14.cell_some (i := 3) rfl
      have f3 := ha14.frozen 3
      have HA14 := Lib.hid ha14; have HGV := Lib.hid hgv; have HB14 := Lib.hid hB14
      clear ha14 hgv hB14
      go_wp2_with fail
      refine bodyPost_ret (v := .agg #[.int .i64 3, .int .i64 0, .slice ao (leastR (gotL B.ps B.cnt)).length cap, .slice none 0 0]) (results_cell_row rfl _ _ (w.heap.size + 1) _ _ _ _ rfl ((((HA14.out.set 0 (.int .i64 3)).set 1 (.int .i64 0)).set 2 (.slice ao (leastR (gotL B.ps B.cnt)).length cap)).set 3 (.slice none 0 0)) Tryz.underlying45 rfl (by kernel_rfl)) rfl ?_
      simp only [HBB.out]
      have ean : ansOf B = ⟨3, 0, leastR (gotL B.ps B.cnt), []⟩ := if_neg (by rw [HAA.out]; decide)
      have hT := took_ans ((H12.out.later HB13.out).later HB14.out) ((HSW12.out.trans (Same.of_below HB13.out no) fun i hi e => e.elim).trans (Same.of_below HB14.out no) fun i hi e => e.elim) HF12.out HA14.out (by omega) (.int .i64 3) (.int .i64 0) (.slice ao (leastR (gotL B.ps B.cnt)).length cap) (.slice none 0 0)
      refine ⟨_, _, by rw [ean], ?_, by rw [ean]; exact World.ownsRow_nil _ _ _ _, hT⟩
      rw [ean]
      refine own_mono (own_same HGV.out (((((Same.refl (at1 (w.heap.size + 1)) W14).setCell (p := ⟨w.heap.size + 1, 0, none⟩) (fun _ => rfl) _).setCell (p := ⟨w.heap.size + 1, 1, none⟩) (fun _ => rfl) _).setCell (p := ⟨w.heap.size + 1, 2, none⟩) (fun _ => rfl) _).setCell (p := ⟨w.heap.size + 1, 3, none⟩) (fun _ => rfl) _) fun k hk e => ?_) (Nat.le_trans HZ12.out HB13.out.size)
      exact own_blk_ne HGV.out HA14.out (by decide) (by rw [hk, show k = w.heap.size + 1 from e])
end
end Go.Proofs.YtfaemjlemaclbaaGreat
