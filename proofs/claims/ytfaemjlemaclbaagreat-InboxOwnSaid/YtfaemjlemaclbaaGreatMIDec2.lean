/- Decide, of what may be decided. Printed by wip/gen_idec.py. -/
import Derived.Test.YtfaemjlemaclbaaGreatMIDec
namespace Go.Proofs.YtfaemjlemaclbaaGreat
set_option linter.unusedVariables false
set_option linter.unusedSimpArgs false
open Go.RowKit Go.Maps
section
variable {w : World} {x bo bd t : Nat} {O : List OE} {C : List CE} {m : IM}
set_option maxHeartbeats 2000000 in
set_option maxRecDepth 100000 in
theorem dec_old (h : IAt w x bo bd t O C m) (s : Sess) (code : Int) (hg : ¬ badD s code) (ho : s.1.toNat < m.ep.toNat) :
    Calls Tryz.prog 26 #[.pointer (some ⟨x, 0, none⟩), .agg #[.int .u64 (s.1.toNat : Int), .int .u64 (s.2.toNat : Int)], .int .i64 code] w fun e w' => e = .returned (.int .i64 83) ∧ Below w.heap.size w w' := by
  obtain ⟨s1, s2⟩ := s
  have hg' := hg
  simp only [badD, not_or, Decidable.not_not] at hg'
  obtain ⟨hc1, hc7, hn1, hn2⟩ := hg'
  have n1 := fun W => nameD_any s1 W
  have n2 := fun W => nameD_any s2 W
  rw [decide_eq_true hn1] at n1
  rw [decide_eq_true hn2] at n2
  have hc7 : ¬ code > 7 := hc7
  clear hg hn1 hn2
  have hlt : decide (s1.toNat < m.ep.toNat) = true := by simpa using ho
  clear ho
  obtain ⟨W0, hW0⟩ : ∃ W0, W0 = w.alloc (.cells #[.int .u64 (s1.toNat : Int), .int .u64 (s2.toNat : Int)] 66) := ⟨_, rfl⟩
  have hB0 : Below w.heap.size w W0 := hW0 ▸ (Below.refl _ _).alloc (Nat.le_refl _) _
  have hb0 : Blk W0 w.heap.size 66 [.int .u64 (s1.toNat : Int), .int .u64 (s2.toNat : Int)] := hW0 ▸ Blk.new w _ _
  have h0 := h.later hB0
  have c2 := h0.blk.cell_some (i := 2) rfl
  have c3 := h0.blk.cell_some (i := 3) rfl
  have c4 := h0.blk.cell_some (i := 4) rfl
  have d0 := hb0.cell_some (i := 0) rfl
  have d1 := hb0.cell_some (i := 1) rfl
  have HB0 := Lib.hid hB0
  have Hb0 := Lib.hid hb0
  have H0 := Lib.hid h0
  clear h h0 hB0 hb0
  go_enter Tryz.func26, Tryz.ntmps26
  go_wp2_with fail
  rw [← hW0]
  clear hW0
  refine (none_any _ _ _ c3).mono ?_
  rintro e w1 ⟨rfl, hw⟩
  rw [hw]
  clear hw w1
  go_wp2_with fail
  refine (n1 _).mono ?_
  rintro e w1 ⟨rfl, hw⟩
  rw [hw]
  clear hw w1
  go_wp2_with fail
  refine (n2 _).mono ?_
  rintro e w1 ⟨rfl, hw⟩
  rw [hw]
  clear hw w1
  go_wp2_with fail
  refine region_class (C := fun w' => w'.cell? ⟨x, 2, none⟩ = some (.int .u64 (m.ep.toNat : Int)) ∧ w'.cell? ⟨x, 4, none⟩ = some (.map (some bd)) ∧ w'.cell? ⟨w.heap.size, 0, none⟩ = some (.int .u64 (s1.toNat : Int)) ∧ w'.cell? ⟨w.heap.size, 1, none⟩ = some (.int .u64 (s2.toNat : Int)) ∧ Hid (Below W0.heap.size W0 w')) (by kernel_rfl) (by kernel_rfl) ⟨c2, c4, d0, d1, Lib.hid (Below.refl _ _).drew⟩ ?_
  repeat
    (first
     | go_big_quiet_skip
     | (go_big_quiet_want
        rename_i K hK
        apply Exists.intro
        refine ⟨fun w' hw' => ?_, hK _ ?_⟩
        · obtain ⟨c2, c4, d0, d1, hB⟩ := hw'
          go_simp
          first
          | with_reducible rfl
        clear hK K
        simp only [Act.put, List.setIfInBounds_toArray, List.set_cons_zero, List.set_cons_succ]))
  refine wpQuiet_nil ?_
  rintro w5 ⟨c2, c4, d0, d1, hB⟩
  go_wp2_with fail
  go_ret
  exact ⟨rfl, below_trans HB0.out hB.out⟩
set_option maxHeartbeats 2000000 in
set_option maxRecDepth 100000 in
theorem dec_twice (h : IAt w x bo bd t O C m) (s : Sess) (code : Int) (hg : ¬ badD s code) (ho : ¬ s.1.toNat < m.ep.toNat) {c : CE} (hc : c ∈ C) (hs : c.s = s) :
    Calls Tryz.prog 26 #[.pointer (some ⟨x, 0, none⟩), .agg #[.int .u64 (s.1.toNat : Int), .int .u64 (s.2.toNat : Int)], .int .i64 code] w fun e w' => e = .returned (.int .i64 3) ∧ Below w.heap.size w w' := by
  obtain ⟨s1, s2⟩ := s
  have hg' := hg
  simp only [badD, not_or, Decidable.not_not] at hg'
  obtain ⟨hc1, hc7, hn1, hn2⟩ := hg'
  have n1 := fun W => nameD_any s1 W
  have n2 := fun W => nameD_any s2 W
  rw [decide_eq_true hn1] at n1
  rw [decide_eq_true hn2] at n2
  have hc7 : ¬ code > 7 := hc7
  clear hg hn1 hn2
  have hlt : decide (s1.toNat < m.ep.toNat) = false := by simpa using ho
  clear ho
  obtain ⟨W0, hW0⟩ : ∃ W0, W0 = w.alloc (.cells #[.int .u64 (s1.toNat : Int), .int .u64 (s2.toNat : Int)] 66) := ⟨_, rfl⟩
  have hB0 : Below w.heap.size w W0 := hW0 ▸ (Below.refl _ _).alloc (Nat.le_refl _) _
  have hb0 : Blk W0 w.heap.size 66 [.int .u64 (s1.toNat : Int), .int .u64 (s2.toNat : Int)] := hW0 ▸ Blk.new w _ _
  have h0 := h.later hB0
  have c2 := h0.blk.cell_some (i := 2) rfl
  have c3 := h0.blk.cell_some (i := 3) rfl
  have c4 := h0.blk.cell_some (i := 4) rfl
  have d0 := hb0.cell_some (i := 0) rfl
  have d1 := hb0.cell_some (i := 1) rfl
  have HB0 := Lib.hid hB0
  have Hb0 := Lib.hid hb0
  have H0 := Lib.hid h0
  have look := fun W hB => h0.lookC hc W hB
  rw [hs] at look
  simp only [sv] at look
  have HL := Lib.hid look
  clear look hc hs
  clear h h0 hB0 hb0
  go_enter Tryz.func26, Tryz.ntmps26
  go_wp2_with fail
  rw [← hW0]
  clear hW0
  refine (none_any _ _ _ c3).mono ?_
  rintro e w1 ⟨rfl, hw⟩
  rw [hw]
  clear hw w1
  go_wp2_with fail
  refine (n1 _).mono ?_
  rintro e w1 ⟨rfl, hw⟩
  rw [hw]
  clear hw w1
  go_wp2_with fail
  refine (n2 _).mono ?_
  rintro e w1 ⟨rfl, hw⟩
  rw [hw]
  clear hw w1
  go_wp2_with fail
  refine region_class (C := fun w' => w'.cell? ⟨x, 2, none⟩ = some (.int .u64 (m.ep.toNat : Int)) ∧ w'.cell? ⟨x, 4, none⟩ = some (.map (some bd)) ∧ w'.cell? ⟨w.heap.size, 0, none⟩ = some (.int .u64 (s1.toNat : Int)) ∧ w'.cell? ⟨w.heap.size, 1, none⟩ = some (.int .u64 (s2.toNat : Int)) ∧ Hid (Below W0.heap.size W0 w')) (by kernel_rfl) (by kernel_rfl) ⟨c2, c4, d0, d1, Lib.hid (Below.refl _ _).drew⟩ ?_
  repeat
    (first
     | go_big_quiet_skip
     | (go_big_quiet_want
        rename_i K hK
        apply Exists.intro
        refine ⟨fun w' hw' => ?_, hK _ ?_⟩
        · obtain ⟨c2, c4, d0, d1, hB⟩ := hw'
          go_simp
          first
          | with_reducible rfl
        clear hK K
        simp only [Act.put, List.setIfInBounds_toArray, List.set_cons_zero, List.set_cons_succ]))
  refine wpQuiet_nil ?_
  rintro w5 ⟨c2, c4, d0, d1, hB⟩
  go_wp2_with fail
  refine region_class (C := fun w' => w'.cell? ⟨x, 2, none⟩ = some (.int .u64 (m.ep.toNat : Int)) ∧ w'.cell? ⟨x, 4, none⟩ = some (.map (some bd)) ∧ w'.cell? ⟨w.heap.size, 0, none⟩ = some (.int .u64 (s1.toNat : Int)) ∧ w'.cell? ⟨w.heap.size, 1, none⟩ = some (.int .u64 (s2.toNat : Int)) ∧ Hid (Below W0.heap.size W0 w')) (by kernel_rfl) (by kernel_rfl) ⟨c2, c4, d0, d1, Lib.hid hB.out.drew⟩ ?_
  repeat
    (first
     | go_big_quiet_skip
     | (go_big_quiet_want
        rename_i K hK
        apply Exists.intro
        refine ⟨fun w' hw' => ?_, hK _ ?_⟩
        · obtain ⟨c2, c4, d0, d1, hB⟩ := hw'
          have l1 := HL.out w' hB.out
          go_simp
          first
          | with_reducible rfl
        clear hK K
        simp only [Act.put, List.setIfInBounds_toArray, List.set_cons_zero, List.set_cons_succ]))
  refine wpQuiet_nil ?_
  rintro w5 ⟨c2, c4, d0, d1, hB⟩
  go_wp2_with fail
  go_ret
  exact ⟨rfl, below_trans HB0.out hB.out⟩
set_option maxHeartbeats 2000000 in
set_option maxRecDepth 100000 in
theorem dec_ok (h : IAt w x bo bd t O C m) (s : Sess) (code : Int) (hg : ¬ badD s code) (ho : ¬ s.1.toNat < m.ep.toNat) (hno : lk m.C s = none) (hr : Room m) (ht : t < 4611686018427387904) :
    Calls Tryz.prog 26 #[.pointer (some ⟨x, 0, none⟩), .agg #[.int .u64 (s.1.toNat : Int), .int .u64 (s.2.toNat : Int)], .int .i64 code] w fun e w' => e = .returned (.int .i64 0) ∧ ∃ O' C', IAt w' x bo bd (t + 1) O' C' ((m.rise s.1).shut s code) ∧ Same (IF x bo bd O C) w w' ∧ ∀ b, IF x bo bd O' C' b → IF x bo bd O C b ∨ w.heap.size ≤ b := by
  obtain ⟨s1, s2⟩ := s
  have hg' := hg
  simp only [badD, not_or, Decidable.not_not] at hg'
  obtain ⟨hc1, hc7, hn1, hn2⟩ := hg'
  have n1 := fun W => nameD_any s1 W
  have n2 := fun W => nameD_any s2 W
  rw [decide_eq_true hn1] at n1
  rw [decide_eq_true hn2] at n2
  have hc7 : ¬ code > 7 := hc7
  clear hg hn1 hn2
  have hlt : decide (s1.toNat < m.ep.toNat) = false := by simpa using ho
  have HN : Hid (∀ y, ((s1, s2), y) ∉ (m.rise s1).C) := Lib.hid (rise_lk (s := (s1, s2)) (by rw [hno]; decide))
  have HE : Hid (s1 = (m.rise s1).ep) := Lib.hid (rise_ep ho).symm
  have HR : Hid (Room (m.rise s1)) := Lib.hid (hr.rise s1)
  have HIW := Lib.hid h
  clear ho hr
  obtain ⟨W0, hW0⟩ : ∃ W0, W0 = w.alloc (.cells #[.int .u64 (s1.toNat : Int), .int .u64 (s2.toNat : Int)] 66) := ⟨_, rfl⟩
  have hB0 : Below w.heap.size w W0 := hW0 ▸ (Below.refl _ _).alloc (Nat.le_refl _) _
  have hb0 : Blk W0 w.heap.size 66 [.int .u64 (s1.toNat : Int), .int .u64 (s2.toNat : Int)] := hW0 ▸ Blk.new w _ _
  have h0 := h.later hB0
  have c2 := h0.blk.cell_some (i := 2) rfl
  have c3 := h0.blk.cell_some (i := 3) rfl
  have c4 := h0.blk.cell_some (i := 4) rfl
  have d0 := hb0.cell_some (i := 0) rfl
  have d1 := hb0.cell_some (i := 1) rfl
  have HB0 := Lib.hid hB0
  have Hb0 := Lib.hid hb0
  have H0 := Lib.hid h0
  have look := fun W hB => h0.lookC_no hno W hB
  simp only [sv] at look
  have HL := Lib.hid look
  clear look hno
  clear h h0 hB0 hb0
  go_enter Tryz.func26, Tryz.ntmps26
  go_wp2_with fail
  rw [← hW0]
  clear hW0
  refine (none_any _ _ _ c3).mono ?_
  rintro e w1 ⟨rfl, hw⟩
  rw [hw]
  clear hw w1
  go_wp2_with fail
  refine (n1 _).mono ?_
  rintro e w1 ⟨rfl, hw⟩
  rw [hw]
  clear hw w1
  go_wp2_with fail
  refine (n2 _).mono ?_
  rintro e w1 ⟨rfl, hw⟩
  rw [hw]
  clear hw w1
  go_wp2_with fail
  refine region_class (C := fun w' => w'.cell? ⟨x, 2, none⟩ = some (.int .u64 (m.ep.toNat : Int)) ∧ w'.cell? ⟨x, 4, none⟩ = some (.map (some bd)) ∧ w'.cell? ⟨w.heap.size, 0, none⟩ = some (.int .u64 (s1.toNat : Int)) ∧ w'.cell? ⟨w.heap.size, 1, none⟩ = some (.int .u64 (s2.toNat : Int)) ∧ Hid (Below W0.heap.size W0 w')) (by kernel_rfl) (by kernel_rfl) ⟨c2, c4, d0, d1, Lib.hid (Below.refl _ _).drew⟩ ?_
  repeat
    (first
     | go_big_quiet_skip
     | (go_big_quiet_want
        rename_i K hK
        apply Exists.intro
        refine ⟨fun w' hw' => ?_, hK _ ?_⟩
        · obtain ⟨c2, c4, d0, d1, hB⟩ := hw'
          go_simp
          first
          | with_reducible rfl
        clear hK K
        simp only [Act.put, List.setIfInBounds_toArray, List.set_cons_zero, List.set_cons_succ]))
  refine wpQuiet_nil ?_
  rintro w5 ⟨c2, c4, d0, d1, hB⟩
  go_wp2_with fail
  refine region_class (C := fun w' => w'.cell? ⟨x, 2, none⟩ = some (.int .u64 (m.ep.toNat : Int)) ∧ w'.cell? ⟨x, 4, none⟩ = some (.map (some bd)) ∧ w'.cell? ⟨w.heap.size, 0, none⟩ = some (.int .u64 (s1.toNat : Int)) ∧ w'.cell? ⟨w.heap.size, 1, none⟩ = some (.int .u64 (s2.toNat : Int)) ∧ Hid (Below W0.heap.size W0 w')) (by kernel_rfl) (by kernel_rfl) ⟨c2, c4, d0, d1, Lib.hid hB.out.drew⟩ ?_
  repeat
    (first
     | go_big_quiet_skip
     | (go_big_quiet_want
        rename_i K hK
        apply Exists.intro
        refine ⟨fun w' hw' => ?_, hK _ ?_⟩
        · obtain ⟨c2, c4, d0, d1, hB⟩ := hw'
          have l1 := HL.out w' hB.out
          go_simp
          first
          | with_reducible rfl
        clear hK K
        simp only [Act.put, List.setIfInBounds_toArray, List.set_cons_zero, List.set_cons_succ]))
  refine wpQuiet_nil ?_
  rintro w5 ⟨c2, c4, d0, d1, hB⟩
  have hsz0 : w.heap.size < W0.heap.size := Hb0.out.lt
  have hI5 := H0.out.later hB.out
  have hb5 := Hb0.out.later hB.out
  have HB5 := Lib.hid (below_trans HB0.out hB.out)
  have hlx : x < w.heap.size := HIW.out.lt (.inl rfl)
  have hlo : bo < w.heap.size := HIW.out.lt (.inr (.inl rfl))
  have hld : bd < w.heap.size := HIW.out.lt (.inr (.inr (.inl rfl)))
  have H5 := Lib.hid hI5
  have Hb5 := Lib.hid hb5
  clear hI5 hb5 hB
  go_wp2_with fail
  refine (rise_any H5.out s1).mono ?_
  rintro e W1 ⟨rfl, O1, C1, hI1, hsO, hsC, hS1⟩
  have hb1 := Hb5.out.same hS1 (by rintro (e | e | e) <;> omega)
  have c3 := hI1.blk.cell_some (i := 3) rfl
  have d0 := hb1.cell_some (i := 0) rfl
  have d1 := hb1.cell_some (i := 1) rfl
  have H1 := Lib.hid hI1; have HsO := Lib.hid hsO; have HsC := Lib.hid hsC; have HS1 := Lib.hid hS1; have Hb1 := Lib.hid hb1
  obtain ⟨W2, hdel, hm2, hS2⟩ := (hI1.mo.drew).del sKL pEL Tryz.underlying84 ((s1, s2) : Sess)
  simp only [sv] at hdel
  have HM2 := Lib.hid hm2; have HS2 := Lib.hid (show Same (at1 bo) W1 W2 from ⟨hS2.os, hS2.tape, hS2.output, hS2.size, hS2.block⟩)
  clear hI1 hsO hsC hS1 hb1 hm2 hS2 c2 c4
  go_wp2_with fail
  refine region_phases [5] (by kernel_rfl) (by kernel_rfl) ?_
  refine phases_more (fun w' => w' = W1.drew) rfl ?_
  simp only [List.take_succ_cons, List.take_zero, List.drop_zero]
  repeat (first
    | go_big_quiet_skip
    | (go_big_quiet_want
       rename_i K hK
       apply Exists.intro
       refine ⟨fun w' hw' => ?_, hK _ ?_⟩
       · subst hw'
         have zz0 : W1.drew.cell? _ = _ := c3
         have zz1 : W1.drew.cell? _ = _ := d0
         have zz2 : W1.drew.cell? _ = _ := d1
         go_simp
         with_reducible rfl
       clear hK K
       simp only [Act.put, List.setIfInBounds_toArray, List.set_cons_zero, List.set_cons_succ]))
  refine wpQuiet_nil ?_
  rintro w7 rfl
  refine phases_op rfl rfl (fun K hK => ?_)
  go_simp
  refine hK _ _ (phases_last (fun w' => w' = W2) rfl ?_)
  clear hdel
  clear hK K
  simp only [Act.put, List.setIfInBounds_toArray, List.set_cons_zero, List.set_cons_succ, List.drop_succ_cons, List.drop_zero]
  refine wpQuiet_nil ?_
  rintro w7 hw7
  rw [hw7]
  clear hw7 w7
  have hmo2 : (owo O1 (s1, s2)).map OE.m = wo (m.rise s1).O (s1, s2) := by rw [owo_m, H1.out.eo]
  have hI2 : IAt W2 x bo bd t (owo O1 (s1, s2)) C1 { (m.rise s1) with O := (owo O1 (s1, s2)).map OE.m } := H1.out.delO (owo_sub O1 _) (by rw [owo_kv]; exact HM2.out) HS2.out (by rw [hmo2]; exact H1.out.inv.subO (wo_sub _))
  have hb2 := Hb1.out.same HS2.out (by intro e; have : w.heap.size = bo := e; omega)
  have hk3 := Blk.new W2 93 [.int .i64 code, .int .i64 0]
  have hB3 : Below W2.heap.size W2 (W2.alloc (.cells [Value.int .i64 code, .int .i64 0].toArray 93)) := (Below.refl _ _).alloc (Nat.le_refl _) _
  have hI3 := hI2.later hB3
  have hb3 := hb2.later hB3
  have hxk : x ≠ W2.heap.size := Nat.ne_of_lt hI2.blk.lt
  have hne2 : bd ≠ W2.heap.size := Nat.ne_of_lt hI2.md.lt
  have hsk : w.heap.size ≠ W2.heap.size := Nat.ne_of_lt hb2.lt
  have hwk : w.heap.size ≤ W2.heap.size := Nat.le_of_lt hb2.lt
  have H2 := Lib.hid hI2; have H3 := Lib.hid hI3; have Hk3 := Lib.hid hk3; have Hb3 := Lib.hid hb3; have HB3 := Lib.hid hB3; have HMO2 := Lib.hid hmo2
  clear hI2 hb2 hk3 hB3 hI3 hb3 hmo2
  go_wp2_with fail
  refine (touch_any x W2.heap.size t 93 _ _ _ _ _ _ _ _ H3.out.blk Hk3.out hxk ht).mono ?_
  rintro e W4 ⟨rfl, hx4, hk4, hS4⟩
  have hb4 := Hb3.out.same hS4 (by rintro (e | e) <;> omega)
  have hm4 := H3.out.md.same hS4 (by rintro (e | e); exact H3.out.x_ne.2 e.symm; exact hne2 e)
  have hlenC : (C1.map CE.kv).length ≤ 4097 := by
    have e1 := H1.out.inv.lc
    have e2 := H1.out.inv.ms2
    have e3 := congrArg List.length H1.out.ec
    rw [List.length_map] at e3 ⊢
    omega
  have hnew : ∀ y, (((s1, s2) : Sess), y) ∉ C1.map CE.kv := fun y hy => by
    obtain ⟨c, hc, e⟩ := List.mem_map.1 hy
    exact HN.out c.code (H1.out.ec ▸ List.mem_map.2 ⟨c, hc, by rw [show (s1, s2) = c.s from (congrArg Prod.fst e).symm]; rfl⟩)
  obtain ⟨W5, hput, hm5, hS5⟩ := (hm4.drew).put sKL pEL Tryz.underlying85 (Nat.lt_of_le_of_lt hlenC (by decide)) hnew (some W2.heap.size)
  simp only [sv, pv] at hput
  have hS5' : Same (at1 bd) W4 W5 := ⟨hS5.os, hS5.tape, hS5.output, hS5.size, hS5.block⟩
  have c4 := hx4.cell_some (i := 4) rfl
  have d0 := hb4.cell_some (i := 0) rfl
  have d1 := hb4.cell_some (i := 1) rfl
  have hS25 : Same (fun k => k = x ∨ k = bd) W2 W5 := ((Same.of_below HB3.out (fun k => k = x ∨ k = bd)).trans hS4 fun i hi e => by
    rcases e with e | e
    · exact .inl e
    · omega).trans hS5' fun i hi e => .inr e
  have hI5 := H2.out.addC (s := (s1, s2)) (kb := W2.heap.size) (code := code) (H2.out.inv.addC HR.out HE.out HN.out code) hm5 (hx4.same hS5' fun e => H3.out.x_ne.2 e) (hk4.same hS5' fun e => hne2 e.symm) hS25 (Nat.le_refl _)
  have HI5 := Lib.hid hI5
  have HS25 := Lib.hid hS25
  have HM5 := Lib.hid hm5
  clear hx4 hk4 hS4 hb4 hm4 hS5 hS5' hS25 hI5 hm5
  go_wp2_with fail
  refine region_phases [6] (by kernel_rfl) (by kernel_rfl) ?_
  refine phases_more (fun w' => w' = W4.drew) rfl ?_
  simp only [List.take_succ_cons, List.take_zero, List.drop_zero]
  repeat (first
    | go_big_quiet_skip
    | (go_big_quiet_want
       rename_i K hK
       apply Exists.intro
       refine ⟨fun w' hw' => ?_, hK _ ?_⟩
       · subst hw'
         have zz0 : W4.drew.cell? _ = _ := c4
         have zz1 : W4.drew.cell? _ = _ := d0
         have zz2 : W4.drew.cell? _ = _ := d1
         go_simp
         with_reducible rfl
       clear hK K
       simp only [Act.put, List.setIfInBounds_toArray, List.set_cons_zero, List.set_cons_succ]))
  refine wpQuiet_nil ?_
  rintro w7 rfl
  refine phases_op rfl rfl (fun K hK => ?_)
  go_simp
  refine hK _ _ (phases_last (fun w' => w' = W5) rfl ?_)
  clear hput
  clear hK K
  simp only [Act.put, List.setIfInBounds_toArray, List.set_cons_zero, List.set_cons_succ, List.drop_succ_cons, List.drop_zero]
  refine wpQuiet_nil ?_
  rintro w7 hw7
  rw [hw7]
  clear hw7 w7
  obtain ⟨N, hN⟩ : ∃ N, N = (C1.map CE.kv ++ [(((s1, s2) : Sess), some W2.heap.size)]).length := ⟨_, rfl⟩
  obtain ⟨M, hM⟩ : ∃ M, M = (m.rise s1).ms := ⟨_, rfl⟩
  have hlen : ∀ W, Below W5.heap.size W5 W → ∀ ty, (Builtin.len_ #[85] ty #[.map (some bd)]).run Tryz.prog W = .ok (.int .i64 (N : Int)) W := fun W hB ty => by
    rw [hN]
    exact (HM5.out.later hB).len Tryz.underlying85 ty
  have e1 := HI5.out.blk.cell_some (i := 1) rfl
  have e4 := HI5.out.blk.cell_some (i := 4) rfl
  change W5.cell? _ = some (.int .i64 (((m.rise s1).ms : Nat) : Int)) at e1
  rw [← hM] at e1
  have HLEN := Lib.hid hlen; have HNN := Lib.hid hN; have HMM := Lib.hid hM
  clear hlen hN hM c4 d0 d1 c3
  go_wp2_with fail
  refine region_class (C := fun w' => w'.cell? ⟨x, 1, none⟩ = some (.int .i64 (M : Int)) ∧ w'.cell? ⟨x, 4, none⟩ = some (.map (some bd)) ∧ Hid (Below W5.heap.size W5 w')) (by kernel_rfl) (by kernel_rfl) ⟨e1, e4, Lib.hid (Below.refl _ _).drew⟩ ?_
  repeat
    (first
     | go_big_quiet_skip
     | (go_big_quiet_want
        rename_i K hK
        apply Exists.intro
        refine ⟨fun w' hw' => ?_, hK _ ?_⟩
        · obtain ⟨e1, e4, hB⟩ := hw'
          have l1 := HLEN.out w' hB.out
          go_simp
          first
          | with_reducible rfl
        clear hK K
        simp only [Act.put, List.setIfInBounds_toArray, List.set_cons_zero, List.set_cons_succ]))
  refine wpQuiet_nil ?_
  rintro w5 ⟨e1, e4, hB⟩
  have hN1 : N = (m.rise s1).C.length + 1 := by
    rw [HNN.out, List.length_append, List.length_map, ← H1.out.ec, List.length_map]
    rfl
  have hSw : Same (IF x bo bd O C) w w5 := (((((Same.of_below HB5.out (IF x bo bd O C)).trans HS1.out fun i hi e => by
    rcases e with e | e | e
    · exact .inl e
    · exact .inr (.inl e)
    · exact .inr (.inr (.inl e))).trans HS2.out fun i hi e => .inr (.inl e)).trans HS25.out fun i hi e => by
    rcases e with e | e
    · exact .inl e
    · exact .inr (.inr (.inl e))).trans (Same.of_below hB.out no) fun i hi e => e.elim)
  have hfoot : ∀ C', C'.Sublist (C1 ++ [⟨(s1, s2), W2.heap.size, t + 1, code⟩]) → ∀ b, IF x bo bd (owo O1 (s1, s2)) C' b → IF x bo bd O C b ∨ w.heap.size ≤ b := fun C' hC' b hb => by
    rcases hb with e | e | e | ⟨o, ho, e⟩ | ⟨c, hc, e⟩
    · exact .inl (.inl e)
    · exact .inl (.inr (.inl e))
    · exact .inl (.inr (.inr (.inl e)))
    · exact .inl (.inr (.inr (.inr (.inl ⟨o, HsO.out.subset ((owo_sub O1 _).subset ho), e⟩))))
    · rcases List.mem_append.1 (hC'.subset hc) with h | h
      · exact .inl (.inr (.inr (.inr (.inr ⟨c, HsC.out.subset h, e⟩))))
      · simp at h
        subst h
        exact .inr (by rw [e]; exact hwk)
  have HN1 := Lib.hid hN1; have HSW := Lib.hid hSw; have HF := Lib.hid hfoot
  clear hN1 hSw hfoot
  by_cases hMN : M < N
  · have hd : decide (M < N) = true := by simpa using hMN
    have HMN := Lib.hid hMN
    clear hMN
    go_wp2_with fail
    have HROW : Hid (∀ W, Below W5.heap.size W5 W → Calls Tryz.prog 48 #[.map (some bd)] W fun e w' => ∃ v, e = .returned v ∧ w'.ownsRow W.heap.size 66 2 v ((m.rise s1).C ++ [((s1, s2), code)]).length ((((m.rise s1).C ++ [((s1, s2), code)]).map (·.1)).flatMap sc) ∧ Below W.heap.size W w') := Lib.hid fun W hB => (HI5.out.later hB).row_c
    obtain ⟨c0, Ct, hC5⟩ : ∃ c0 Ct, C1 ++ [⟨(s1, s2), W2.heap.size, t + 1, code⟩] = c0 :: Ct := by
      cases h : C1 ++ [(⟨(s1, s2), W2.heap.size, t + 1, code⟩ : CE)] with
      | nil => simp at h
      | cons a l => exact ⟨a, l, rfl⟩
    have hm5 : (m.rise s1).C ++ [((s1, s2), code)] = (c0 :: Ct).map CE.m := by rw [← hC5]; exact HI5.out.ec.symm
    have hkv5 : C1.map CE.kv ++ [(((s1, s2) : Sess), some W2.heap.size)] = (c0 :: Ct).map CE.kv := by rw [← hC5, List.map_append]; rfl
    have hdelW : ∀ W, Below W5.heap.size W5 W → ∃ W', (∀ ty, (Builtin.delete_ #[85, 66] ty #[.map (some bd), .agg #[.int .u64 (c0.s.1.toNat : Int), .int .u64 (c0.s.2.toNat : Int)]]).run Tryz.prog W = .ok (.tuple #[]) W') ∧ MapAt W' bd (Ct.map CE.kv) ∧ Same (at1 bd) W W' := fun W hB => by
      have h1 := HM5.out.later hB
      rw [hkv5] at h1
      obtain ⟨W', q1, q2, q3⟩ := h1.del sKL pEL Tryz.underlying85 c0.s
      have e : wo ((c0 :: Ct).map CE.kv) c0.s = Ct.map CE.kv := by
        have hn := h1.1
        rw [List.map_cons, List.map_cons, List.nodup_cons] at hn
        rw [List.map_cons]
        unfold wo
        rw [List.filter_cons, if_neg (by simp [CE.kv])]
        exact wo_none fun y hy => hn.1 (List.mem_map.2 ⟨_, hy, rfl⟩)
      rw [e] at q2
      exact ⟨W', q1, q2, q3⟩
    have HDEL := Lib.hid hdelW; have HC5 := Lib.hid hC5; have HM5' := Lib.hid hm5
    obtain ⟨u1, hu1⟩ : ∃ u1 : Int, u1 = (c0.s.1.toNat : Int) := ⟨_, rfl⟩
    obtain ⟨u2, hu2⟩ : ∃ u2 : Int, u2 = (c0.s.2.toNat : Int) := ⟨_, rfl⟩
    rw [← hu1, ← hu2] at HDEL
    have hcellW : ∀ (W W' : World) (v : Value), W'.ownsRow W.heap.size 66 2 v ((m.rise s1).C ++ [((s1, s2), code)]).length ((((m.rise s1).C ++ [((s1, s2), code)]).map (·.1)).flatMap sc) →
        ∃ g off cap k, v = .slice (some ⟨g, off, none⟩) (k + 1) cap ∧ W'.cell? ⟨g, off, none⟩ = some (.int .u64 u1) ∧ W'.cell? ⟨g, off + 1, none⟩ = some (.int .u64 u2) := fun W W' v ho => by
      rw [hm5, List.map_cons, List.map_cons, List.flatMap_cons] at ho
      obtain ⟨g, off, cap, rfl, -, -, -, hc⟩ := (Rd.of_own ho).form (by simp [sc])
      refine ⟨g, off, cap, (Ct.map CE.m).length, by simp, ?_, ?_⟩
      · rw [hu1]; exact hc 0 _ rfl
      · rw [hu2]; exact hc 1 _ rfl
    have HCELL := Lib.hid hcellW
    have HBW := Lib.hid hB.out
    have HU1 := Lib.hid hu1; have HU2 := Lib.hid hu2
    clear hC5 hm5 hkv5 hdelW hcellW hu1 hu2 hB n1 n2 e1 HL HLEN d0 d1 hd hlt ht
    have hxl : x < w5.heap.size := Nat.lt_of_lt_of_le HI5.out.blk.lt HBW.out.size
    go_region_law (first
      | (go_simp
         go_at_call 48
         refine (HROW.out w5.drew HBW.out.drew).mono ?_
         rintro e w7 ⟨v, rfl, ho7, hB7⟩
         obtain ⟨g, off, cap, k, rfl, q0, q1⟩ := HCELL.out _ _ _ ho7
         have e4' := below_cell hB7 (show w5.drew.cell? ⟨x, 4, none⟩ = some (.map (some bd)) from e4) hxl
         obtain ⟨w8, hdel, hm8, hS8⟩ := HDEL.out w7 (below_trans HBW.out.drew hB7)
         have HB7 := Lib.hid hB7; have HM8 := Lib.hid hm8; have HS8 := Lib.hid hS8
         clear ho7 hB7 hm8 hS8)
      | (go_loud (refine step_del rfl (.tmp 86) (.tmp 93) _ _ rfl rfl rfl hdel ?_)))
    all_goals
      go_wp2_with fail
      go_ret
      have hsub : Ct.Sublist (C1 ++ [⟨(s1, s2), W2.heap.size, t + 1, code⟩]) := by rw [HC5.out]; exact List.sublist_cons_self _ _
      have e : (m.rise s1).shut (s1, s2) code = { (m.rise s1) with O := (owo O1 (s1, s2)).map OE.m, C := Ct.map CE.m } := by
        unfold IM.shut
        rw [if_pos (by have := HMN.out; have := HN1.out; have := HMM.out; omega), HMO2.out, HM5'.out]
        rfl
      rw [e]
      refine ⟨rfl, _, Ct, ?_, (HSW.out.drew.trans (Same.of_below HB7.out no) fun i hi e => e.elim).trans HS8.out (fun i hi e => .inr (.inr (.inl e))), HF.out _ hsub⟩
      have hsm : (Ct.map CE.m).Sublist ((m.rise s1).C ++ [((s1, s2), code)]) := by rw [HM5'.out]; exact List.sublist_cons_self _ _
      exact (HI5.out.later (below_trans HBW.out.drew HB7.out)).delC hsub HM8.out HS8.out (HI5.out.inv.subC hsm)
  · have hd : decide (M < N) = false := by simpa using hMN
    have HMN := Lib.hid hMN
    clear hMN
    go_wp2_with fail
    go_ret
    refine ⟨rfl, _, _, ?_, HSW.out, HF.out _ (List.Sublist.refl _)⟩
    have e : (m.rise s1).shut (s1, s2) code = { (m.rise s1) with O := (owo O1 (s1, s2)).map OE.m, C := (m.rise s1).C ++ [((s1, s2), code)] } := by
      unfold IM.shut
      rw [if_neg (by have := HMN.out; have := HN1.out; have := HMM.out; omega), HMO2.out]
    rw [e]
    exact HI5.out.later hB.out
end
end Go.Proofs.YtfaemjlemaclbaaGreat
