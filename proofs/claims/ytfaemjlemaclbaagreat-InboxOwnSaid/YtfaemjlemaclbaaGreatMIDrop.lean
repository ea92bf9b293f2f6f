/- Epoch, Open, Decided, Drop. -/
import Derived.Test.YtfaemjlemaclbaaGreatMIAt
import Derived.Test.YtfaemjlemaclbaaGreatMPhase
namespace Go.Proofs.YtfaemjlemaclbaaGreat
set_option linter.unusedVariables false
set_option linter.unusedSimpArgs false
open Go.RowKit Go.Maps
section
variable {w : World} {x bo bd t : Nat} {O : List OE} {C : List CE} {m : IM}
set_option maxHeartbeats 400000 in
set_option maxRecDepth 100000 in
theorem epoch_any (h : IAt w x bo bd t O C m) :
    Calls Tryz.prog 27 #[.pointer (some ⟨x, 0, none⟩)] w fun e w' => e = .returned (.int .u64 (m.ep.toNat : Int)) ∧ w' = w := by
  have c2 := h.blk.cell_some (i := 2) rfl
  clear h
  go_enter Tryz.func27, Tryz.ntmps27
  go_wp2
  go_ret
  exact ⟨rfl, rfl⟩
theorem re_kvO (O : List OE) : (O.map OE.re).map RE.kv = O.map OE.kv := by rw [List.map_map]; rfl
theorem re_kvC (C : List CE) : (C.map CE.re).map RE.kv = C.map CE.kv := by rw [List.map_map]; rfl
theorem re_flatO (O : List OE) : (O.map OE.re).flatMap rc = ((O.map OE.m).map (·.1)).flatMap sc := by rw [List.map_map, List.flatMap_map, List.flatMap_map]; rfl
theorem re_flatC (C : List CE) : (C.map CE.re).flatMap rc = ((C.map CE.m).map (·.1)).flatMap sc := by rw [List.map_map, List.flatMap_map, List.flatMap_map]; rfl
theorem IAt.row_o (h : IAt w x bo bd t O C m) : Calls Tryz.prog 39 #[.map (some bo)] w fun e w' => ∃ v, e = .returned v ∧ w'.ownsRow w.heap.size 66 2 v m.O.length ((m.O.map (·.1)).flatMap sc) ∧ Below w.heap.size w w' := by
  have hc := rowO_any (O.map OE.re) bo w (by rw [re_kvO]; exact h.mo) (fun r hr => by
    obtain ⟨o, ho, rfl⟩ := List.mem_map.1 hr
    exact (h.ko.blk o ho).cell_some rfl) (by rw [List.pairwise_map]; exact h.ko.srt) (by
    have h1 := h.inv.lo
    have h2 := h.inv.mo2
    have h3 := congrArg List.length h.eo
    rw [List.length_map] at h3 ⊢
    omega)
  rw [re_flatO, h.eo, List.length_map] at hc
  have h3 := congrArg List.length h.eo
  rw [List.length_map] at h3
  rwa [h3] at hc
theorem IAt.row_c (h : IAt w x bo bd t O C m) : Calls Tryz.prog 48 #[.map (some bd)] w fun e w' => ∃ v, e = .returned v ∧ w'.ownsRow w.heap.size 66 2 v m.C.length ((m.C.map (·.1)).flatMap sc) ∧ Below w.heap.size w w' := by
  have hc := rowC_any (C.map CE.re) bd w (by rw [re_kvC]; exact h.md) (fun r hr => by
    obtain ⟨o, ho, rfl⟩ := List.mem_map.1 hr
    exact (h.kc.blk o ho).cell_some rfl) (by rw [List.pairwise_map]; exact h.kc.srt) (by
    have h1 := h.inv.lc
    have h2 := h.inv.ms2
    have h3 := congrArg List.length h.ec
    rw [List.length_map] at h3 ⊢
    omega)
  rw [re_flatC, h.ec, List.length_map] at hc
  have h3 := congrArg List.length h.ec
  rw [List.length_map] at h3
  rwa [h3] at hc
set_option maxHeartbeats 400000 in
set_option maxRecDepth 100000 in
theorem open_any (h : IAt w x bo bd t O C m) :
    Calls Tryz.prog 17 #[.pointer (some ⟨x, 0, none⟩)] w fun e w' => ∃ v, e = .returned v ∧ w'.ownsRow w.heap.size 66 2 v m.O.length ((m.O.map (·.1)).flatMap sc) ∧ Below w.heap.size w w' := by
  have c3 := h.blk.cell_some (i := 3) rfl
  have hr := Lib.hid h.row_o
  clear h
  go_enter Tryz.func17, Tryz.ntmps17
  go_wp2_with fail
  refine (none_any x bo w c3).mono ?_
  rintro e w1 ⟨rfl, rfl⟩
  go_wp2_with fail
  refine hr.out.mono ?_
  rintro e w2 ⟨v, rfl, h2⟩
  have h2 := Lib.hid h2
  go_wp2_with fail
  go_ret
  exact ⟨_, rfl, h2.out⟩
set_option maxHeartbeats 400000 in
set_option maxRecDepth 100000 in
theorem decided_any (h : IAt w x bo bd t O C m) :
    Calls Tryz.prog 18 #[.pointer (some ⟨x, 0, none⟩)] w fun e w' => ∃ v, e = .returned v ∧ w'.ownsRow w.heap.size 66 2 v m.C.length ((m.C.map (·.1)).flatMap sc) ∧ Below w.heap.size w w' := by
  have c3 := h.blk.cell_some (i := 3) rfl
  have c4 := h.blk.cell_some (i := 4) rfl
  have hr := Lib.hid h.row_c
  clear h
  go_enter Tryz.func18, Tryz.ntmps18
  go_wp2_with fail
  refine (none_any x bo w c3).mono ?_
  rintro e w1 ⟨rfl, rfl⟩
  go_wp2_with fail
  refine hr.out.mono ?_
  rintro e w2 ⟨v, rfl, h2⟩
  have h2 := Lib.hid h2
  go_wp2_with fail
  go_ret
  exact ⟨_, rfl, h2.out⟩
theorem IAt.lookO (h : IAt w x bo bd t O C m) {o : OE} (ho : o ∈ O) (W : World) (hB : Below w.heap.size w W) : (Instr.lookup 84 (.map (some bo)) (sv o.s) false).run Tryz.prog W = .ok (.pointer (some ⟨o.kb, 0, none⟩)) W :=
  ((h.later hB).mo.look sKL pEL Tryz.underlying84 (zeroKO W) (List.mem_map.2 ⟨o, ho, rfl⟩)).1
theorem IAt.lookO_no (h : IAt w x bo bd t O C m) {s : Sess} (hs : lk m.O s = none) (W : World) (hB : Below w.heap.size w W) : (Instr.lookup 84 (.map (some bo)) (sv s) false).run Tryz.prog W = .ok (.pointer none) W :=
  ((h.later hB).mo.look_none sKL pEL Tryz.underlying84 (zeroKO W) (fun y hy => by
    obtain ⟨o, ho, e⟩ := List.mem_map.1 hy
    exact lk_none hs o.box (h.eo ▸ List.mem_map.2 ⟨o, ho, by rw [show s = o.s from (congrArg Prod.fst e).symm]; rfl⟩))).1
theorem IAt.lookC (h : IAt w x bo bd t O C m) {o : CE} (ho : o ∈ C) (W : World) (hB : Below w.heap.size w W) : (Instr.lookup 85 (.map (some bd)) (sv o.s) false).run Tryz.prog W = .ok (.pointer (some ⟨o.kb, 0, none⟩)) W :=
  ((h.later hB).md.look sKL pEL Tryz.underlying85 (zeroKC W) (List.mem_map.2 ⟨o, ho, rfl⟩)).1
theorem IAt.lookC_no (h : IAt w x bo bd t O C m) {s : Sess} (hs : lk m.C s = none) (W : World) (hB : Below w.heap.size w W) : (Instr.lookup 85 (.map (some bd)) (sv s) false).run Tryz.prog W = .ok (.pointer none) W :=
  ((h.later hB).md.look_none sKL pEL Tryz.underlying85 (zeroKC W) (fun y hy => by
    obtain ⟨o, ho, e⟩ := List.mem_map.1 hy
    exact lk_none hs o.code (h.ec ▸ List.mem_map.2 ⟨o, ho, by rw [show s = o.s from (congrArg Prod.fst e).symm]; rfl⟩))).1
theorem IAt.memO (h : IAt w x bo bd t O C m) {s : Sess} {b : BoxS} (hs : lk m.O s = some b) : ∃ o ∈ O, o.s = s ∧ o.box = b := by
  have h1 := lk_mem hs
  rw [← h.eo] at h1
  obtain ⟨o, ho, e⟩ := List.mem_map.1 h1
  exact ⟨o, ho, congrArg Prod.fst e, congrArg Prod.snd e⟩
theorem IAt.memC (h : IAt w x bo bd t O C m) {s : Sess} {c : Int} (hs : lk m.C s = some c) : ∃ o ∈ C, o.s = s ∧ o.code = c := by
  have h1 := lk_mem hs
  rw [← h.ec] at h1
  obtain ⟨o, ho, e⟩ := List.mem_map.1 h1
  exact ⟨o, ho, congrArg Prod.fst e, congrArg Prod.snd e⟩
set_option maxHeartbeats 1000000 in
set_option maxRecDepth 100000 in
theorem drop_no (h : IAt w x bo bd t O C m) (s : Sess) (hs : lk m.O s = none) :
    Calls Tryz.prog 31 #[.pointer (some ⟨x, 0, none⟩), .agg #[.int .u64 (s.1.toNat : Int), .int .u64 (s.2.toNat : Int)]] w fun e w' => e = .returned (.bool false) ∧ Below w.heap.size w w' := by
  have c3 := h.blk.cell_some (i := 3) rfl
  have look := fun W hB => h.lookO_no hs W hB
  have hx := h.blk.lt
  obtain ⟨s1, s2⟩ := s
  simp only [sv] at look ⊢
  have HL := Lib.hid look
  clear h hs look
  go_enter Tryz.func31, Tryz.ntmps31
  go_wp2_with fail
  have hB : Below w.heap.size w (w.alloc (.cells #[.int .u64 (s1.toNat : Int), .int .u64 (s2.toNat : Int)] 66)) := (Below.refl _ _).alloc (Nat.le_refl _) _
  have hb := Blk.new w 66 [.int .u64 (s1.toNat : Int), .int .u64 (s2.toNat : Int)]
  refine region_class (C := fun w' => w'.cell? ⟨x, 3, none⟩ = some (.map (some bo)) ∧ w'.cell? ⟨w.heap.size, 0, none⟩ = some (.int .u64 (s1.toNat : Int)) ∧ w'.cell? ⟨w.heap.size, 1, none⟩ = some (.int .u64 (s2.toNat : Int)) ∧ Hid (Below w.heap.size w w')) (by kernel_rfl) (by kernel_rfl) ⟨below_cell hB c3 hx, hb.cell_some rfl, hb.cell_some rfl, Lib.hid (hB.drew)⟩ ?_
  clear hB hb c3
  repeat
    (first
     | go_big_quiet_skip
     | (go_big_quiet_want
        rename_i K hK
        apply Exists.intro
        refine ⟨fun w' hw' => ?_, hK _ ?_⟩
        · obtain ⟨c3, d0, d1, hB⟩ := hw'
          have l1 := HL.out w' hB.out
          go_simp
          first
          | (go_at_call 33
             refine (none_any _ _ _ c3).mono ?_
             rintro e w1 ⟨rfl, rfl⟩
             exact ⟨rfl, c3, d0, d1, hB⟩)
          | with_reducible rfl
        clear hK K
        simp only [Act.put, List.setIfInBounds_toArray, List.set_cons_zero, List.set_cons_succ]))
  refine wpQuiet_nil ?_
  rintro w5 ⟨-, -, -, hB⟩
  go_wp2_with fail
  go_ret
  exact ⟨rfl, hB.out⟩
set_option maxHeartbeats 1000000 in
set_option maxRecDepth 100000 in
theorem drop_yes (h : IAt w x bo bd t O C m) (o : OE) (ho : o ∈ O) :
    Calls Tryz.prog 31 #[.pointer (some ⟨x, 0, none⟩), .agg #[.int .u64 (o.s.1.toNat : Int), .int .u64 (o.s.2.toNat : Int)]] w fun e w' => e = .returned (.bool true) ∧ MapAt w' bo (wo (O.map OE.kv) o.s) ∧ Same (at1 bo) w w' := by
  have c3 := h.blk.cell_some (i := 3) rfl
  have look := fun W hB => h.lookO ho W hB
  have hx := h.blk.lt
  have hxb := h.x_ne.1
  have HM := Lib.hid h.mo
  obtain ⟨os, kb, gb, wh, box⟩ := o
  obtain ⟨s1, s2⟩ := os
  simp only [sv] at look ⊢
  have HL := Lib.hid look
  have c3w := c3
  clear h look ho
  go_enter Tryz.func31, Tryz.ntmps31
  go_wp2_with fail
  have hB : Below w.heap.size w (w.alloc (.cells #[.int .u64 (s1.toNat : Int), .int .u64 (s2.toNat : Int)] 66)) := (Below.refl _ _).alloc (Nat.le_refl _) _
  have hb := Blk.new w 66 [.int .u64 (s1.toNat : Int), .int .u64 (s2.toNat : Int)]
  refine region_class (C := fun w' => w'.cell? ⟨x, 3, none⟩ = some (.map (some bo)) ∧ w'.cell? ⟨w.heap.size, 0, none⟩ = some (.int .u64 (s1.toNat : Int)) ∧ w'.cell? ⟨w.heap.size, 1, none⟩ = some (.int .u64 (s2.toNat : Int)) ∧ Hid (Below w.heap.size w w')) (by kernel_rfl) (by kernel_rfl) ⟨below_cell hB c3 hx, hb.cell_some rfl, hb.cell_some rfl, Lib.hid (hB.drew)⟩ ?_
  clear hB hb c3 c3w
  repeat
    (first
     | go_big_quiet_skip
     | (go_big_quiet_want
        rename_i K hK
        apply Exists.intro
        refine ⟨fun w' hw' => ?_, hK _ ?_⟩
        · obtain ⟨c3, d0, d1, hB⟩ := hw'
          have l1 := HL.out w' hB.out
          go_simp
          first
          | (go_at_call 33
             refine (none_any _ _ _ c3).mono ?_
             rintro e w1 ⟨rfl, rfl⟩
             exact ⟨rfl, c3, d0, d1, hB⟩)
          | with_reducible rfl
        clear hK K
        simp only [Act.put, List.setIfInBounds_toArray, List.set_cons_zero, List.set_cons_succ]))
  refine wpQuiet_nil ?_
  rintro w5 ⟨c3, d0, d1, hB⟩
  go_wp2_with fail
  obtain ⟨w6, hdel, hm6, hS6⟩ := (HM.out.later hB.out).drew.del sKL pEL Tryz.underlying84 ((s1, s2) : Sess)
  simp only [sv] at hdel
  have HM6 := Lib.hid hm6
  have HS6 := Lib.hid hS6
  clear hm6 hS6
  refine region_phases [5] (by kernel_rfl) (by kernel_rfl) ?_
  refine phases_more (fun w' => w' = w5.drew) rfl ?_
  simp only [List.take_succ_cons, List.take_zero, List.drop_zero]
  repeat (first
    | go_big_quiet_skip
    | (go_big_quiet_want
       rename_i K hK
       apply Exists.intro
       refine ⟨fun w' hw' => ?_, hK _ ?_⟩
       · subst hw'
         have c3' : w5.drew.cell? _ = _ := c3
         have d0' : w5.drew.cell? _ = _ := d0
         have d1' : w5.drew.cell? _ = _ := d1
         go_simp
         with_reducible rfl
       clear hK K
       simp only [Act.put, List.setIfInBounds_toArray, List.set_cons_zero, List.set_cons_succ]))
  refine wpQuiet_nil ?_
  rintro w7 rfl
  refine phases_op rfl rfl (fun K hK => ?_)
  go_simp
  refine hK _ _ (phases_last (fun w' => w' = w6) rfl ?_)
  clear hK K hdel
  simp only [Act.put, List.setIfInBounds_toArray, List.set_cons_zero, List.set_cons_succ, List.drop_succ_cons, List.drop_zero]
  refine wpQuiet_nil ?_
  rintro w7 rfl
  go_wp2_with fail
  go_ret
  exact ⟨rfl, HM6.out, (Same.of_below hB.out.drew (at1 bo)).trans HS6.out fun _ _ h => h⟩
end
end Go.Proofs.YtfaemjlemaclbaaGreat
