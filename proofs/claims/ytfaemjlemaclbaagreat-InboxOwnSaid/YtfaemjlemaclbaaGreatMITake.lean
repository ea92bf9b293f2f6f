/- Take: what is none of the inbox's. Printed by wip/gen_itake.py. -/
import Derived.Test.YtfaemjlemaclbaaGreatMIDec2
import Derived.Test.YtfaemjlemaclbaaGreatMRefGot
namespace Go.Proofs.YtfaemjlemaclbaaGreat
set_option linter.unusedVariables false
set_option linter.unusedSimpArgs false
open Go.RowKit Go.Maps
section
variable {w : World} {x bo bd t : Nat} {O : List OE} {C : List CE} {m : IM}
set_option maxHeartbeats 2000000 in
set_option maxRecDepth 100000 in
theorem take_kind (h : IAt w x bo bd t O C m) (u : UD) (dp gp : Option Addr) (dc gc : Nat) (hk : u.kind ≠ 1) :
    Calls Tryz.prog 14 #[.pointer (some ⟨x, 0, none⟩), uv u (.slice dp u.data.length dc) (.slice gp u.got.length gc)] w fun e w' => e = .returned (.agg #[.int .i64 2, .int .i64 0, .slice none 0 0, .slice none 0 0]) ∧ Below w.heap.size w w' := by
  obtain ⟨kind, ep, ses, path, idx, cnt, data, code, got⟩ := u
  have hk1 : (kind == 1) = false := by simpa using hk
  simp only [uv]
  obtain ⟨W0, hW0⟩ : ∃ W0, W0 = (w.alloc (.cells #[.int .i64 kind, .int .u64 (ep.toNat : Int), .int .u64 (ses.toNat : Int), .int .i64 path, .int .i64 idx, .int .i64 cnt, .slice dp data.length dc, .int .i64 code, .slice gp got.length gc] 35)).alloc (.cells #[.int .i64 0, .int .i64 0, .slice none 0 0, .slice none 0 0] 45) := ⟨_, rfl⟩
  have hB0 : Below w.heap.size w W0 := hW0 ▸ ((Below.refl _ _).alloc (Nat.le_refl _) _).alloc (by simp) _
  have hu0 : Blk W0 w.heap.size 35 [.int .i64 kind, .int .u64 (ep.toNat : Int), .int .u64 (ses.toNat : Int), .int .i64 path, .int .i64 idx, .int .i64 cnt, .slice dp data.length dc, .int .i64 code, .slice gp got.length gc] := hW0 ▸ (Blk.new w _ _).alloc _
  have ha0 : Blk W0 (w.heap.size + 1) 45 [.int .i64 0, .int .i64 0, .slice none 0 0, .slice none 0 0] := by
    have := Blk.new (w.alloc (.cells #[.int .i64 kind, .int .u64 (ep.toNat : Int), .int .u64 (ses.toNat : Int), .int .i64 path, .int .i64 idx, .int .i64 cnt, .slice dp data.length dc, .int .i64 code, .slice gp got.length gc] 35)) 45 [.int .i64 0, .int .i64 0, .slice none 0 0, .slice none 0 0]
    rw [show (w.alloc (.cells #[.int .i64 kind, .int .u64 (ep.toNat : Int), .int .u64 (ses.toNat : Int), .int .i64 path, .int .i64 idx, .int .i64 cnt, .slice dp data.length dc, .int .i64 code, .slice gp got.length gc] 35)).heap.size = w.heap.size + 1 by simp] at this
    exact hW0 ▸ this
  have h0 := h.later hB0
  have c0 := h0.blk.cell_some (i := 0) rfl
  have c1 := h0.blk.cell_some (i := 1) rfl
  have c2 := h0.blk.cell_some (i := 2) rfl
  have c3 := h0.blk.cell_some (i := 3) rfl
  have c4 := h0.blk.cell_some (i := 4) rfl
  have c5 := h0.blk.cell_some (i := 5) rfl
  have d0 := hu0.cell_some (i := 0) rfl
  have d1 := hu0.cell_some (i := 1) rfl
  have d2 := hu0.cell_some (i := 2) rfl
  have d3 := hu0.cell_some (i := 3) rfl
  have d4 := hu0.cell_some (i := 4) rfl
  have d5 := hu0.cell_some (i := 5) rfl
  have d6 := hu0.cell_some (i := 6) rfl
  have d7 := hu0.cell_some (i := 7) rfl
  have d8 := hu0.cell_some (i := 8) rfl
  have HB0 := Lib.hid hB0; have H0 := Lib.hid h0; have HU0 := Lib.hid hu0; have HA0 := Lib.hid ha0; have HIW := Lib.hid h
  have a0 := ha0.cell_some (i := 0) rfl
  have f0 := ha0.frozen 0
  have a1 := ha0.cell_some (i := 1) rfl
  have f1 := ha0.frozen 1
  have a2 := ha0.cell_some (i := 2) rfl
  have f2 := ha0.frozen 2
  have a3 := ha0.cell_some (i := 3) rfl
  have f3 := ha0.frozen 3
  clear h h0 hB0 hu0 ha0
  go_enter Tryz.func14, Tryz.ntmps14
  go_wp2_with fail
  rw [← hW0]
  clear hW0
  refine (none_any _ _ _ c3).mono ?_
  rintro e w1 ⟨rfl, hw⟩
  rw [hw]
  clear hw w1
  go_wp2_with fail
  refine bodyPost_ret (v := .agg #[.int .i64 2, .int .i64 0, .slice none 0 0, .slice none 0 0]) (results_cell_row rfl _ _ (w.heap.size + 1) _ _ _ _ rfl ((((HA0.out.set 0 (.int .i64 2)).set 1 (.int .i64 0)).set 2 (.slice none 0 0)).set 3 (.slice none 0 0)) Tryz.underlying45 rfl (by kernel_rfl)) rfl ?_
  exact ⟨rfl, (((HB0.out.setCell (Nat.le_succ _) _).setCell (Nat.le_succ _) _).setCell (Nat.le_succ _) _).setCell (Nat.le_succ _) _⟩
set_option maxHeartbeats 2000000 in
set_option maxRecDepth 100000 in
theorem take_bad (h : IAt w x bo bd t O C m) (u : UD) (dp gp : Option Addr) (dc gc : Nat) (hk : u.kind = 1) (hdat : ¬ u.isData) :
    Calls Tryz.prog 14 #[.pointer (some ⟨x, 0, none⟩), uv u (.slice dp u.data.length dc) (.slice gp u.got.length gc)] w fun e w' => e = .returned (.agg #[.int .i64 2, .int .i64 0, .slice none 0 0, .slice none 0 0]) ∧ Below w.heap.size w w' := by
  obtain ⟨kind, ep, ses, path, idx, cnt, data, code, got⟩ := u
  simp only at hk
  subst hk
  have hv := fun W => valid_data ⟨1, ep, ses, path, idx, cnt, data, code, got⟩ dp gp dc gc W rfl
  rw [if_neg hdat] at hv
  simp only [uv] at hv
  simp only [uv]
  obtain ⟨W0, hW0⟩ : ∃ W0, W0 = (w.alloc (.cells #[.int .i64 1, .int .u64 (ep.toNat : Int), .int .u64 (ses.toNat : Int), .int .i64 path, .int .i64 idx, .int .i64 cnt, .slice dp data.length dc, .int .i64 code, .slice gp got.length gc] 35)).alloc (.cells #[.int .i64 0, .int .i64 0, .slice none 0 0, .slice none 0 0] 45) := ⟨_, rfl⟩
  have hB0 : Below w.heap.size w W0 := hW0 ▸ ((Below.refl _ _).alloc (Nat.le_refl _) _).alloc (by simp) _
  have hu0 : Blk W0 w.heap.size 35 [.int .i64 1, .int .u64 (ep.toNat : Int), .int .u64 (ses.toNat : Int), .int .i64 path, .int .i64 idx, .int .i64 cnt, .slice dp data.length dc, .int .i64 code, .slice gp got.length gc] := hW0 ▸ (Blk.new w _ _).alloc _
  have ha0 : Blk W0 (w.heap.size + 1) 45 [.int .i64 0, .int .i64 0, .slice none 0 0, .slice none 0 0] := by
    have := Blk.new (w.alloc (.cells #[.int .i64 1, .int .u64 (ep.toNat : Int), .int .u64 (ses.toNat : Int), .int .i64 path, .int .i64 idx, .int .i64 cnt, .slice dp data.length dc, .int .i64 code, .slice gp got.length gc] 35)) 45 [.int .i64 0, .int .i64 0, .slice none 0 0, .slice none 0 0]
    rw [show (w.alloc (.cells #[.int .i64 1, .int .u64 (ep.toNat : Int), .int .u64 (ses.toNat : Int), .int .i64 path, .int .i64 idx, .int .i64 cnt, .slice dp data.length dc, .int .i64 code, .slice gp got.length gc] 35)).heap.size = w.heap.size + 1 by simp] at this
    exact hW0 ▸ this
  have h0 := h.later hB0
  have c0 := h0.blk.cell_some (i := 0) rfl
  have c1 := h0.blk.cell_some (i := 1) rfl
  have c2 := h0.blk.cell_some (i := 2) rfl
  have c3 := h0.blk.cell_some (i := 3) rfl
  have c4 := h0.blk.cell_some (i := 4) rfl
  have c5 := h0.blk.cell_some (i := 5) rfl
  have d0 := hu0.cell_some (i := 0) rfl
  have d1 := hu0.cell_some (i := 1) rfl
  have d2 := hu0.cell_some (i := 2) rfl
  have d3 := hu0.cell_some (i := 3) rfl
  have d4 := hu0.cell_some (i := 4) rfl
  have d5 := hu0.cell_some (i := 5) rfl
  have d6 := hu0.cell_some (i := 6) rfl
  have d7 := hu0.cell_some (i := 7) rfl
  have d8 := hu0.cell_some (i := 8) rfl
  have HB0 := Lib.hid hB0; have H0 := Lib.hid h0; have HU0 := Lib.hid hu0; have HA0 := Lib.hid ha0; have HIW := Lib.hid h
  clear h h0 hB0 hu0 ha0
  go_enter Tryz.func14, Tryz.ntmps14
  go_wp2_with fail
  rw [← hW0]
  clear hW0
  refine (none_any _ _ _ c3).mono ?_
  rintro e w1 ⟨rfl, hw⟩
  rw [hw]
  clear hw w1
  go_wp2_with fail
  refine (hv _).mono ?_
  rintro e W1 ⟨rfl, hB1⟩
  have ha1 := HA0.out.later hB1
  have a0 := ha1.cell_some (i := 0) rfl
  have f0 := ha1.frozen 0
  have a1 := ha1.cell_some (i := 1) rfl
  have f1 := ha1.frozen 1
  have a2 := ha1.cell_some (i := 2) rfl
  have f2 := ha1.frozen 2
  have a3 := ha1.cell_some (i := 3) rfl
  have f3 := ha1.frozen 3
  have HA1 := Lib.hid ha1
  have HB1 := Lib.hid (below_trans HB0.out hB1)
  clear ha1 hB1
  go_wp2_with fail
  refine bodyPost_ret (v := .agg #[.int .i64 2, .int .i64 0, .slice none 0 0, .slice none 0 0]) (results_cell_row rfl _ _ (w.heap.size + 1) _ _ _ _ rfl ((((HA1.out.set 0 (.int .i64 2)).set 1 (.int .i64 0)).set 2 (.slice none 0 0)).set 3 (.slice none 0 0)) Tryz.underlying45 rfl (by kernel_rfl)) rfl ?_
  exact ⟨rfl, (((HB1.out.setCell (Nat.le_succ _) _).setCell (Nat.le_succ _) _).setCell (Nat.le_succ _) _).setCell (Nat.le_succ _) _⟩
set_option maxHeartbeats 2000000 in
set_option maxRecDepth 100000 in
theorem take_stale (h : IAt w x bo bd t O C m) (u : UD) (dp gp : Option Addr) (dc gc : Nat) (hk : u.kind = 1) (hdat : u.isData) (hs : u.ep.toNat < m.ep.toNat) :
    Calls Tryz.prog 14 #[.pointer (some ⟨x, 0, none⟩), uv u (.slice dp u.data.length dc) (.slice gp u.got.length gc)] w fun e w' => e = .returned (.agg #[.int .i64 1, .int .i64 0, .slice none 0 0, .slice none 0 0]) ∧ Below w.heap.size w w' := by
  obtain ⟨kind, ep, ses, path, idx, cnt, data, code, got⟩ := u
  simp only at hk
  subst hk
  have hlt : decide (ep.toNat < m.ep.toNat) = true := by simpa using hs
  have hv := fun W => valid_data ⟨1, ep, ses, path, idx, cnt, data, code, got⟩ dp gp dc gc W rfl
  rw [if_pos hdat] at hv
  simp only [uv] at hv
  simp only [uv]
  obtain ⟨W0, hW0⟩ : ∃ W0, W0 = (w.alloc (.cells #[.int .i64 1, .int .u64 (ep.toNat : Int), .int .u64 (ses.toNat : Int), .int .i64 path, .int .i64 idx, .int .i64 cnt, .slice dp data.length dc, .int .i64 code, .slice gp got.length gc] 35)).alloc (.cells #[.int .i64 0, .int .i64 0, .slice none 0 0, .slice none 0 0] 45) := ⟨_, rfl⟩
  have hB0 : Below w.heap.size w W0 := hW0 ▸ ((Below.refl _ _).alloc (Nat.le_refl _) _).alloc (by simp) _
  have hu0 : Blk W0 w.heap.size 35 [.int .i64 1, .int .u64 (ep.toNat : Int), .int .u64 (ses.toNat : Int), .int .i64 path, .int .i64 idx, .int .i64 cnt, .slice dp data.length dc, .int .i64 code, .slice gp got.length gc] := hW0 ▸ (Blk.new w _ _).alloc _
  have ha0 : Blk W0 (w.heap.size + 1) 45 [.int .i64 0, .int .i64 0, .slice none 0 0, .slice none 0 0] := by
    have := Blk.new (w.alloc (.cells #[.int .i64 1, .int .u64 (ep.toNat : Int), .int .u64 (ses.toNat : Int), .int .i64 path, .int .i64 idx, .int .i64 cnt, .slice dp data.length dc, .int .i64 code, .slice gp got.length gc] 35)) 45 [.int .i64 0, .int .i64 0, .slice none 0 0, .slice none 0 0]
    rw [show (w.alloc (.cells #[.int .i64 1, .int .u64 (ep.toNat : Int), .int .u64 (ses.toNat : Int), .int .i64 path, .int .i64 idx, .int .i64 cnt, .slice dp data.length dc, .int .i64 code, .slice gp got.length gc] 35)).heap.size = w.heap.size + 1 by simp] at this
    exact hW0 ▸ this
  have h0 := h.later hB0
  have c0 := h0.blk.cell_some (i := 0) rfl
  have c1 := h0.blk.cell_some (i := 1) rfl
  have c2 := h0.blk.cell_some (i := 2) rfl
  have c3 := h0.blk.cell_some (i := 3) rfl
  have c4 := h0.blk.cell_some (i := 4) rfl
  have c5 := h0.blk.cell_some (i := 5) rfl
  have d0 := hu0.cell_some (i := 0) rfl
  have d1 := hu0.cell_some (i := 1) rfl
  have d2 := hu0.cell_some (i := 2) rfl
  have d3 := hu0.cell_some (i := 3) rfl
  have d4 := hu0.cell_some (i := 4) rfl
  have d5 := hu0.cell_some (i := 5) rfl
  have d6 := hu0.cell_some (i := 6) rfl
  have d7 := hu0.cell_some (i := 7) rfl
  have d8 := hu0.cell_some (i := 8) rfl
  have HB0 := Lib.hid hB0; have H0 := Lib.hid h0; have HU0 := Lib.hid hu0; have HA0 := Lib.hid ha0; have HIW := Lib.hid h
  clear h h0 hB0 hu0 ha0
  go_enter Tryz.func14, Tryz.ntmps14
  go_wp2_with fail
  rw [← hW0]
  clear hW0
  refine (none_any _ _ _ c3).mono ?_
  rintro e w1 ⟨rfl, hw⟩
  rw [hw]
  clear hw w1
  go_wp2_with fail
  refine (hv _).mono ?_
  rintro e W1 ⟨rfl, hB1⟩
  have c2' := below_cell hB1 c2 (World.block_lt_of_cell? _ _ c2)
  have d1' := below_cell hB1 d1 (World.block_lt_of_cell? _ _ d1)
  have HB1 := Lib.hid hB1
  clear hB1
  go_wp2_with fail
  refine region_class (C := fun w' => w'.cell? ⟨x, 2, none⟩ = some (.int .u64 (m.ep.toNat : Int)) ∧ w'.cell? ⟨w.heap.size, 1, none⟩ = some (.int .u64 (ep.toNat : Int)) ∧ Hid (Below W0.heap.size W0 w')) (by kernel_rfl) (by kernel_rfl) ⟨c2', d1', Lib.hid HB1.out.drew⟩ ?_
  repeat
    (first
     | go_big_quiet_skip
     | (go_big_quiet_want
        rename_i K hK
        apply Exists.intro
        refine ⟨fun w' hw' => ?_, hK _ ?_⟩
        · obtain ⟨c2', d1', hB⟩ := hw'
          go_simp
          first
          | with_reducible rfl
        clear hK K
        simp only [Act.put, List.setIfInBounds_toArray, List.set_cons_zero, List.set_cons_succ]))
  refine wpQuiet_nil ?_
  rintro w5 ⟨c2', d1', hB⟩
  have ha5 := HA0.out.later hB.out
  have a0 := ha5.cell_some (i := 0) rfl
  have f0 := ha5.frozen 0
  have a1 := ha5.cell_some (i := 1) rfl
  have f1 := ha5.frozen 1
  have a2 := ha5.cell_some (i := 2) rfl
  have f2 := ha5.frozen 2
  have a3 := ha5.cell_some (i := 3) rfl
  have f3 := ha5.frozen 3
  have HA5 := Lib.hid ha5
  have HB5 := Lib.hid (below_trans HB0.out hB.out)
  clear ha5 hB
  go_wp2_with fail
  refine bodyPost_ret (v := .agg #[.int .i64 1, .int .i64 0, .slice none 0 0, .slice none 0 0]) (results_cell_row rfl _ _ (w.heap.size + 1) _ _ _ _ rfl ((((HA5.out.set 0 (.int .i64 1)).set 1 (.int .i64 0)).set 2 (.slice none 0 0)).set 3 (.slice none 0 0)) Tryz.underlying45 rfl (by kernel_rfl)) rfl ?_
  exact ⟨rfl, (((HB5.out.setCell (Nat.le_succ _) _).setCell (Nat.le_succ _) _).setCell (Nat.le_succ _) _).setCell (Nat.le_succ _) _⟩
end
end Go.Proofs.YtfaemjlemaclbaaGreat
