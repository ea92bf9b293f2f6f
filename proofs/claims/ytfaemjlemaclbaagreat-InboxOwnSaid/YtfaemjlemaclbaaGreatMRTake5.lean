/- the reference's Take. Printed by wip/gen_rtake.py. -/
import Derived.Test.YtfaemjlemaclbaaGreatMRTake4
namespace Go.Proofs.YtfaemjlemaclbaaGreat
set_option linter.unusedVariables false
set_option linter.unusedSimpArgs false
open Go.RowKit Go.Maps
/-- what a Take of the reference answers. -/
def AnswersR (w w' : World) (d : Nat) (U : Nat → Prop) (m' : IM) (a : Ans) (e : Ending) : Prop :=
  ∃ gv bv, e = .returned (.agg #[.int .i64 a.st, .int .i64 a.code, gv, bv]) ∧ w'.ownsRow w.heap.size 63 2 gv a.got.length (rvs a.got) ∧ w'.ownsRow w.heap.size 5 1 bv a.blk.length (a.blk.map ub) ∧ TookR w w' d U m'
theorem rans_none {w w' : World} {d : Nat} {U : Nat → Prop} {m' : IM} {st cd : Int} (h : TookR w w' d U m') : AnswersR w w' d U m' ⟨st, cd, [], []⟩ (.returned (.agg #[.int .i64 st, .int .i64 cd, .slice none 0 0, .slice none 0 0])) :=
  ⟨_, _, rfl, World.ownsRow_nil _ _ _ _, World.ownsRow_nil _ _ _ _, h⟩
theorem segs_new {u : UD} {m : IM} {s : Sess} (hl : lk m.O s = none) (he : errOf (newBox u) u = 0) : m.seg s u = ({ m with O := m.evict ++ [(s, (newBox u).put u.idx u.data)] }, ansOf ((newBox u).put u.idx u.data)) := by
  unfold IM.seg
  rw [hl]
  exact if_pos he
theorem segs_newN {u : UD} {m : IM} {s : Sess} (hl : lk m.O s = none) (he : ¬ errOf (newBox u) u = 0) : m.seg s u = (m, ⟨2, 0, [], []⟩) := by
  unfold IM.seg
  rw [hl]
  exact if_neg he
theorem segs_old {u : UD} {m : IM} {s : Sess} {b : BoxS} (hl : lk m.O s = some b) (he : (b.cnt : Int) = u.cnt ∧ (errOf b u = 0 ∨ errOf b u = 3)) : m.seg s u = ({ m with O := wo m.O s ++ [(s, b.put u.idx u.data)] }, ansOf (b.put u.idx u.data)) := by
  unfold IM.seg
  rw [hl]
  exact if_pos he
theorem segs_oldN {u : UD} {m : IM} {s : Sess} {b : BoxS} (hl : lk m.O s = some b) (he : ¬ ((b.cnt : Int) = u.cnt ∧ (errOf b u = 0 ∨ errOf b u = 3))) : m.seg s u = (m, ⟨2, 0, [], []⟩) := by
  unfold IM.seg
  rw [hl]
  exact if_neg he
section
variable {w : World} {d : Nat} {vo vs : Value} {L : List RO} {m : IM}
theorem rseg_any (h : RIAt w d vo vs L m) (hi : IInv m) (s : Sess) (u : UD) (dp gp : Option Addr) (dc gc : Nat) (hd : Bs w (.slice dp u.data.length dc) u.data) (hdat : goodD u) (hdn : ∀ k, (Value.slice dp u.data.length dc).ownBlock = some k → k < w.heap.size) :
    Calls Tryz.prog 47 #[.pointer (some ⟨d, 0, none⟩), .agg #[.int .u64 (s.1.toNat : Int), .int .u64 (s.2.toNat : Int)], uv u (.slice dp u.data.length dc) (.slice gp u.got.length gc)] w fun e w' => AnswersR w w' d (RIF d vo vs L) (m.seg s u).1 (m.seg s u).2 e := by
  have hll : L.length ≤ 64 := by
    have h1 := hi.lo
    have h2 := hi.mo2
    rw [← h.eo, List.length_map] at h1
    omega
  cases ho : lk m.O s with
  | none =>
    by_cases he : errOf (newBox u) u = 0
    · rw [segs_new ho he]
      exact rseg_new_ok h hi.ko hll s u dp gp dc gc hd hdat hdn ho hi.mo1 he
    · rw [segs_newN ho he]
      refine (rseg_new_err h hi.ko hll s u dp gp dc gc hd hdat hdn ho he).mono ?_
      rintro e w' ⟨rfl, hT⟩
      exact rans_none hT
  | some b =>
    by_cases hcnt : (b.cnt : Int) = u.cnt
    · by_cases he : errOf b u = 0 ∨ errOf b u = 3
      · rw [segs_old ho ⟨hcnt, he⟩]
        exact rseg_old_ok h hi.ko hll s u dp gp dc gc hd hdat ho hcnt he
      · rw [segs_oldN ho (fun h => he h.2)]
        refine (rseg_old_err h hi.ko hll s u dp gp dc gc hd hdat ho hcnt (fun h => he (.inl h)) (fun h => he (.inr h))).mono ?_
        rintro e w' ⟨rfl, hT⟩
        exact rans_none hT
    · rw [segs_oldN ho (fun h => hcnt h.1)]
      refine (rseg_old_count h hi.ko hll s u dp gp dc gc hd hdat ho hcnt).mono ?_
      rintro e w' ⟨rfl, hT⟩
      exact rans_none hT
set_option maxHeartbeats 2000000 in
set_option maxRecDepth 100000 in
theorem rtake_bad (h : RIAt w d vo vs L m) (u : UD) (dp gp : Option Addr) (dc gc : Nat) (hdat : ¬ u.isData) :
    Calls Tryz.prog 15 #[.pointer (some ⟨d, 0, none⟩), uv u (.slice dp u.data.length dc) (.slice gp u.got.length gc)] w fun e w' => e = .returned (.agg #[.int .i64 2, .int .i64 0, .slice none 0 0, .slice none 0 0]) ∧ TookR w w' d (RIF d vo vs L) m := by
  have hdt := fun W => rdata_any u dp gp dc gc W
  rw [decide_eq_false hdat] at hdt
  obtain ⟨kind, ep, ses, path, idx, cnt, data, code, got⟩ := u
  simp only at hdt
  simp only [uv]
  obtain ⟨W0, hW0⟩ : ∃ W0, W0 = (w.alloc (.cells #[.int .i64 kind, .int .u64 (ep.toNat : Int), .int .u64 (ses.toNat : Int), .int .i64 path, .int .i64 idx, .int .i64 cnt, .slice dp data.length dc, .int .i64 code, .slice gp got.length gc] 35)).alloc (.cells #[.int .i64 0, .int .i64 0, .slice none 0 0, .slice none 0 0] 47) := ⟨_, rfl⟩
  have hB0 : Below w.heap.size w W0 := hW0 ▸ ((Below.refl _ _).alloc (Nat.le_refl _) _).alloc (by simp) _
  have hu0 : Blk W0 w.heap.size 35 [.int .i64 kind, .int .u64 (ep.toNat : Int), .int .u64 (ses.toNat : Int), .int .i64 path, .int .i64 idx, .int .i64 cnt, .slice dp data.length dc, .int .i64 code, .slice gp got.length gc] := hW0 ▸ (Blk.new w _ _).alloc _
  have ha0 : Blk W0 (w.heap.size + 1) 47 [.int .i64 0, .int .i64 0, .slice none 0 0, .slice none 0 0] := by
    have := Blk.new (w.alloc (.cells #[.int .i64 kind, .int .u64 (ep.toNat : Int), .int .u64 (ses.toNat : Int), .int .i64 path, .int .i64 idx, .int .i64 cnt, .slice dp data.length dc, .int .i64 code, .slice gp got.length gc] 35)) 47 [.int .i64 0, .int .i64 0, .slice none 0 0, .slice none 0 0]
    rw [show (w.alloc (.cells #[.int .i64 kind, .int .u64 (ep.toNat : Int), .int .u64 (ses.toNat : Int), .int .i64 path, .int .i64 idx, .int .i64 cnt, .slice dp data.length dc, .int .i64 code, .slice gp got.length gc] 35)).heap.size = w.heap.size + 1 by simp] at this
    exact hW0 ▸ this
  have d0 := hu0.cell_some (i := 0) rfl
  have d1 := hu0.cell_some (i := 1) rfl
  have d2 := hu0.cell_some (i := 2) rfl
  have d3 := hu0.cell_some (i := 3) rfl
  have d4 := hu0.cell_some (i := 4) rfl
  have d5 := hu0.cell_some (i := 5) rfl
  have d6 := hu0.cell_some (i := 6) rfl
  have d7 := hu0.cell_some (i := 7) rfl
  have d8 := hu0.cell_some (i := 8) rfl
  have HB0 := Lib.hid hB0; have HU0 := Lib.hid hu0; have HA0 := Lib.hid ha0; have HW := Lib.hid h; have HDT := Lib.hid hdt
  have hz0 : w.heap.size + 1 < W0.heap.size := ha0.lt
  clear hB0 hu0 ha0 h hdt
  go_enter Tryz.func15, Tryz.ntmps15
  go_wp2_with fail
  rw [← hW0]
  clear hW0
  refine (HDT.out _).mono ?_
  rintro e W1 ⟨rfl, hB1⟩
  clear d0 d1 d2 d3 d4 d5 d6 d7 d8
  have ha1 := HA0.out.later hB1
  have a0 := ha1.cell_some (i := 0) rfl
  have f0 := ha1.frozen 0
  have a1 := ha1.cell_some (i := 1) rfl
  have f1 := ha1.frozen 1
  have a2 := ha1.cell_some (i := 2) rfl
  have f2 := ha1.frozen 2
  have a3 := ha1.cell_some (i := 3) rfl
  have f3 := ha1.frozen 3
  have HA1 := Lib.hid ha1; have HB1 := Lib.hid (below_trans HB0.out hB1)
  clear ha1 hB1
  go_wp2_with fail
  refine bodyPost_ret (v := .agg #[.int .i64 2, .int .i64 0, .slice none 0 0, .slice none 0 0]) (results_cell_row rfl _ _ (w.heap.size + 1) _ _ _ _ rfl ((((HA1.out.set 0 (.int .i64 2)).set 1 (.int .i64 0)).set 2 (.slice none 0 0)).set 3 (.slice none 0 0)) Tryz.underlying47 rfl (by kernel_rfl)) rfl ?_
  exact ⟨rfl, (HW.out.later HB1.out).took (Turn.of_below HB1.out _) HA1.out (by omega) _ _ _ _⟩
set_option maxHeartbeats 2000000 in
set_option maxRecDepth 100000 in
theorem rtake_stale (h : RIAt w d vo vs L m) (u : UD) (dp gp : Option Addr) (dc gc : Nat) (hdat : u.isData) (hs : u.ep.toNat < m.ep.toNat) :
    Calls Tryz.prog 15 #[.pointer (some ⟨d, 0, none⟩), uv u (.slice dp u.data.length dc) (.slice gp u.got.length gc)] w fun e w' => e = .returned (.agg #[.int .i64 1, .int .i64 0, .slice none 0 0, .slice none 0 0]) ∧ TookR w w' d (RIF d vo vs L) m := by
  have hlt : decide (u.ep.toNat < m.ep.toNat) = true := by simpa using hs
  clear hs
  have hdt := fun W => rdata_any u dp gp dc gc W
  rw [decide_eq_true hdat] at hdt
  obtain ⟨kind, ep, ses, path, idx, cnt, data, code, got⟩ := u
  simp only at hdt
  simp only [uv]
  obtain ⟨W0, hW0⟩ : ∃ W0, W0 = (w.alloc (.cells #[.int .i64 kind, .int .u64 (ep.toNat : Int), .int .u64 (ses.toNat : Int), .int .i64 path, .int .i64 idx, .int .i64 cnt, .slice dp data.length dc, .int .i64 code, .slice gp got.length gc] 35)).alloc (.cells #[.int .i64 0, .int .i64 0, .slice none 0 0, .slice none 0 0] 47) := ⟨_, rfl⟩
  have hB0 : Below w.heap.size w W0 := hW0 ▸ ((Below.refl _ _).alloc (Nat.le_refl _) _).alloc (by simp) _
  have hu0 : Blk W0 w.heap.size 35 [.int .i64 kind, .int .u64 (ep.toNat : Int), .int .u64 (ses.toNat : Int), .int .i64 path, .int .i64 idx, .int .i64 cnt, .slice dp data.length dc, .int .i64 code, .slice gp got.length gc] := hW0 ▸ (Blk.new w _ _).alloc _
  have ha0 : Blk W0 (w.heap.size + 1) 47 [.int .i64 0, .int .i64 0, .slice none 0 0, .slice none 0 0] := by
    have := Blk.new (w.alloc (.cells #[.int .i64 kind, .int .u64 (ep.toNat : Int), .int .u64 (ses.toNat : Int), .int .i64 path, .int .i64 idx, .int .i64 cnt, .slice dp data.length dc, .int .i64 code, .slice gp got.length gc] 35)) 47 [.int .i64 0, .int .i64 0, .slice none 0 0, .slice none 0 0]
    rw [show (w.alloc (.cells #[.int .i64 kind, .int .u64 (ep.toNat : Int), .int .u64 (ses.toNat : Int), .int .i64 path, .int .i64 idx, .int .i64 cnt, .slice dp data.length dc, .int .i64 code, .slice gp got.length gc] 35)).heap.size = w.heap.size + 1 by simp] at this
    exact hW0 ▸ this
  have d0 := hu0.cell_some (i := 0) rfl
  have d1 := hu0.cell_some (i := 1) rfl
  have d2 := hu0.cell_some (i := 2) rfl
  have d3 := hu0.cell_some (i := 3) rfl
  have d4 := hu0.cell_some (i := 4) rfl
  have d5 := hu0.cell_some (i := 5) rfl
  have d6 := hu0.cell_some (i := 6) rfl
  have d7 := hu0.cell_some (i := 7) rfl
  have d8 := hu0.cell_some (i := 8) rfl
  have HB0 := Lib.hid hB0; have HU0 := Lib.hid hu0; have HA0 := Lib.hid ha0; have HW := Lib.hid h; have HDT := Lib.hid hdt
  have hz0 : w.heap.size + 1 < W0.heap.size := ha0.lt
  clear hB0 hu0 ha0 h hdt
  simp only at hlt
  go_enter Tryz.func15, Tryz.ntmps15
  go_wp2_with fail
  rw [← hW0]
  clear hW0
  refine (HDT.out _).mono ?_
  rintro e W1 ⟨rfl, hB1⟩
  clear d0 d1 d2 d3 d4 d5 d6 d7 d8
  have h1 := HW.out.later (below_trans HB0.out hB1)
  have hu1 := HU0.out.later hB1
  have x2 := h1.blk.cell_some (i := 2) rfl
  have d1 := hu1.cell_some (i := 1) rfl
  have HB1 := Lib.hid hB1; have H1 := Lib.hid h1; have HU1 := Lib.hid hu1; have HA1 := Lib.hid (HA0.out.later hB1)
  clear h1 hu1 hB1
  go_wp2_with fail
  refine region_class (C := fun w' => w'.cell? ⟨w.heap.size, 1, none⟩ = some (.int .u64 (ep.toNat : Int)) ∧ w'.cell? ⟨d, 2, none⟩ = some (.int .u64 (m.ep.toNat : Int)) ∧ Hid (Below W1.heap.size W1 w')) (by kernel_rfl) (by kernel_rfl) ⟨d1, x2, Lib.hid (Below.refl _ _).drew⟩ ?_
  repeat
    (first
     | go_big_quiet_skip
     | (go_big_quiet_want
        rename_i K hK
        apply Exists.intro
        refine ⟨fun w' hw' => ?_, hK _ ?_⟩
        · obtain ⟨d1, x2, hB⟩ := hw'
          go_simp
          first
          | with_reducible rfl
        clear hK K
        simp only [Act.put, List.setIfInBounds_toArray, List.set_cons_zero, List.set_cons_succ]))
  refine wpQuiet_nil ?_
  rintro w5 ⟨d1, x2, hB⟩
  have ha5 := HA1.out.later hB.out
  have a0 := ha5.cell_some (i := 0) rfl
  have f0 := ha5.frozen 0
  have a1 := ha5.cell_some (i := 1) rfl
  have f1 := ha5.frozen 1
  have a2 := ha5.cell_some (i := 2) rfl
  have f2 := ha5.frozen 2
  have a3 := ha5.cell_some (i := 3) rfl
  have f3 := ha5.frozen 3
  have HA5 := Lib.hid ha5; have HB5 := Lib.hid (below_trans HB0.out (below_trans HB1.out hB.out))
  clear ha5 hB
  go_wp2_with fail
  refine bodyPost_ret (v := .agg #[.int .i64 1, .int .i64 0, .slice none 0 0, .slice none 0 0]) (results_cell_row rfl _ _ (w.heap.size + 1) _ _ _ _ rfl ((((HA5.out.set 0 (.int .i64 1)).set 1 (.int .i64 0)).set 2 (.slice none 0 0)).set 3 (.slice none 0 0)) Tryz.underlying47 rfl (by kernel_rfl)) rfl ?_
  exact ⟨rfl, (HW.out.later HB5.out).took (Turn.of_below HB5.out _) HA5.out (by omega) _ _ _ _⟩
set_option maxHeartbeats 2000000 in
set_option maxRecDepth 100000 in
theorem rtake_shut (h : RIAt w d vo vs L m) (u : UD) (dp gp : Option Addr) (dc gc : Nat) (hi : IInv m) (hdat : u.isData) (hs : ¬ u.ep.toNat < m.ep.toNat) {cd : Int} (hc : lk (m.rise u.ep).C (u.ep, u.ses) = some cd) :
    Calls Tryz.prog 15 #[.pointer (some ⟨d, 0, none⟩), uv u (.slice dp u.data.length dc) (.slice gp u.got.length gc)] w fun e w' => e = .returned (.agg #[.int .i64 5, .int .i64 cd, .slice none 0 0, .slice none 0 0]) ∧ TookR w w' d (RIF d vo vs L) ((m.rise u.ep).touch (u.ep, u.ses) cd) := by
  have hlt : decide (u.ep.toNat < m.ep.toNat) = false := by simpa using hs
  have HI := Lib.hid (hi.rise u.ep)
  obtain ⟨CA, CB, hCC, hCA⟩ := lk_split hc
  have HCC := Lib.hid hCC; have HCA := Lib.hid hCA
  clear hs hc hCC hCA hi
  have hdt := fun W => rdata_any u dp gp dc gc W
  rw [decide_eq_true hdat] at hdt
  obtain ⟨kind, ep, ses, path, idx, cnt, data, code, got⟩ := u
  simp only at hdt
  simp only [uv]
  obtain ⟨W0, hW0⟩ : ∃ W0, W0 = (w.alloc (.cells #[.int .i64 kind, .int .u64 (ep.toNat : Int), .int .u64 (ses.toNat : Int), .int .i64 path, .int .i64 idx, .int .i64 cnt, .slice dp data.length dc, .int .i64 code, .slice gp got.length gc] 35)).alloc (.cells #[.int .i64 0, .int .i64 0, .slice none 0 0, .slice none 0 0] 47) := ⟨_, rfl⟩
  have hB0 : Below w.heap.size w W0 := hW0 ▸ ((Below.refl _ _).alloc (Nat.le_refl _) _).alloc (by simp) _
  have hu0 : Blk W0 w.heap.size 35 [.int .i64 kind, .int .u64 (ep.toNat : Int), .int .u64 (ses.toNat : Int), .int .i64 path, .int .i64 idx, .int .i64 cnt, .slice dp data.length dc, .int .i64 code, .slice gp got.length gc] := hW0 ▸ (Blk.new w _ _).alloc _
  have ha0 : Blk W0 (w.heap.size + 1) 47 [.int .i64 0, .int .i64 0, .slice none 0 0, .slice none 0 0] := by
    have := Blk.new (w.alloc (.cells #[.int .i64 kind, .int .u64 (ep.toNat : Int), .int .u64 (ses.toNat : Int), .int .i64 path, .int .i64 idx, .int .i64 cnt, .slice dp data.length dc, .int .i64 code, .slice gp got.length gc] 35)) 47 [.int .i64 0, .int .i64 0, .slice none 0 0, .slice none 0 0]
    rw [show (w.alloc (.cells #[.int .i64 kind, .int .u64 (ep.toNat : Int), .int .u64 (ses.toNat : Int), .int .i64 path, .int .i64 idx, .int .i64 cnt, .slice dp data.length dc, .int .i64 code, .slice gp got.length gc] 35)).heap.size = w.heap.size + 1 by simp] at this
    exact hW0 ▸ this
  have d0 := hu0.cell_some (i := 0) rfl
  have d1 := hu0.cell_some (i := 1) rfl
  have d2 := hu0.cell_some (i := 2) rfl
  have d3 := hu0.cell_some (i := 3) rfl
  have d4 := hu0.cell_some (i := 4) rfl
  have d5 := hu0.cell_some (i := 5) rfl
  have d6 := hu0.cell_some (i := 6) rfl
  have d7 := hu0.cell_some (i := 7) rfl
  have d8 := hu0.cell_some (i := 8) rfl
  have HB0 := Lib.hid hB0; have HU0 := Lib.hid hu0; have HA0 := Lib.hid ha0; have HW := Lib.hid h; have HDT := Lib.hid hdt
  have hz0 : w.heap.size + 1 < W0.heap.size := ha0.lt
  clear hB0 hu0 ha0 h hdt
  simp only at hlt HI HCC HCA
  go_enter Tryz.func15, Tryz.ntmps15
  go_wp2_with fail
  rw [← hW0]
  clear hW0
  refine (HDT.out _).mono ?_
  rintro e W1 ⟨rfl, hB1⟩
  clear d0 d1 d2 d3 d4 d5 d6 d7 d8
  have h1 := HW.out.later (below_trans HB0.out hB1)
  have hu1 := HU0.out.later hB1
  have x2 := h1.blk.cell_some (i := 2) rfl
  have d1 := hu1.cell_some (i := 1) rfl
  have HB1 := Lib.hid hB1; have H1 := Lib.hid h1; have HU1 := Lib.hid hu1; have HA1 := Lib.hid (HA0.out.later hB1)
  clear h1 hu1 hB1
  go_wp2_with fail
  refine region_class (C := fun w' => w'.cell? ⟨w.heap.size, 1, none⟩ = some (.int .u64 (ep.toNat : Int)) ∧ w'.cell? ⟨d, 2, none⟩ = some (.int .u64 (m.ep.toNat : Int)) ∧ Hid (Below W1.heap.size W1 w')) (by kernel_rfl) (by kernel_rfl) ⟨d1, x2, Lib.hid (Below.refl _ _).drew⟩ ?_
  repeat
    (first
     | go_big_quiet_skip
     | (go_big_quiet_want
        rename_i K hK
        apply Exists.intro
        refine ⟨fun w' hw' => ?_, hK _ ?_⟩
        · obtain ⟨d1, x2, hB⟩ := hw'
          go_simp
          first
          | with_reducible rfl
        clear hK K
        simp only [Act.put, List.setIfInBounds_toArray, List.set_cons_zero, List.set_cons_succ]))
  refine wpQuiet_nil ?_
  rintro w5 ⟨d1, x2, hB⟩
  have h5 := H1.out.later hB.out
  have hu5 := HU1.out.later hB.out
  have ha5 := HA1.out.later hB.out
  have d1 := hu5.cell_some (i := 1) rfl
  have hdw := HW.out.blk.lt
  have HB5 := Lib.hid (below_trans HB0.out (below_trans HB1.out hB.out)); have H5 := Lib.hid h5; have HU5 := Lib.hid hu5; have HA5 := Lib.hid ha5
  clear h5 hu5 ha5 hB x2
  go_wp2_with fail
  refine (rrise_any H5.out ep).mono ?_
  rintro e W2 ⟨rfl, vo1, vs1, L1, h2, hS2, hF2⟩
  have hu2 := HU5.out.same hS2 (fun e => by
    have : w.heap.size = d := e
    omega)
  have ha2 := HA5.out.same hS2 (fun e => by
    have : w.heap.size + 1 = d := e
    omega)
  have d0 := hu2.cell_some (i := 0) rfl
  have d1 := hu2.cell_some (i := 1) rfl
  have d2 := hu2.cell_some (i := 2) rfl
  have d3 := hu2.cell_some (i := 3) rfl
  have d4 := hu2.cell_some (i := 4) rfl
  have d5 := hu2.cell_some (i := 5) rfl
  have d6 := hu2.cell_some (i := 6) rfl
  have d7 := hu2.cell_some (i := 7) rfl
  have d8 := hu2.cell_some (i := 8) rfl
  have hu2l := hu2.lt
  have ha2l := ha2.lt
  obtain ⟨W3, hW3⟩ : ∃ W3, W3 = W2.alloc (.cells #[.int .u64 (ep.toNat : Int), .int .u64 (ses.toNat : Int)] 68) := ⟨_, rfl⟩
  have hB3 : Below W2.heap.size W2 W3 := hW3 ▸ (Below.refl _ _).alloc (Nat.le_refl _) _
  have hs3 : Blk W3 W2.heap.size 68 [.int .u64 (ep.toNat : Int), .int .u64 (ses.toNat : Int)] := hW3 ▸ Blk.new W2 _ _
  have h3 := h2.later hB3
  have t3 : Turn (RIF d vo vs L) (RIF d vo1 vs1 L1) w W3 := ((Turn.of_below HB5.out (RIF d vo vs L)).trans ⟨hS2.mono fun k _ e => .inl e, fun k hk => .inl (hF2 k hk)⟩).trans (Turn.of_below hB3 _)
  have HS3 := Lib.hid hs3; have H3 := Lib.hid h3; have HT3 := Lib.hid t3; have HU3 := Lib.hid (hu2.later hB3); have HA3 := Lib.hid (ha2.later hB3)
  clear h2 hS2 hF2 hu2 ha2 hB3 hs3 h3 t3
  have hc97 : (m.rise ep).C.length ≤ 4097 := by
    have h1 := HI.out.lc
    have h2 := HI.out.ms2
    omega
  have s0 := HS3.out.cell_some (i := 0) rfl
  have s1 := HS3.out.cell_some (i := 1) rfl
  have hsh := rshut_yes H3.out HCC.out HCA.out (by omega)
  simp only at hsh
  have HSH := Lib.hid hsh
  clear hsh
  go_wp2_with fail
  rw [← hW3]
  clear hW3 d0 d1 d2 d3 d4 d5 d6 d7 d8
  refine HSH.out.mono ?_
  rintro e W4 ⟨rfl, hB4⟩
  have h4 := H3.out.later hB4
  obtain ⟨N, hN⟩ : ∃ N, N = (m.rise ep).C.length := ⟨_, rfl⟩
  obtain ⟨k, hk⟩ : ∃ k, k = CA.length := ⟨_, rfl⟩
  have hrs := h4.rs
  rw [← hN] at hrs hc97
  obtain ⟨ao, cap, hvs, hnc, hcm, hao⟩ := own_open hrs
  have c4 := h4.blk.cell_some (i := 4) rfl
  rw [hvs] at c4 hrs
  have hltN : k < N := by rw [hN, hk, HCC.out]; simp
  obtain ⟨b, rfl⟩ := hao (by omega)
  have hat : ((m.rise ep).C.map ce)[k]? = some (((ep, ses) : Sess), .int .i64 cd) := by
    rw [HCC.out, List.getElem?_map, hk, List.getElem?_append_right (Nat.le_refl _), Nat.sub_self]
    rfl
  have q0 := hrs.cells (g := b) rfl (k * 3) _ (by have := e3s_at _ hat 0 (by omega); rw [Nat.add_zero] at this; rw [this]; rfl)
  have q1 := hrs.cells (g := b) rfl (k * 3 + 1) _ (by rw [e3s_at _ hat 1 (by omega)]; rfl)
  have q2 := hrs.cells (g := b) rfl (k * 3 + 2) _ (by rw [e3s_at _ hat 2 (by omega)]; rfl)
  rw [Addr.add_lit, Nat.zero_add] at q0 q1 q2
  have ix1 : (k : Int) < (N : Int) := by omega
  have ix0 : (0 : Int) ≤ (k : Int) := by omega
  simp only [maxLen] at hcm
  rw [← hk]
  have hdl := h4.blk.lt
  have hbl : b < W4.heap.size := World.block_lt_of_cell? _ _ q0
  obtain ⟨W5, hW5⟩ : ∃ W5, W5 = W4.alloc (.cells #[.int .u64 (ep.toNat : Int), .int .u64 (ses.toNat : Int), .int .i64 cd] 82) := ⟨_, rfl⟩
  have hB5 : Below W4.heap.size W4 W5 := hW5 ▸ (Below.refl _ _).alloc (Nat.le_refl _) _
  have hO5 : Blk W5 W4.heap.size 82 [.int .u64 (ep.toNat : Int), .int .u64 (ses.toNat : Int), .int .i64 cd] := hW5 ▸ Blk.new W4 _ _
  have H5' := Lib.hid (h4.later hB5); have HO5 := Lib.hid hO5; have HA5' := Lib.hid ((HA3.out.later hB4).later hB5); have HT5 := Lib.hid ((HT3.out.trans (Turn.of_below hB4 _)).trans (Turn.of_below hB5 _)); have HN := Lib.hid hN; have HKK := Lib.hid hk
  have hob5 : W4.heap.size < W5.heap.size := hO5.lt
  have hw4 : w.heap.size + 1 < W4.heap.size := Nat.lt_of_lt_of_le HA3.out.lt hB4.size
  have hfor := rforget_any (h4.later hB5) (A := CA) (p := (((ep, ses) : Sess), cd)) (B := CB) HCC.out (by rw [← hN]; omega)
  rw [← hk] at hfor
  have HFOR := Lib.hid hfor
  clear hfor h4 hB4 hB5 hO5 hrs hvs hao hat hN hk s0 s1
  go_wp2_with fail
  rw [← hW5]
  clear hW5 q0 q1 q2 c4
  refine HFOR.out.mono ?_
  rintro e W10 ⟨rfl, vs2, h10, hS10, hbase⟩
  have hO10 := HO5.out.same hS10 fun e => by
    have : W4.heap.size = d := e
    omega
  have hA10 := HA5'.out.same hS10 fun e => by
    have : w.heap.size + 1 = d := e
    omega
  have ht10 : Turn (RIF d vo vs L) (RIF d vo1 vs2 L1) w W10 := HT5.out.trans ⟨hS10.mono fun k _ e => .inl e, fun k hk => by
    rcases hk with e | e | e | e
    · exact .inl (.inl e)
    · exact .inl (.inr (.inl e))
    · exact .inr (hbase k e)
    · exact .inl (.inr (.inr (.inr e)))⟩
  have HOD : Hid (vs2.ownBlock ≠ some W4.heap.size) := Lib.hid fun e => by have := hbase _ e; omega
  have HAD : Hid (vs2.ownBlock ≠ some (w.heap.size + 1)) := Lib.hid fun e => by have := hbase _ e; omega
  have HDO : Hid (W4.heap.size ≠ d) := Lib.hid (by omega)
  have HDA : Hid (w.heap.size + 1 ≠ d) := Lib.hid (by omega)
  obtain ⟨CR, hCR⟩ : ∃ CR, CR = CA ++ CB := ⟨_, rfl⟩
  rw [← hCR] at h10
  have hlen : CR.length ≤ 4097 := by
    have h1 := HN.out
    rw [HCC.out] at h1
    rw [hCR]
    simp only [List.length_append, List.length_cons] at h1 ⊢
    omega
  have HCR := Lib.hid hCR
  have H10 := Lib.hid h10; have HO10 := Lib.hid hO10; have HA10 := Lib.hid hA10; have HT10 := Lib.hid ht10
  clear h10 hS10 hbase hO10 hA10 ht10 hCR
  have c4 := H10.out.blk.cell_some (i := 4) rfl
  have f4 := H10.out.blk.frozen 4
  have hrl := H10.out.blk.lt
  have hown := H10.out.rs
  have hrn := H10.out.d_ne.2
  obtain ⟨N1, hN1⟩ : ∃ N1, N1 = CR.length := ⟨_, rfl⟩
  change W10.ownsRow 0 82 3 vs2 CR.length (e3s (CR.map ce)) at hown
  rw [← hN1] at hown hlen
  obtain ⟨ao1, cap1, hvo, -⟩ := own_open hown
  have p0 := HO10.out.cell_some (i := 0) rfl
  have p1 := HO10.out.cell_some (i := 1) rfl
  have p2 := HO10.out.cell_some (i := 2) rfl
  have hobn := HO10.out.lt
  rw [hvo] at c4 hrn
  have hownX : W10.ownsRow 0 82 3 (.slice ao1 N1 cap1) N1 (e3s (CR.map ce)) := hvo ▸ hown
  have HOX := Lib.hid hownX; have HN1 := Lib.hid hN1; have HVO := Lib.hid hvo
  clear hN1 hvo hown hownX
  go_wp2_with fail
  go_region_law (go_loud (refine step_app El.sht rfl (.tmp 48) (.tmp 50) rfl (by first | exact HOX.out.alloc _ | exact (HOX.out.alloc _).drew) rfl (by first | exact Rd.new _ _ [Value.int .u64 (ep.toNat : Int), .int .u64 (ses.toNat : Int), .int .i64 cd] 1 (by simp [maxLen]) | exact Rd.drew (Rd.new _ _ [Value.int .u64 (ep.toNat : Int), .int .u64 (ses.toNat : Int), .int .i64 cd] 1 (by simp [maxLen]))) rfl rfl (by intro x hx; simp at hx; rcases hx with rfl | rfl | rfl <;> rfl) (by omega) (Nat.zero_le _) ?_); intro v2 w3 hown2 hgr2 hN2; obtain ⟨g2, c2, hv2, _, _⟩ := hown2.form (by omega); subst hv2; have hgr := grown_pre (w := W10) (by first | exact ((Below.refl _ _).alloc (Nat.le_refl _) _).drew | exact ((Below.refl _ _).drew).alloc (Nat.le_refl _) _) hgr2; have hNN := hN2.pre (w := W10) (by simp); have cg := hgr.cell (a := ⟨d, 4, none⟩) c4 (Ne.symm hrn); have fg := (World.frozen?_of_block (a := ⟨d, 4, none⟩) (hgr.block d hrl (Ne.symm hrn))).trans f4; clear hgr2 hN2)
  all_goals
    have hgr' : W10.grownBy w3 vs2.ownBlock := by rw [HVO.out]; exact hgr
    have hNN' : Newer W10 vs2 (.slice (some ⟨g2, 0, none⟩) (N1 + 1) c2) := by rw [HVO.out]; exact hNN
    have hown3 : w3.ownsRow 0 82 3 (.slice (some ⟨g2, 0, none⟩) (N1 + 1) c2) (CR.length + 1) (e3s (CR.map ce) ++ e3 (ce (((ep, ses) : Sess), cd))) := by
      rw [← HN1.out]
      exact hown2
    obtain ⟨h12, t12⟩ := H10.out.addC (p := (((ep, ses) : Sess), cd)) hown3 hgr' hNN'
    obtain ⟨W12, hW12⟩ : ∃ W12, W12 = w3.setCell ⟨d, 4, none⟩ (.slice (some ⟨g2, 0, none⟩) (N1 + 1) c2) := ⟨_, rfl⟩
    have hO12 := (HO10.out.grown hgr' HOD.out).far (p := ⟨d, 4, none⟩) (fun e => HDO.out e) (.slice (some ⟨g2, 0, none⟩) (N1 + 1) c2)
    have hA12 := (HA10.out.grown hgr' HAD.out).far (p := ⟨d, 4, none⟩) (fun e => HDA.out e) (.slice (some ⟨g2, 0, none⟩) (N1 + 1) c2)
    rw [← hW12] at h12 t12 hO12 hA12 ⊢
    have k2 := hO12.cell_some (i := 2) rfl
    have a0 := hA12.cell_some (i := 0) rfl
    have f0 := hA12.frozen 0
    have a1 := hA12.cell_some (i := 1) rfl
    have f1 := hA12.frozen 1
    have a2 := hA12.cell_some (i := 2) rfl
    have f2 := hA12.frozen 2
    have a3 := hA12.cell_some (i := 3) rfl
    have f3 := hA12.frozen 3
    have t012 := HT10.out.trans t12
    have H12 := Lib.hid h12; have HA12 := Lib.hid hA12; have HT12 := Lib.hid t012
    clear h12 t12 hO12 hA12 t012 hgr hgr' hNN hNN' hown2 hown3 cg fg hW12 c4 f4 p0 p1 p2
    go_wp2_with fail
    refine bodyPost_ret (v := .agg #[.int .i64 5, .int .i64 cd, .slice none 0 0, .slice none 0 0]) (results_cell_row rfl _ _ (w.heap.size + 1) _ _ _ _ rfl ((((HA12.out.set 0 (.int .i64 5)).set 1 (.int .i64 cd)).set 2 (.slice none 0 0)).set 3 (.slice none 0 0)) Tryz.underlying47 rfl (by kernel_rfl)) rfl ?_
    have hwo : wo (m.rise ep).C ((ep, ses) : Sess) = CR := by rw [HCC.out, wo_split (HCC.out ▸ HI.out.kc), HCR.out]
    have hmm : (m.rise ep).touch ((ep, ses) : Sess) cd = { ({ (m.rise ep) with C := CR } : IM) with C := CR ++ [(((ep, ses) : Sess), cd)] } := by
      unfold IM.touch
      rw [hwo]
    rw [hmm]
    exact ⟨rfl, H12.out.took HT12.out HA12.out (by omega) _ _ _ _⟩
set_option maxHeartbeats 2000000 in
set_option maxRecDepth 100000 in
theorem rtake_seg (h : RIAt w d vo vs L m) (u : UD) (dp gp : Option Addr) (dc gc : Nat) (hi : IInv m) (hd : Bs w (.slice dp u.data.length dc) u.data) (hdn : ∀ k, (Value.slice dp u.data.length dc).ownBlock = some k → k < w.heap.size ∧ ¬ RIF d vo vs L k) (hdat : u.isData) (hs : ¬ u.ep.toNat < m.ep.toNat) (hc : lk (m.rise u.ep).C (u.ep, u.ses) = none) :
    Calls Tryz.prog 15 #[.pointer (some ⟨d, 0, none⟩), uv u (.slice dp u.data.length dc) (.slice gp u.got.length gc)] w fun e w' => AnswersR w w' d (RIF d vo vs L) ((m.rise u.ep).seg (u.ep, u.ses) u).1 ((m.rise u.ep).seg (u.ep, u.ses) u).2 e := by
  have hlt : decide (u.ep.toNat < m.ep.toNat) = false := by simpa using hs
  have HI := Lib.hid (hi.rise u.ep)
  have HC := Lib.hid hc; have HD := Lib.hid hd; have HDN := Lib.hid hdn; have HG := Lib.hid hdat.2.2.2
  clear hs hc hi hd hdn
  have hdt := fun W => rdata_any u dp gp dc gc W
  rw [decide_eq_true hdat] at hdt
  obtain ⟨kind, ep, ses, path, idx, cnt, data, code, got⟩ := u
  simp only at hdt
  simp only [uv]
  obtain ⟨W0, hW0⟩ : ∃ W0, W0 = (w.alloc (.cells #[.int .i64 kind, .int .u64 (ep.toNat : Int), .int .u64 (ses.toNat : Int), .int .i64 path, .int .i64 idx, .int .i64 cnt, .slice dp data.length dc, .int .i64 code, .slice gp got.length gc] 35)).alloc (.cells #[.int .i64 0, .int .i64 0, .slice none 0 0, .slice none 0 0] 47) := ⟨_, rfl⟩
  have hB0 : Below w.heap.size w W0 := hW0 ▸ ((Below.refl _ _).alloc (Nat.le_refl _) _).alloc (by simp) _
  have hu0 : Blk W0 w.heap.size 35 [.int .i64 kind, .int .u64 (ep.toNat : Int), .int .u64 (ses.toNat : Int), .int .i64 path, .int .i64 idx, .int .i64 cnt, .slice dp data.length dc, .int .i64 code, .slice gp got.length gc] := hW0 ▸ (Blk.new w _ _).alloc _
  have ha0 : Blk W0 (w.heap.size + 1) 47 [.int .i64 0, .int .i64 0, .slice none 0 0, .slice none 0 0] := by
    have := Blk.new (w.alloc (.cells #[.int .i64 kind, .int .u64 (ep.toNat : Int), .int .u64 (ses.toNat : Int), .int .i64 path, .int .i64 idx, .int .i64 cnt, .slice dp data.length dc, .int .i64 code, .slice gp got.length gc] 35)) 47 [.int .i64 0, .int .i64 0, .slice none 0 0, .slice none 0 0]
    rw [show (w.alloc (.cells #[.int .i64 kind, .int .u64 (ep.toNat : Int), .int .u64 (ses.toNat : Int), .int .i64 path, .int .i64 idx, .int .i64 cnt, .slice dp data.length dc, .int .i64 code, .slice gp got.length gc] 35)).heap.size = w.heap.size + 1 by simp] at this
    exact hW0 ▸ this
  have d0 := hu0.cell_some (i := 0) rfl
  have d1 := hu0.cell_some (i := 1) rfl
  have d2 := hu0.cell_some (i := 2) rfl
  have d3 := hu0.cell_some (i := 3) rfl
  have d4 := hu0.cell_some (i := 4) rfl
  have d5 := hu0.cell_some (i := 5) rfl
  have d6 := hu0.cell_some (i := 6) rfl
  have d7 := hu0.cell_some (i := 7) rfl
  have d8 := hu0.cell_some (i := 8) rfl
  have HB0 := Lib.hid hB0; have HU0 := Lib.hid hu0; have HA0 := Lib.hid ha0; have HW := Lib.hid h; have HDT := Lib.hid hdt
  have hz0 : w.heap.size + 1 < W0.heap.size := ha0.lt
  clear hB0 hu0 ha0 h hdt
  simp only at hlt HI HC HD HDN
  go_enter Tryz.func15, Tryz.ntmps15
  go_wp2_with fail
  rw [← hW0]
  clear hW0
  refine (HDT.out _).mono ?_
  rintro e W1 ⟨rfl, hB1⟩
  clear d0 d1 d2 d3 d4 d5 d6 d7 d8
  have h1 := HW.out.later (below_trans HB0.out hB1)
  have hu1 := HU0.out.later hB1
  have x2 := h1.blk.cell_some (i := 2) rfl
  have d1 := hu1.cell_some (i := 1) rfl
  have HB1 := Lib.hid hB1; have H1 := Lib.hid h1; have HU1 := Lib.hid hu1; have HA1 := Lib.hid (HA0.out.later hB1)
  clear h1 hu1 hB1
  go_wp2_with fail
  refine region_class (C := fun w' => w'.cell? ⟨w.heap.size, 1, none⟩ = some (.int .u64 (ep.toNat : Int)) ∧ w'.cell? ⟨d, 2, none⟩ = some (.int .u64 (m.ep.toNat : Int)) ∧ Hid (Below W1.heap.size W1 w')) (by kernel_rfl) (by kernel_rfl) ⟨d1, x2, Lib.hid (Below.refl _ _).drew⟩ ?_
  repeat
    (first
     | go_big_quiet_skip
     | (go_big_quiet_want
        rename_i K hK
        apply Exists.intro
        refine ⟨fun w' hw' => ?_, hK _ ?_⟩
        · obtain ⟨d1, x2, hB⟩ := hw'
          go_simp
          first
          | with_reducible rfl
        clear hK K
        simp only [Act.put, List.setIfInBounds_toArray, List.set_cons_zero, List.set_cons_succ]))
  refine wpQuiet_nil ?_
  rintro w5 ⟨d1, x2, hB⟩
  have h5 := H1.out.later hB.out
  have hu5 := HU1.out.later hB.out
  have ha5 := HA1.out.later hB.out
  have d1 := hu5.cell_some (i := 1) rfl
  have hdw := HW.out.blk.lt
  have HB5 := Lib.hid (below_trans HB0.out (below_trans HB1.out hB.out)); have H5 := Lib.hid h5; have HU5 := Lib.hid hu5; have HA5 := Lib.hid ha5
  clear h5 hu5 ha5 hB x2
  go_wp2_with fail
  refine (rrise_any H5.out ep).mono ?_
  rintro e W2 ⟨rfl, vo1, vs1, L1, h2, hS2, hF2⟩
  have hu2 := HU5.out.same hS2 (fun e => by
    have : w.heap.size = d := e
    omega)
  have ha2 := HA5.out.same hS2 (fun e => by
    have : w.heap.size + 1 = d := e
    omega)
  have d0 := hu2.cell_some (i := 0) rfl
  have d1 := hu2.cell_some (i := 1) rfl
  have d2 := hu2.cell_some (i := 2) rfl
  have d3 := hu2.cell_some (i := 3) rfl
  have d4 := hu2.cell_some (i := 4) rfl
  have d5 := hu2.cell_some (i := 5) rfl
  have d6 := hu2.cell_some (i := 6) rfl
  have d7 := hu2.cell_some (i := 7) rfl
  have d8 := hu2.cell_some (i := 8) rfl
  have hu2l := hu2.lt
  have ha2l := ha2.lt
  obtain ⟨W3, hW3⟩ : ∃ W3, W3 = W2.alloc (.cells #[.int .u64 (ep.toNat : Int), .int .u64 (ses.toNat : Int)] 68) := ⟨_, rfl⟩
  have hB3 : Below W2.heap.size W2 W3 := hW3 ▸ (Below.refl _ _).alloc (Nat.le_refl _) _
  have hs3 : Blk W3 W2.heap.size 68 [.int .u64 (ep.toNat : Int), .int .u64 (ses.toNat : Int)] := hW3 ▸ Blk.new W2 _ _
  have h3 := h2.later hB3
  have t3 : Turn (RIF d vo vs L) (RIF d vo1 vs1 L1) w W3 := ((Turn.of_below HB5.out (RIF d vo vs L)).trans ⟨hS2.mono fun k _ e => .inl e, fun k hk => .inl (hF2 k hk)⟩).trans (Turn.of_below hB3 _)
  have HS3 := Lib.hid hs3; have H3 := Lib.hid h3; have HT3 := Lib.hid t3; have HU3 := Lib.hid (hu2.later hB3); have HA3 := Lib.hid (ha2.later hB3)
  clear h2 hS2 hF2 hu2 ha2 hB3 hs3 h3 t3
  have hc97 : (m.rise ep).C.length ≤ 4097 := by
    have h1 := HI.out.lc
    have h2 := HI.out.ms2
    omega
  have s0 := HS3.out.cell_some (i := 0) rfl
  have s1 := HS3.out.cell_some (i := 1) rfl
  have hsh := rshut_no H3.out ((ep, ses) : Sess) HC.out (by omega)
  simp only at hsh
  have HSH := Lib.hid hsh
  clear hsh
  go_wp2_with fail
  rw [← hW3]
  clear hW3 d0 d1 d2 d3 d4 d5 d6 d7 d8
  refine HSH.out.mono ?_
  rintro e W4 ⟨rfl, hB4⟩
  have h4 := H3.out.later hB4
  have hs4 := HS3.out.later hB4
  have hu4 := HU3.out.later hB4
  have hsw := HT3.out.same.trans (Same.of_below hB4 no) fun i hi e => e.elim
  have hd4 : Bs W4 (.slice dp data.length dc) data := Rd.same HD.out hsw fun k e => (HDN.out k e).2
  have hseg := rseg_any h4 HI.out ((ep, ses) : Sess) ⟨kind, ep, ses, path, idx, cnt, data, code, got⟩ dp gp dc gc hd4 HG.out (fun k e => Nat.lt_of_lt_of_le (HDN.out k e).1 hsw.size)
  simp only [uv] at hseg
  have s0 := hs4.cell_some (i := 0) rfl
  have s1 := hs4.cell_some (i := 1) rfl
  have d0 := hu4.cell_some (i := 0) rfl
  have d1 := hu4.cell_some (i := 1) rfl
  have d2 := hu4.cell_some (i := 2) rfl
  have d3 := hu4.cell_some (i := 3) rfl
  have d4 := hu4.cell_some (i := 4) rfl
  have d5 := hu4.cell_some (i := 5) rfl
  have d6 := hu4.cell_some (i := 6) rfl
  have d7 := hu4.cell_some (i := 7) rfl
  have d8 := hu4.cell_some (i := 8) rfl
  have HSEG := Lib.hid hseg; have HA4 := Lib.hid (HA3.out.later hB4); have HT4 := Lib.hid (HT3.out.trans (Turn.of_below hB4 _))
  clear hseg h4 hs4 hu4 hsw hd4 hB4
  go_wp2_with fail
  refine HSEG.out.mono ?_
  rintro e W9 ⟨gv, bv, rfl, hg9, hb9, vo9, vs9, L9, h9, t9⟩
  obtain ⟨a, ha⟩ : ∃ a, a = ((m.rise ep).seg ((ep, ses) : Sess) ⟨kind, ep, ses, path, idx, cnt, data, code, got⟩).2 := ⟨_, rfl⟩
  rw [← ha] at hg9 hb9 ⊢
  obtain ⟨gao, gcap, rfl, -⟩ := Rd.of_own hg9
  obtain ⟨bao, bcap, rfl, -⟩ := Rd.of_own hb9
  have hna : ∀ k, RIF d vo1 vs1 L1 k → k ≠ w.heap.size + 1 := fun k hk e => by
    rcases HT3.out.foot k hk with h | h
    · have := HW.out.lt h; omega
    · have h3 := H3.out
      subst e
      rcases hk with e | e | e | ⟨o, ho, e⟩
      · exact h3.blk.ne HA3.out (by decide) e.symm
      · exact own_blk_ne h3.ro HA3.out (by decide) e
      · exact own_blk_ne h3.rs HA3.out (by decide) e
      · exact (h3.bx o ho).ne e HA3.out (by decide) (by decide) (by decide) rfl
  have ha9 := HA4.out.same t9.same fun e => hna _ e rfl
  have hsz4 : w.heap.size ≤ W4.heap.size := HT4.out.same.size
  have a0 := ha9.cell_some (i := 0) rfl
  have f0 := ha9.frozen 0
  have a1 := ha9.cell_some (i := 1) rfl
  have f1 := ha9.frozen 1
  have a2 := ha9.cell_some (i := 2) rfl
  have f2 := ha9.frozen 2
  have a3 := ha9.cell_some (i := 3) rfl
  have f3 := ha9.frozen 3
  have HA9 := Lib.hid ha9; have H9 := Lib.hid h9; have HT9 := Lib.hid (HT4.out.trans t9); have HG9 := Lib.hid hg9; have HB9 := Lib.hid hb9; have HAA := Lib.hid ha
  clear ha9 h9 t9 hg9 hb9 ha hna s0 s1
  go_wp2_with fail
  refine bodyPost_ret (v := .agg #[.int .i64 a.st, .int .i64 a.code, .slice gao a.got.length gcap, .slice bao a.blk.length bcap]) (results_cell_row rfl _ _ (w.heap.size + 1) _ _ _ _ rfl ((((HA9.out.set 0 (.int .i64 a.st)).set 1 (.int .i64 a.code)).set 2 (.slice gao a.got.length gcap)).set 3 (.slice bao a.blk.length bcap)) Tryz.underlying47 rfl (by kernel_rfl)) rfl ?_
  rw [← HAA.out]
  have hSA : Same (at1 (w.heap.size + 1)) W9 _ := ((((Same.refl (at1 (w.heap.size + 1)) W9).setCell (p := ⟨w.heap.size + 1, 0, none⟩) (fun _ => rfl) (.int .i64 a.st)).setCell (p := ⟨w.heap.size + 1, 1, none⟩) (fun _ => rfl) (.int .i64 a.code)).setCell (p := ⟨w.heap.size + 1, 2, none⟩) (fun _ => rfl) (.slice gao a.got.length gcap)).setCell (p := ⟨w.heap.size + 1, 3, none⟩) (fun _ => rfl) (.slice bao a.blk.length bcap)
  refine ⟨_, _, rfl, own_mono (own_same HG9.out hSA fun k hk e => ?_) hsz4, own_mono (own_same HB9.out hSA fun k hk e => ?_) hsz4, H9.out.took HT9.out HA9.out (by omega) _ _ _ _⟩
  · exact own_blk_ne HG9.out HA9.out (by decide) (by rw [hk, show k = w.heap.size + 1 from e])
  · exact own_blk_ne HB9.out HA9.out (by decide) (by rw [hk, show k = w.heap.size + 1 from e])
end
end Go.Proofs.YtfaemjlemaclbaaGreat
