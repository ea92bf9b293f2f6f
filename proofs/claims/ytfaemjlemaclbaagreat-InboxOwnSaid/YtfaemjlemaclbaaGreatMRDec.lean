/- the reference's Decide and Drop. Printed by wip/gen_rtake.py. -/
import Derived.Test.YtfaemjlemaclbaaGreatMRTake5
namespace Go.Proofs.YtfaemjlemaclbaaGreat
set_option linter.unusedVariables false
set_option linter.unusedSimpArgs false
open Go.RowKit Go.Maps
section
variable {w : World} {d : Nat} {vo vs : Value} {L : List RO} {m : IM}
set_option maxHeartbeats 2000000 in
set_option maxRecDepth 100000 in
theorem rdec_bad (h : RIAt w d vo vs L m) (s : Sess) (code : Int) (hb : badD s code) :
    Calls Tryz.prog 30 #[.pointer (some ⟨d, 0, none⟩), .agg #[.int .u64 (s.1.toNat : Int), .int .u64 (s.2.toNat : Int)], .int .i64 code] w fun e w' => e = .returned (.int .i64 1) ∧ Below w.heap.size w w' := by
  obtain ⟨s1, s2⟩ := s
  obtain ⟨e1, he1⟩ : ∃ e1, e1 = s1.toNat := ⟨_, rfl⟩
  obtain ⟨e2, he2⟩ : ∃ e2, e2 = s2.toNat := ⟨_, rfl⟩
  have hor : code < 1 ∨ (¬ code < 1 ∧ 7 < code) ∨ (¬ code < 1 ∧ ¬ 7 < code ∧ e1 < 1) ∨ (¬ code < 1 ∧ ¬ 7 < code ∧ ¬ e1 < 1 ∧ 281474976710655 < e1) ∨ (¬ code < 1 ∧ ¬ 7 < code ∧ ¬ e1 < 1 ∧ ¬ 281474976710655 < e1 ∧ e2 < 1) ∨ (¬ code < 1 ∧ ¬ 7 < code ∧ ¬ e1 < 1 ∧ ¬ 281474976710655 < e1 ∧ ¬ e2 < 1 ∧ 281474976710655 < e2) := by
    unfold badD named at hb
    simp only at hb
    rw [← he1, ← he2] at hb
    omega
  simp only
  rw [← he1, ← he2]
  clear hb h he1 he2
  rcases hor with h | ⟨h, h1⟩ | ⟨h, h1, h2⟩ | ⟨h, h1, h2, h3⟩ | ⟨h, h1, h2, h3, h4⟩ | ⟨h, h1, h2, h3, h4, h5⟩
  all_goals
    try have g2 : ¬ (e1 : Int) < 1 := by omega
    try have g2' : (e1 : Int) < 1 := by omega
    try have g3 : ¬ 281474976710655 < (e1 : Int) := by omega
    try have g3' : 281474976710655 < (e1 : Int) := by omega
    try have g4 : ¬ (e2 : Int) < 1 := by omega
    try have g4' : (e2 : Int) < 1 := by omega
    try have g5' : 281474976710655 < (e2 : Int) := by omega
    go_enter Tryz.func30, Tryz.ntmps30
    go_wp2
    go_ret
    exact ⟨rfl, (Below.refl _ _).alloc (Nat.le_refl _) _⟩
set_option maxHeartbeats 2000000 in
set_option maxRecDepth 100000 in
theorem rdec_old (h : RIAt w d vo vs L m) (s : Sess) (code : Int) (hg : ¬ badD s code) (ho : s.1.toNat < m.ep.toNat) :
    Calls Tryz.prog 30 #[.pointer (some ⟨d, 0, none⟩), .agg #[.int .u64 (s.1.toNat : Int), .int .u64 (s.2.toNat : Int)], .int .i64 code] w fun e w' => e = .returned (.int .i64 83) ∧ Below w.heap.size w w' := by
  obtain ⟨s1, s2⟩ := s
  have hg' := hg
  simp only [badD, not_or, Decidable.not_not, named] at hg'
  obtain ⟨hc1, hc7, ⟨hn1, hn2⟩, hn3, hn4⟩ := hg'
  have g0 : ¬ code < 1 := hc1
  have g1 : ¬ 7 < code := hc7
  have g2 : ¬ (s1.toNat : Int) < 1 := by omega
  have g3 : ¬ 281474976710655 < (s1.toNat : Int) := by omega
  have g4 : ¬ (s2.toNat : Int) < 1 := by omega
  have g5 : ¬ 281474976710655 < (s2.toNat : Int) := by omega
  clear hg hc1 hc7 hn1 hn2 hn3 hn4
  have hlt : decide (s1.toNat < m.ep.toNat) = true := by simpa using ho
  clear ho
  obtain ⟨W0, hW0⟩ : ∃ W0, W0 = w.alloc (.cells #[.int .u64 (s1.toNat : Int), .int .u64 (s2.toNat : Int)] 68) := ⟨_, rfl⟩
  have hB0 : Below w.heap.size w W0 := hW0 ▸ (Below.refl _ _).alloc (Nat.le_refl _) _
  have hs0 : Blk W0 w.heap.size 68 [.int .u64 (s1.toNat : Int), .int .u64 (s2.toNat : Int)] := hW0 ▸ Blk.new w _ _
  have HB0 := Lib.hid hB0; have HS0 := Lib.hid hs0; have HW := Lib.hid h
  have h0 := h.later hB0
  have x2 := h0.blk.cell_some (i := 2) rfl
  have s0 := hs0.cell_some (i := 0) rfl
  have s1' := hs0.cell_some (i := 1) rfl
  have hdw := h.blk.lt
  have H0 := Lib.hid h0
  clear h0
  clear hB0 hs0 h
  go_enter Tryz.func30, Tryz.ntmps30
  go_wp2_with fail
  rw [← hW0]
  clear hW0
  refine region_class (C := fun w' => w'.cell? ⟨w.heap.size, 0, none⟩ = some (.int .u64 (s1.toNat : Int)) ∧ w'.cell? ⟨d, 2, none⟩ = some (.int .u64 (m.ep.toNat : Int)) ∧ Hid (Below W0.heap.size W0 w')) (by kernel_rfl) (by kernel_rfl) ⟨s0, x2, Lib.hid (Below.refl _ _).drew⟩ ?_
  repeat
    (first
     | go_big_quiet_skip
     | (go_big_quiet_want
        rename_i K hK
        apply Exists.intro
        refine ⟨fun w' hw' => ?_, hK _ ?_⟩
        · obtain ⟨s0, x2, hB⟩ := hw'
          go_simp
          first
          | with_reducible rfl
        clear hK K
        simp only [Act.put, List.setIfInBounds_toArray, List.set_cons_zero, List.set_cons_succ]))
  refine wpQuiet_nil ?_
  rintro w5 ⟨s0, x2, hB⟩
  go_wp2_with fail
  go_ret
  exact ⟨rfl, below_trans HB0.out hB.out⟩
set_option maxHeartbeats 2000000 in
set_option maxRecDepth 100000 in
theorem rdec_twice (h : RIAt w d vo vs L m) (s : Sess) (code : Int) (hi : IInv m) (hg : ¬ badD s code) (ho : ¬ s.1.toNat < m.ep.toNat) {c : Int} (hl : lk m.C s = some c) :
    Calls Tryz.prog 30 #[.pointer (some ⟨d, 0, none⟩), .agg #[.int .u64 (s.1.toNat : Int), .int .u64 (s.2.toNat : Int)], .int .i64 code] w fun e w' => e = .returned (.int .i64 3) ∧ Below w.heap.size w w' := by
  obtain ⟨s1, s2⟩ := s
  have hg' := hg
  simp only [badD, not_or, Decidable.not_not, named] at hg'
  obtain ⟨hc1, hc7, ⟨hn1, hn2⟩, hn3, hn4⟩ := hg'
  have g0 : ¬ code < 1 := hc1
  have g1 : ¬ 7 < code := hc7
  have g2 : ¬ (s1.toNat : Int) < 1 := by omega
  have g3 : ¬ 281474976710655 < (s1.toNat : Int) := by omega
  have g4 : ¬ (s2.toNat : Int) < 1 := by omega
  have g5 : ¬ 281474976710655 < (s2.toNat : Int) := by omega
  clear hg hc1 hc7 hn1 hn2 hn3 hn4
  have hlt : decide (s1.toNat < m.ep.toNat) = false := by simpa using ho
  have HL := Lib.hid hl; have HI := Lib.hid hi
  clear ho hl hi
  obtain ⟨W0, hW0⟩ : ∃ W0, W0 = w.alloc (.cells #[.int .u64 (s1.toNat : Int), .int .u64 (s2.toNat : Int)] 68) := ⟨_, rfl⟩
  have hB0 : Below w.heap.size w W0 := hW0 ▸ (Below.refl _ _).alloc (Nat.le_refl _) _
  have hs0 : Blk W0 w.heap.size 68 [.int .u64 (s1.toNat : Int), .int .u64 (s2.toNat : Int)] := hW0 ▸ Blk.new w _ _
  have HB0 := Lib.hid hB0; have HS0 := Lib.hid hs0; have HW := Lib.hid h
  have h0 := h.later hB0
  have x2 := h0.blk.cell_some (i := 2) rfl
  have s0 := hs0.cell_some (i := 0) rfl
  have s1' := hs0.cell_some (i := 1) rfl
  have hdw := h.blk.lt
  have H0 := Lib.hid h0
  clear h0
  clear hB0 hs0 h
  go_enter Tryz.func30, Tryz.ntmps30
  go_wp2_with fail
  rw [← hW0]
  clear hW0
  refine region_class (C := fun w' => w'.cell? ⟨w.heap.size, 0, none⟩ = some (.int .u64 (s1.toNat : Int)) ∧ w'.cell? ⟨d, 2, none⟩ = some (.int .u64 (m.ep.toNat : Int)) ∧ Hid (Below W0.heap.size W0 w')) (by kernel_rfl) (by kernel_rfl) ⟨s0, x2, Lib.hid (Below.refl _ _).drew⟩ ?_
  repeat
    (first
     | go_big_quiet_skip
     | (go_big_quiet_want
        rename_i K hK
        apply Exists.intro
        refine ⟨fun w' hw' => ?_, hK _ ?_⟩
        · obtain ⟨s0, x2, hB⟩ := hw'
          go_simp
          first
          | with_reducible rfl
        clear hK K
        simp only [Act.put, List.setIfInBounds_toArray, List.set_cons_zero, List.set_cons_succ]))
  refine wpQuiet_nil ?_
  rintro w5 ⟨s0, x2, hB⟩
  have h5 := H0.out.later hB.out
  have hs5 := HS0.out.later hB.out
  have s0 := hs5.cell_some (i := 0) rfl
  have s1' := hs5.cell_some (i := 1) rfl
  have HB5 := Lib.hid (below_trans HB0.out hB.out); have H5 := Lib.hid h5; have HS5 := Lib.hid hs5
  clear h5 hs5 hB x2
  obtain ⟨CA, CB, hCC, hCA⟩ := lk_split HL.out
  have hsh := rshut_yes H5.out hCC hCA (by have h1 := HI.out.lc; have h2 := HI.out.ms2; omega)
  simp only at hsh
  have HSH := Lib.hid hsh
  clear hsh hCC hCA
  obtain ⟨k, hk⟩ : ∃ k, k = CA.length := ⟨_, rfl⟩
  rw [← hk] at HSH
  clear hk
  go_wp2_with fail
  refine HSH.out.mono ?_
  rintro e W6 ⟨rfl, hB6⟩
  have HB6 := Lib.hid (below_trans HB5.out hB6)
  clear hB6
  go_wp2_with fail
  go_ret
  exact ⟨rfl, HB6.out⟩
set_option maxHeartbeats 2000000 in
set_option maxRecDepth 100000 in
theorem rdec_ok (h : RIAt w d vo vs L m) (s : Sess) (code : Int) (hi : IInv m) (hg : ¬ badD s code) (ho : ¬ s.1.toNat < m.ep.toNat) (hl : lk m.C s = none) :
    Calls Tryz.prog 30 #[.pointer (some ⟨d, 0, none⟩), .agg #[.int .u64 (s.1.toNat : Int), .int .u64 (s.2.toNat : Int)], .int .i64 code] w fun e w' => e = .returned (.int .i64 0) ∧ TookR w w' d (RIF d vo vs L) ((m.rise s.1).shut s code) := by
  obtain ⟨s1, s2⟩ := s
  have hg' := hg
  simp only [badD, not_or, Decidable.not_not, named] at hg'
  obtain ⟨hc1, hc7, ⟨hn1, hn2⟩, hn3, hn4⟩ := hg'
  have g0 : ¬ code < 1 := hc1
  have g1 : ¬ 7 < code := hc7
  have g2 : ¬ (s1.toNat : Int) < 1 := by omega
  have g3 : ¬ 281474976710655 < (s1.toNat : Int) := by omega
  have g4 : ¬ (s2.toNat : Int) < 1 := by omega
  have g5 : ¬ 281474976710655 < (s2.toNat : Int) := by omega
  clear hg hc1 hc7 hn1 hn2 hn3 hn4
  have hlt : decide (s1.toNat < m.ep.toNat) = false := by simpa using ho
  have HL := Lib.hid hl; have HI0 := Lib.hid hi; have HI := Lib.hid (hi.rise s1)
  clear ho hl hi
  obtain ⟨W0, hW0⟩ : ∃ W0, W0 = w.alloc (.cells #[.int .u64 (s1.toNat : Int), .int .u64 (s2.toNat : Int)] 68) := ⟨_, rfl⟩
  have hB0 : Below w.heap.size w W0 := hW0 ▸ (Below.refl _ _).alloc (Nat.le_refl _) _
  have hs0 : Blk W0 w.heap.size 68 [.int .u64 (s1.toNat : Int), .int .u64 (s2.toNat : Int)] := hW0 ▸ Blk.new w _ _
  have HB0 := Lib.hid hB0; have HS0 := Lib.hid hs0; have HW := Lib.hid h
  have h0 := h.later hB0
  have x2 := h0.blk.cell_some (i := 2) rfl
  have s0 := hs0.cell_some (i := 0) rfl
  have s1' := hs0.cell_some (i := 1) rfl
  have hdw := h.blk.lt
  have H0 := Lib.hid h0
  clear h0
  clear hB0 hs0 h
  go_enter Tryz.func30, Tryz.ntmps30
  go_wp2_with fail
  rw [← hW0]
  clear hW0
  refine region_class (C := fun w' => w'.cell? ⟨w.heap.size, 0, none⟩ = some (.int .u64 (s1.toNat : Int)) ∧ w'.cell? ⟨d, 2, none⟩ = some (.int .u64 (m.ep.toNat : Int)) ∧ Hid (Below W0.heap.size W0 w')) (by kernel_rfl) (by kernel_rfl) ⟨s0, x2, Lib.hid (Below.refl _ _).drew⟩ ?_
  repeat
    (first
     | go_big_quiet_skip
     | (go_big_quiet_want
        rename_i K hK
        apply Exists.intro
        refine ⟨fun w' hw' => ?_, hK _ ?_⟩
        · obtain ⟨s0, x2, hB⟩ := hw'
          go_simp
          first
          | with_reducible rfl
        clear hK K
        simp only [Act.put, List.setIfInBounds_toArray, List.set_cons_zero, List.set_cons_succ]))
  refine wpQuiet_nil ?_
  rintro w5 ⟨s0, x2, hB⟩
  have h5 := H0.out.later hB.out
  have hs5 := HS0.out.later hB.out
  have s0 := hs5.cell_some (i := 0) rfl
  have s1' := hs5.cell_some (i := 1) rfl
  have HB5 := Lib.hid (below_trans HB0.out hB.out); have H5 := Lib.hid h5; have HS5 := Lib.hid hs5
  clear h5 hs5 hB x2
  have hsh := rshut_no H5.out ((s1, s2) : Sess) HL.out (by have h1 := HI0.out.lc; have h2 := HI0.out.ms2; omega)
  simp only at hsh
  have HSH := Lib.hid hsh
  clear hsh
  go_wp2_with fail
  refine HSH.out.mono ?_
  rintro e W6 ⟨rfl, hB6⟩
  have hs6 := HS5.out.later hB6
  have s0 := hs6.cell_some (i := 0) rfl
  have s1' := hs6.cell_some (i := 1) rfl
  have H6 := Lib.hid (H5.out.later hB6); have HB6 := Lib.hid (below_trans HB5.out hB6); have HS6 := Lib.hid hs6
  clear hs6 hB6
  go_wp2_with fail
  refine (rrise_any H6.out s1).mono ?_
  rintro e W7 ⟨rfl, vo1, vs1, L1, h7, hS7, hF7⟩
  have hs7 := HS6.out.same hS7 (fun e => by
    have : w.heap.size = d := e
    omega)
  have s0 := hs7.cell_some (i := 0) rfl
  have s1' := hs7.cell_some (i := 1) rfl
  have t7 : Turn (RIF d vo vs L) (RIF d vo1 vs1 L1) w W7 := (Turn.of_below HB6.out (RIF d vo vs L)).trans ⟨hS7.mono fun k _ e => .inl e, fun k hk => .inl (hF7 k hk)⟩
  have HS7 := Lib.hid hs7; have H7 := Lib.hid h7; have HT7 := Lib.hid t7
  have hL1 : L1.length ≤ 64 := by
    have h1 := HI.out.lo
    have h2 := HI.out.mo2
    have h3 := h7.eo
    rw [← h3, List.length_map] at h1
    omega
  have hC1 : (m.rise s1).C.length ≤ 4097 := by
    have h1 := HI.out.lc
    have h2 := HI.out.ms2
    omega
  clear hs7 h7 hS7 hF7 t7
  obtain ⟨CR, hCR⟩ : ∃ CR, CR = (m.rise s1).C := ⟨_, rfl⟩
  have hlen : CR.length ≤ 4097 := by rw [hCR]; exact hC1
  have HCR := Lib.hid hCR
  clear hCR hC1
  cases hlo : lk (m.rise s1).O ((s1, s2) : Sess) with
  | none =>
    have hop := ropen_no H7.out ((s1, s2) : Sess) hlo (by omega)
    simp only at hop
    have HOP := Lib.hid hop
    have hwn : wo (m.rise s1).O ((s1, s2) : Sess) = (m.rise s1).O := wo_none (lk_none hlo)
    have HWN := Lib.hid hwn
    clear hop hlo hwn
    go_wp2_with fail
    refine HOP.out.mono ?_
    rintro e W10 ⟨rfl, hB10⟩
    obtain ⟨vo2, hvo2⟩ : ∃ vo2, vo2 = vo1 := ⟨_, rfl⟩
    obtain ⟨L2, hL2⟩ : ∃ L2, L2 = L1 := ⟨_, rfl⟩
    obtain ⟨vs2, hvs2⟩ : ∃ vs2, vs2 = vs1 := ⟨_, rfl⟩
    have H10 : Hid (RIAt W10 d vo2 vs2 L2 { (m.rise s1) with O := wo (m.rise s1).O ((s1, s2) : Sess) }) := Lib.hid (by
      rw [HWN.out, hvo2, hvs2, hL2]
      exact H7.out.later hB10)
    have HT10 : Hid (Turn (RIF d vo vs L) (RIF d vo2 vs2 L2) w W10) := Lib.hid (by
      rw [hvo2, hvs2, hL2]
      exact HT7.out.trans (Turn.of_below hB10 _))
    have HS10 := Lib.hid (HS7.out.later hB10)
    clear hvo2 hL2 hvs2 hB10 s0 s1' H7 HT7 HS7
    have c4 := H10.out.blk.cell_some (i := 4) rfl
    have f4 := H10.out.blk.frozen 4
    have hrl := H10.out.blk.lt
    have hown := H10.out.rs
    have hrn := H10.out.d_ne.2
    obtain ⟨N1, hN1⟩ : ∃ N1, N1 = CR.length := ⟨_, rfl⟩
    change W10.ownsRow 0 82 3 vs2 (m.rise s1).C.length (e3s ((m.rise s1).C.map ce)) at hown
    rw [← HCR.out] at hown
    rw [← hN1] at hown hlen
    obtain ⟨ao1, cap1, hvo, -⟩ := own_open hown
    have p0 := HS10.out.cell_some (i := 0) rfl
    have p1 := HS10.out.cell_some (i := 1) rfl
    have hobn := HS10.out.lt
    rw [hvo] at c4 hrn
    have hownX : W10.ownsRow 0 82 3 (.slice ao1 N1 cap1) N1 (e3s (CR.map ce)) := hvo ▸ hown
    have HOX := Lib.hid hownX; have HN1 := Lib.hid hN1; have HVO := Lib.hid hvo
    clear hN1 hvo hown hownX
    go_wp2_with fail
    go_region_law (go_loud (refine step_app El.sht rfl (.tmp 61) (.tmp 65) rfl (by first | exact HOX.out.alloc _ | exact (HOX.out.alloc _).drew) rfl (by first | exact Rd.new _ _ [Value.int .u64 (s1.toNat : Int), .int .u64 (s2.toNat : Int), .int .i64 code] 1 (by simp [maxLen]) | exact Rd.drew (Rd.new _ _ [Value.int .u64 (s1.toNat : Int), .int .u64 (s2.toNat : Int), .int .i64 code] 1 (by simp [maxLen]))) rfl rfl (by intro x hx; simp at hx; rcases hx with rfl | rfl | rfl <;> rfl) (by omega) (Nat.zero_le _) ?_); intro v2 w3 hown2 hgr2 hN2; obtain ⟨g2, c2, hv2, _, _⟩ := hown2.form (by omega); subst hv2; have hgr := grown_pre (w := W10) (by first | exact ((Below.refl _ _).alloc (Nat.le_refl _) _).drew | exact ((Below.refl _ _).drew).alloc (Nat.le_refl _) _) hgr2; have hNN := hN2.pre (w := W10) (by simp); have cg := hgr.cell (a := ⟨d, 4, none⟩) c4 (Ne.symm hrn); have fg := (World.frozen?_of_block (a := ⟨d, 4, none⟩) (hgr.block d hrl (Ne.symm hrn))).trans f4; clear hgr2 hN2)
    all_goals
      have hgr' : W10.grownBy w3 vs2.ownBlock := by rw [HVO.out]; exact hgr
      have hNN' : Newer W10 vs2 (.slice (some ⟨g2, 0, none⟩) (N1 + 1) c2) := by rw [HVO.out]; exact hNN
      have hown3 : w3.ownsRow 0 82 3 (.slice (some ⟨g2, 0, none⟩) (N1 + 1) c2) (CR.length + 1) (e3s (CR.map ce) ++ e3 (ce (((s1, s2) : Sess), code))) := by
        rw [← HN1.out]
        exact hown2
      obtain ⟨h12, t12⟩ := (show RIAt W10 d vo2 vs2 L2 { ({ (m.rise s1) with O := wo (m.rise s1).O ((s1, s2) : Sess) } : IM) with C := CR } by rw [HCR.out]; exact H10.out).addC (p := (((s1, s2) : Sess), code)) hown3 hgr' hNN'
      obtain ⟨W12, hW12⟩ : ∃ W12, W12 = w3.setCell ⟨d, 4, none⟩ (.slice (some ⟨g2, 0, none⟩) (N1 + 1) c2) := ⟨_, rfl⟩
      rw [← hW12] at h12 t12 ⊢
      obtain ⟨M, hM⟩ : ∃ M, M = (m.rise s1).ms := ⟨_, rfl⟩
      have c1 := h12.blk.cell_some (i := 1) rfl
      have c4' := h12.blk.cell_some (i := 4) rfl
      change W12.cell? _ = some (.int .i64 (((m.rise s1).ms : Nat) : Int)) at c1
      rw [← hM] at c1
      have t012 := HT10.out.trans t12
      have H12 := Lib.hid h12; have HT12 := Lib.hid t012; have HM := Lib.hid hM
      clear h12 t12 t012 hgr hgr' hNN hNN' hown2 hown3 cg fg hW12 c4 f4 p0 p1 hM
      go_wp2_with fail
      refine region_class (C := fun w' => w'.cell? ⟨d, 1, none⟩ = some (.int .i64 (M : Int)) ∧ w'.cell? ⟨d, 4, none⟩ = some (.slice (some ⟨g2, 0, none⟩) (N1 + 1) c2) ∧ Hid (Below W12.heap.size W12 w')) (by kernel_rfl) (by kernel_rfl) ⟨c1, c4', Lib.hid (Below.refl _ _).drew⟩ ?_
      repeat
        (first
         | go_big_quiet_skip
         | (go_big_quiet_want
            rename_i K hK
            apply Exists.intro
            refine ⟨fun w' hw' => ?_, hK _ ?_⟩
            · obtain ⟨c1, c4', hB⟩ := hw'
              go_simp
              first
              | with_reducible rfl
            clear hK K
            simp only [Act.put, List.setIfInBounds_toArray, List.set_cons_zero, List.set_cons_succ]))
      refine wpQuiet_nil ?_
      rintro w5 ⟨c1, c4', hB⟩
      have HBW := Lib.hid hB.out
      clear hB
      have HN12 : Hid (N1 = (m.rise s1).C.length) := Lib.hid (by rw [HN1.out, HCR.out])
      by_cases hMN : M < N1 + 1
      · have hdp : (M : Int) < (N1 : Int) + 1 := by omega
        obtain ⟨p0, Ct, hC0⟩ : ∃ p0 Ct, CR ++ [(((s1, s2) : Sess), code)] = p0 :: Ct := by
          cases hL : CR ++ [(((s1, s2) : Sess), code)] with
          | nil => simp at hL
          | cons a l => exact ⟨a, l, rfl⟩
        have HC0 := Lib.hid hC0; have HMN := Lib.hid hMN
        clear hC0 hMN
        have hfor := rforget_any (H12.out.later HBW.out) (A := []) (p := p0) (B := Ct) HC0.out (by have := HN1.out; show (CR ++ [(((s1, s2) : Sess), code)]).length < _; simp only [List.length_append, List.length_singleton]; omega)
        change Calls Tryz.prog _ #[_, .int .i64 0] _ _ at hfor
        have HFOR := Lib.hid hfor
        clear hfor
        go_wp2_with fail
        refine HFOR.out.mono ?_
        rintro e W13 ⟨rfl, vs3, h13, hS13, hbase⟩
        have H13 := Lib.hid h13; have HS13 := Lib.hid hS13; have HBS := Lib.hid hbase
        clear h13 hS13 hbase
        go_wp2_with fail
        go_ret
        have e : (m.rise s1).shut ((s1, s2) : Sess) code = { ({ ({ (m.rise s1) with O := wo (m.rise s1).O ((s1, s2) : Sess) } : IM) with C := CR ++ [(((s1, s2) : Sess), code)] } : IM) with C := [] ++ Ct } := by
          unfold IM.shut
          rw [if_pos (by have := HN12.out; have := HM.out; have := HMN.out; omega), ← HCR.out, HC0.out]
          rfl
        rw [e]
        refine ⟨rfl, _, _, _, H13.out, (HT12.out.trans (Turn.of_below HBW.out _)).trans ⟨HS13.out.mono fun k _ e => .inl e, fun k hk => ?_⟩⟩
        rcases hk with e | e | e | e
        · exact .inl (.inl e)
        · exact .inl (.inr (.inl e))
        · exact .inr (HBS.out k e)
        · exact .inl (.inr (.inr (.inr e)))
      · have hdp : ¬ (M : Int) < (N1 : Int) + 1 := by omega
        have HMN := Lib.hid hMN
        clear hMN
        go_wp2_with fail
        go_ret
        have e : (m.rise s1).shut ((s1, s2) : Sess) code = { ({ (m.rise s1) with O := wo (m.rise s1).O ((s1, s2) : Sess) } : IM) with C := CR ++ [(((s1, s2) : Sess), code)] } := by
          unfold IM.shut
          rw [if_neg (by have := HN12.out; have := HM.out; have := HMN.out; omega), ← HCR.out]
        rw [e]
        exact ⟨rfl, _, _, _, H12.out.later HBW.out, HT12.out.trans (Turn.of_below HBW.out _)⟩
  | some b =>
    obtain ⟨LA, o, LB, hLL, hos, -, hA, hwo⟩ := H7.out.findO HI.out.ko hlo
    have hop := ropen_yes H7.out hLL (by rw [hos]; exact hA) (by omega)
    rw [hos] at hop
    simp only at hop
    have HOP := Lib.hid hop; have HWO := Lib.hid hwo; have HLL := Lib.hid hLL
    clear hop hlo hwo hLL hA hos
    go_wp2_with fail
    refine HOP.out.mono ?_
    rintro e W8 ⟨rfl, hB8⟩
    have hout := rout_any (H7.out.later hB8) HLL.out (by omega)
    obtain ⟨k, hk⟩ : ∃ k, k = LA.length := ⟨_, rfl⟩
    rw [← hk] at hout ⊢
    have HOUT := Lib.hid hout
    have HS8 := Lib.hid (HS7.out.later hB8)
    have HT8 := Lib.hid (HT7.out.trans (Turn.of_below hB8 _))
    clear hout hk hB8
    go_wp2_with fail
    refine HOUT.out.mono ?_
    rintro e W10 ⟨rfl, vo2, h10, hS10, hbase⟩
    rw [← HWO.out] at h10
    obtain ⟨L2, hL2⟩ : ∃ L2, L2 = LA ++ LB := ⟨_, rfl⟩
    obtain ⟨vs2, hvs2⟩ : ∃ vs2, vs2 = vs1 := ⟨_, rfl⟩
    rw [← hL2] at h10
    have H10 : Hid (RIAt W10 d vo2 vs2 L2 { (m.rise s1) with O := wo (m.rise s1).O ((s1, s2) : Sess) }) := Lib.hid (by
      rw [hvs2]
      exact h10)
    have HT10 : Hid (Turn (RIF d vo vs L) (RIF d vo2 vs2 L2) w W10) := Lib.hid (HT8.out.trans ⟨hS10.mono fun k _ e => .inl e, fun k hk => by
      rw [hvs2, hL2] at hk
      rcases hk with e | e | e | ⟨a, ha, e⟩
      · exact .inl (.inl e)
      · exact .inr (hbase k e)
      · exact .inl (.inr (.inr (.inl e)))
      · refine .inl (.inr (.inr (.inr ⟨a, ?_, e⟩)))
        rw [HLL.out]
        rcases List.mem_append.1 ha with ha | ha
        · exact List.mem_append_left _ ha
        · exact List.mem_append_right _ (List.mem_cons_of_mem _ ha)⟩)
    have HS10 := Lib.hid (HS8.out.same hS10 (fun e => by
      have : w.heap.size = d := e
      omega))
    clear h10 hS10 hbase hL2 hvs2 s0 s1' H7 HT7 HS7 HT8 HS8
    have c4 := H10.out.blk.cell_some (i := 4) rfl
    have f4 := H10.out.blk.frozen 4
    have hrl := H10.out.blk.lt
    have hown := H10.out.rs
    have hrn := H10.out.d_ne.2
    obtain ⟨N1, hN1⟩ : ∃ N1, N1 = CR.length := ⟨_, rfl⟩
    change W10.ownsRow 0 82 3 vs2 (m.rise s1).C.length (e3s ((m.rise s1).C.map ce)) at hown
    rw [← HCR.out] at hown
    rw [← hN1] at hown hlen
    obtain ⟨ao1, cap1, hvo, -⟩ := own_open hown
    have p0 := HS10.out.cell_some (i := 0) rfl
    have p1 := HS10.out.cell_some (i := 1) rfl
    have hobn := HS10.out.lt
    rw [hvo] at c4 hrn
    have hownX : W10.ownsRow 0 82 3 (.slice ao1 N1 cap1) N1 (e3s (CR.map ce)) := hvo ▸ hown
    have HOX := Lib.hid hownX; have HN1 := Lib.hid hN1; have HVO := Lib.hid hvo
    clear hN1 hvo hown hownX
    go_wp2_with fail
    go_region_law (go_loud (refine step_app El.sht rfl (.tmp 61) (.tmp 65) rfl (by first | exact HOX.out.alloc _ | exact (HOX.out.alloc _).drew) rfl (by first | exact Rd.new _ _ [Value.int .u64 (s1.toNat : Int), .int .u64 (s2.toNat : Int), .int .i64 code] 1 (by simp [maxLen]) | exact Rd.drew (Rd.new _ _ [Value.int .u64 (s1.toNat : Int), .int .u64 (s2.toNat : Int), .int .i64 code] 1 (by simp [maxLen]))) rfl rfl (by intro x hx; simp at hx; rcases hx with rfl | rfl | rfl <;> rfl) (by omega) (Nat.zero_le _) ?_); intro v2 w3 hown2 hgr2 hN2; obtain ⟨g2, c2, hv2, _, _⟩ := hown2.form (by omega); subst hv2; have hgr := grown_pre (w := W10) (by first | exact ((Below.refl _ _).alloc (Nat.le_refl _) _).drew | exact ((Below.refl _ _).drew).alloc (Nat.le_refl _) _) hgr2; have hNN := hN2.pre (w := W10) (by simp); have cg := hgr.cell (a := ⟨d, 4, none⟩) c4 (Ne.symm hrn); have fg := (World.frozen?_of_block (a := ⟨d, 4, none⟩) (hgr.block d hrl (Ne.symm hrn))).trans f4; clear hgr2 hN2)
    all_goals
      have hgr' : W10.grownBy w3 vs2.ownBlock := by rw [HVO.out]; exact hgr
      have hNN' : Newer W10 vs2 (.slice (some ⟨g2, 0, none⟩) (N1 + 1) c2) := by rw [HVO.out]; exact hNN
      have hown3 : w3.ownsRow 0 82 3 (.slice (some ⟨g2, 0, none⟩) (N1 + 1) c2) (CR.length + 1) (e3s (CR.map ce) ++ e3 (ce (((s1, s2) : Sess), code))) := by
        rw [← HN1.out]
        exact hown2
      obtain ⟨h12, t12⟩ := (show RIAt W10 d vo2 vs2 L2 { ({ (m.rise s1) with O := wo (m.rise s1).O ((s1, s2) : Sess) } : IM) with C := CR } by rw [HCR.out]; exact H10.out).addC (p := (((s1, s2) : Sess), code)) hown3 hgr' hNN'
      obtain ⟨W12, hW12⟩ : ∃ W12, W12 = w3.setCell ⟨d, 4, none⟩ (.slice (some ⟨g2, 0, none⟩) (N1 + 1) c2) := ⟨_, rfl⟩
      rw [← hW12] at h12 t12 ⊢
      obtain ⟨M, hM⟩ : ∃ M, M = (m.rise s1).ms := ⟨_, rfl⟩
      have c1 := h12.blk.cell_some (i := 1) rfl
      have c4' := h12.blk.cell_some (i := 4) rfl
      change W12.cell? _ = some (.int .i64 (((m.rise s1).ms : Nat) : Int)) at c1
      rw [← hM] at c1
      have t012 := HT10.out.trans t12
      have H12 := Lib.hid h12; have HT12 := Lib.hid t012; have HM := Lib.hid hM
      clear h12 t12 t012 hgr hgr' hNN hNN' hown2 hown3 cg fg hW12 c4 f4 p0 p1 hM
      go_wp2_with fail
      refine region_class (C := fun w' => w'.cell? ⟨d, 1, none⟩ = some (.int .i64 (M : Int)) ∧ w'.cell? ⟨d, 4, none⟩ = some (.slice (some ⟨g2, 0, none⟩) (N1 + 1) c2) ∧ Hid (Below W12.heap.size W12 w')) (by kernel_rfl) (by kernel_rfl) ⟨c1, c4', Lib.hid (Below.refl _ _).drew⟩ ?_
      repeat
        (first
         | go_big_quiet_skip
         | (go_big_quiet_want
            rename_i K hK
            apply Exists.intro
            refine ⟨fun w' hw' => ?_, hK _ ?_⟩
            · obtain ⟨c1, c4', hB⟩ := hw'
              go_simp
              first
              | with_reducible rfl
            clear hK K
            simp only [Act.put, List.setIfInBounds_toArray, List.set_cons_zero, List.set_cons_succ]))
      refine wpQuiet_nil ?_
      rintro w5 ⟨c1, c4', hB⟩
      have HBW := Lib.hid hB.out
      clear hB
      have HN12 : Hid (N1 = (m.rise s1).C.length) := Lib.hid (by rw [HN1.out, HCR.out])
      by_cases hMN : M < N1 + 1
      · have hdp : (M : Int) < (N1 : Int) + 1 := by omega
        obtain ⟨p0, Ct, hC0⟩ : ∃ p0 Ct, CR ++ [(((s1, s2) : Sess), code)] = p0 :: Ct := by
          cases hL : CR ++ [(((s1, s2) : Sess), code)] with
          | nil => simp at hL
          | cons a l => exact ⟨a, l, rfl⟩
        have HC0 := Lib.hid hC0; have HMN := Lib.hid hMN
        clear hC0 hMN
        have hfor := rforget_any (H12.out.later HBW.out) (A := []) (p := p0) (B := Ct) HC0.out (by have := HN1.out; show (CR ++ [(((s1, s2) : Sess), code)]).length < _; simp only [List.length_append, List.length_singleton]; omega)
        change Calls Tryz.prog _ #[_, .int .i64 0] _ _ at hfor
        have HFOR := Lib.hid hfor
        clear hfor
        go_wp2_with fail
        refine HFOR.out.mono ?_
        rintro e W13 ⟨rfl, vs3, h13, hS13, hbase⟩
        have H13 := Lib.hid h13; have HS13 := Lib.hid hS13; have HBS := Lib.hid hbase
        clear h13 hS13 hbase
        go_wp2_with fail
        go_ret
        have e : (m.rise s1).shut ((s1, s2) : Sess) code = { ({ ({ (m.rise s1) with O := wo (m.rise s1).O ((s1, s2) : Sess) } : IM) with C := CR ++ [(((s1, s2) : Sess), code)] } : IM) with C := [] ++ Ct } := by
          unfold IM.shut
          rw [if_pos (by have := HN12.out; have := HM.out; have := HMN.out; omega), ← HCR.out, HC0.out]
          rfl
        rw [e]
        refine ⟨rfl, _, _, _, H13.out, (HT12.out.trans (Turn.of_below HBW.out _)).trans ⟨HS13.out.mono fun k _ e => .inl e, fun k hk => ?_⟩⟩
        rcases hk with e | e | e | e
        · exact .inl (.inl e)
        · exact .inl (.inr (.inl e))
        · exact .inr (HBS.out k e)
        · exact .inl (.inr (.inr (.inr e)))
      · have hdp : ¬ (M : Int) < (N1 : Int) + 1 := by omega
        have HMN := Lib.hid hMN
        clear hMN
        go_wp2_with fail
        go_ret
        have e : (m.rise s1).shut ((s1, s2) : Sess) code = { ({ (m.rise s1) with O := wo (m.rise s1).O ((s1, s2) : Sess) } : IM) with C := CR ++ [(((s1, s2) : Sess), code)] } := by
          unfold IM.shut
          rw [if_neg (by have := HN12.out; have := HM.out; have := HMN.out; omega), ← HCR.out]
        rw [e]
        exact ⟨rfl, _, _, _, H12.out.later HBW.out, HT12.out.trans (Turn.of_below HBW.out _)⟩
set_option maxHeartbeats 2000000 in
set_option maxRecDepth 100000 in
theorem rdrop_no (h : RIAt w d vo vs L m) (s : Sess) (hi : IInv m) (hl : lk m.O s = none) :
    Calls Tryz.prog 32 #[.pointer (some ⟨d, 0, none⟩), .agg #[.int .u64 (s.1.toNat : Int), .int .u64 (s.2.toNat : Int)]] w fun e w' => e = .returned (.bool false) ∧ Below w.heap.size w w' := by
  have hL1 : L.length ≤ 64 := by
    have h1 := hi.lo
    have h2 := hi.mo2
    rw [← h.eo, List.length_map] at h1
    omega
  obtain ⟨s1, s2⟩ := s
  obtain ⟨W0, hW0⟩ : ∃ W0, W0 = w.alloc (.cells #[.int .u64 (s1.toNat : Int), .int .u64 (s2.toNat : Int)] 68) := ⟨_, rfl⟩
  have hB0 : Below w.heap.size w W0 := hW0 ▸ (Below.refl _ _).alloc (Nat.le_refl _) _
  have hs0 : Blk W0 w.heap.size 68 [.int .u64 (s1.toNat : Int), .int .u64 (s2.toNat : Int)] := hW0 ▸ Blk.new w _ _
  have HB0 := Lib.hid hB0; have HS0 := Lib.hid hs0; have HW := Lib.hid h
  have hop := ropen_no (h.later hB0) ((s1, s2) : Sess) hl (by omega)
  simp only at hop
  have HOP := Lib.hid hop
  have s0 := hs0.cell_some (i := 0) rfl
  have s1' := hs0.cell_some (i := 1) rfl
  clear hop hl hi
  clear hB0 hs0 h
  go_enter Tryz.func32, Tryz.ntmps32
  go_wp2_with fail
  rw [← hW0]
  clear hW0
  refine HOP.out.mono ?_
  rintro e W1 ⟨rfl, hB1⟩
  have HB1 := Lib.hid (below_trans HB0.out hB1)
  clear hB1
  go_wp2_with fail
  go_ret
  exact ⟨rfl, HB1.out⟩
set_option maxHeartbeats 2000000 in
set_option maxRecDepth 100000 in
theorem rdrop_yes (h : RIAt w d vo vs L m) (s : Sess) (hi : IInv m) {b : BoxS} (hl : lk m.O s = some b) :
    Calls Tryz.prog 32 #[.pointer (some ⟨d, 0, none⟩), .agg #[.int .u64 (s.1.toNat : Int), .int .u64 (s.2.toNat : Int)]] w fun e w' => e = .returned (.bool true) ∧ TookR w w' d (RIF d vo vs L) { m with O := wo m.O s } := by
  have hL1 : L.length ≤ 64 := by
    have h1 := hi.lo
    have h2 := hi.mo2
    rw [← h.eo, List.length_map] at h1
    omega
  obtain ⟨s1, s2⟩ := s
  obtain ⟨W0, hW0⟩ : ∃ W0, W0 = w.alloc (.cells #[.int .u64 (s1.toNat : Int), .int .u64 (s2.toNat : Int)] 68) := ⟨_, rfl⟩
  have hB0 : Below w.heap.size w W0 := hW0 ▸ (Below.refl _ _).alloc (Nat.le_refl _) _
  have hs0 : Blk W0 w.heap.size 68 [.int .u64 (s1.toNat : Int), .int .u64 (s2.toNat : Int)] := hW0 ▸ Blk.new w _ _
  have HB0 := Lib.hid hB0; have HS0 := Lib.hid hs0; have HW := Lib.hid h
  obtain ⟨LA, o, LB, hLL, hos, -, hA, hwo⟩ := h.findO hi.ko hl
  have hop := ropen_yes (h.later hB0) hLL (by rw [hos]; exact hA) (by omega)
  rw [hos] at hop
  simp only at hop
  have HOP := Lib.hid hop; have HWO := Lib.hid hwo; have HLL := Lib.hid hLL
  have s0 := hs0.cell_some (i := 0) rfl
  have s1' := hs0.cell_some (i := 1) rfl
  clear hop hl hi hwo hLL hA hos
  clear hB0 hs0 h
  go_enter Tryz.func32, Tryz.ntmps32
  go_wp2_with fail
  rw [← hW0]
  clear hW0
  refine HOP.out.mono ?_
  rintro e W1 ⟨rfl, hB1⟩
  have hB1' := below_trans HB0.out hB1
  have hout := rout_any (HW.out.later hB1') HLL.out (by omega)
  obtain ⟨k, hk⟩ : ∃ k, k = LA.length := ⟨_, rfl⟩
  rw [← hk] at hout ⊢
  have HOUT := Lib.hid hout; have HB1 := Lib.hid hB1'
  clear hout hk hB1 hB1'
  go_wp2_with fail
  refine HOUT.out.mono ?_
  rintro e W2 ⟨rfl, vo2, h2, hS2, hbase⟩
  rw [← HWO.out] at h2
  have H2 := Lib.hid h2; have HS2 := Lib.hid hS2; have HBS := Lib.hid hbase
  clear h2 hS2 hbase
  go_wp2_with fail
  go_ret
  refine ⟨rfl, _, _, _, H2.out, (Turn.of_below HB1.out _).trans ⟨HS2.out.mono fun k _ e => .inl e, fun k hk => ?_⟩⟩
  rcases hk with e | e | e | ⟨a, ha, e⟩
  · exact .inl (.inl e)
  · exact .inr (HBS.out k e)
  · exact .inl (.inr (.inr (.inl e)))
  · refine .inl (.inr (.inr (.inr ⟨a, ?_, e⟩)))
    rw [HLL.out]
    rcases List.mem_append.1 ha with ha | ha
    · exact List.mem_append_left _ ha
    · exact List.mem_append_right _ (List.mem_cons_of_mem _ ha)
end
end Go.Proofs.YtfaemjlemaclbaaGreat
