/- Take: a new session. Printed by wip/gen_itake.py. -/
import Derived.Test.YtfaemjlemaclbaaGreatMITake6
import Derived.Test.YtfaemjlemaclbaaGreatMRefGot
namespace Go.Proofs.YtfaemjlemaclbaaGreat
set_option linter.unusedVariables false
set_option linter.unusedSimpArgs false
open Go.RowKit Go.Maps
section
variable {w : World} {x bo bd t : Nat} {O : List OE} {C : List CE} {m : IM}
set_option maxHeartbeats 2000000 in
set_option maxRecDepth 100000 in
theorem take_new_ok (h : IAt w x bo bd t O C m) (u : UD) (dp gp : Option Addr) (dc gc : Nat) (hd : Bs w (.slice dp u.data.length dc) u.data) (hdn : ∀ b, (Value.slice dp u.data.length dc).ownBlock = some b → ¬ IF x bo bd O C b) (hk : u.kind = 1) (hdat : u.isData) (hs : ¬ u.ep.toNat < m.ep.toNat) (hc : lk (m.rise u.ep).C (u.ep, u.ses) = none) (ho : lk (m.rise u.ep).O (u.ep, u.ses) = none) (he : errOf (newBox u) u = 0) (ht : t < 4611686018427387904) :
    Calls Tryz.prog 14 #[.pointer (some ⟨x, 0, none⟩), uv u (.slice dp u.data.length dc) (.slice gp u.got.length gc)] w fun e w' => ∃ gv bv, e = .returned (.agg #[.int .i64 (ansOf ((newBox u).put u.idx u.data)).st, .int .i64 (ansOf ((newBox u).put u.idx u.data)).code, gv, bv]) ∧ w'.ownsRow w.heap.size 63 2 gv (ansOf ((newBox u).put u.idx u.data)).got.length (rvs (ansOf ((newBox u).put u.idx u.data)).got) ∧ w'.ownsRow w.heap.size 5 1 bv (ansOf ((newBox u).put u.idx u.data)).blk.length ((ansOf ((newBox u).put u.idx u.data)).blk.map ub) ∧ Took w w' x bo bd (t + 1) O C { (m.rise u.ep) with O := (m.rise u.ep).evict ++ [((u.ep, u.ses), (newBox u).put u.idx u.data)] } := by
  obtain ⟨kind, ep, ses, path, idx, cnt, data, code, got⟩ := u
  simp only at hk
  subst hk
  obtain ⟨n, hn⟩ := Int.eq_ofNat_of_zero_le (show 0 ≤ cnt by have := hdat.2.2.2.2.1; simp only at this; omega)
  obtain ⟨ix, hix⟩ := Int.eq_ofNat_of_zero_le (show 0 ≤ idx by have := hdat.2.2.2.2.2.2.1; simp only at this; omega)
  subst hn
  subst hix
  have hn1 : 1 ≤ n := by have := hdat.2.2.2.2.1; simp only at this; omega
  have hn2 : n ≤ 64 := by have := hdat.2.2.2.2.2.1; simp only at this; omega
  have hlt : decide (ep.toNat < m.ep.toNat) = false := by simpa using hs
  have HEP : Hid (ep = (m.rise ep).ep) := Lib.hid (rise_ep hs).symm
  have hv := fun W => valid_data ⟨1, ep, ses, path, (ix : Int), (n : Int), data, code, got⟩ dp gp dc gc W rfl
  rw [if_pos hdat] at hv
  simp only [uv] at hv
  simp only [uv]
  obtain ⟨W0, hW0⟩ : ∃ W0, W0 = (w.alloc (.cells #[.int .i64 1, .int .u64 (ep.toNat : Int), .int .u64 (ses.toNat : Int), .int .i64 path, .int .i64 (ix : Int), .int .i64 (n : Int), .slice dp data.length dc, .int .i64 code, .slice gp got.length gc] 35)).alloc (.cells #[.int .i64 0, .int .i64 0, .slice none 0 0, .slice none 0 0] 45) := ⟨_, rfl⟩
  have hB0 : Below w.heap.size w W0 := hW0 ▸ ((Below.refl _ _).alloc (Nat.le_refl _) _).alloc (by simp) _
  have hu0 : Blk W0 w.heap.size 35 [.int .i64 1, .int .u64 (ep.toNat : Int), .int .u64 (ses.toNat : Int), .int .i64 path, .int .i64 (ix : Int), .int .i64 (n : Int), .slice dp data.length dc, .int .i64 code, .slice gp got.length gc] := hW0 ▸ (Blk.new w _ _).alloc _
  have ha0 : Blk W0 (w.heap.size + 1) 45 [.int .i64 0, .int .i64 0, .slice none 0 0, .slice none 0 0] := by
    have := Blk.new (w.alloc (.cells #[.int .i64 1, .int .u64 (ep.toNat : Int), .int .u64 (ses.toNat : Int), .int .i64 path, .int .i64 (ix : Int), .int .i64 (n : Int), .slice dp data.length dc, .int .i64 code, .slice gp got.length gc] 35)) 45 [.int .i64 0, .int .i64 0, .slice none 0 0, .slice none 0 0]
    rw [show (w.alloc (.cells #[.int .i64 1, .int .u64 (ep.toNat : Int), .int .u64 (ses.toNat : Int), .int .i64 path, .int .i64 (ix : Int), .int .i64 (n : Int), .slice dp data.length dc, .int .i64 code, .slice gp got.length gc] 35)).heap.size = w.heap.size + 1 by simp] at this
    exact hW0 ▸ this
  have h0 := h.later hB0
  have c0 := h0.blk.cell_some (i := 0) rfl
  have c1 := h0.blk.cell_some (i := 1) rfl
  have c2 := h0.blk.cell_some (i := 2) rfl
  have c3 := h0.blk.cell_some (i := 3) rfl
  have c4 := h0.blk.cell_some (i := 4) rfl
  have c5 := h0.blk.cell_some (i := 5) rfl
  have d0 := hu0.cell_some (i := 0) rfl
  have d1 := hu0.cell_some (i := 1) rfl
  have d2 := hu0.cell_some (i := 2) rfl
  have d3 := hu0.cell_some (i := 3) rfl
  have d4 := hu0.cell_some (i := 4) rfl
  have d5 := hu0.cell_some (i := 5) rfl
  have d6 := hu0.cell_some (i := 6) rfl
  have d7 := hu0.cell_some (i := 7) rfl
  have d8 := hu0.cell_some (i := 8) rfl
  have HB0 := Lib.hid hB0; have H0 := Lib.hid h0; have HU0 := Lib.hid hu0; have HA0 := Lib.hid ha0; have HIW := Lib.hid h
  clear h h0 hB0 hu0 ha0
  go_enter Tryz.func14, Tryz.ntmps14
  go_wp2_with fail
  rw [← hW0]
  clear hW0
  refine (none_any _ _ _ c3).mono ?_
  rintro e w1 ⟨rfl, hw⟩
  rw [hw]
  clear hw w1
  go_wp2_with fail
  refine (hv _).mono ?_
  rintro e W1 ⟨rfl, hB1⟩
  have c2' := below_cell hB1 c2 (World.block_lt_of_cell? _ _ c2)
  have d1' := below_cell hB1 d1 (World.block_lt_of_cell? _ _ d1)
  have HB1 := Lib.hid hB1
  clear hB1
  go_wp2_with fail
  refine region_class (C := fun w' => w'.cell? ⟨x, 2, none⟩ = some (.int .u64 (m.ep.toNat : Int)) ∧ w'.cell? ⟨w.heap.size, 1, none⟩ = some (.int .u64 (ep.toNat : Int)) ∧ Hid (Below W0.heap.size W0 w')) (by kernel_rfl) (by kernel_rfl) ⟨c2', d1', Lib.hid HB1.out.drew⟩ ?_
  repeat
    (first
     | go_big_quiet_skip
     | (go_big_quiet_want
        rename_i K hK
        apply Exists.intro
        refine ⟨fun w' hw' => ?_, hK _ ?_⟩
        · obtain ⟨c2', d1', hB⟩ := hw'
          go_simp
          first
          | with_reducible rfl
        clear hK K
        simp only [Act.put, List.setIfInBounds_toArray, List.set_cons_zero, List.set_cons_succ]))
  refine wpQuiet_nil ?_
  rintro w5 ⟨c2', d1', hB⟩
  have h5 := H0.out.later hB.out
  have hu5 := HU0.out.later hB.out
  have ha5 := HA0.out.later hB.out
  have hlx : x < w.heap.size := HIW.out.lt (.inl rfl)
  have hlo : bo < w.heap.size := HIW.out.lt (.inr (.inl rfl))
  have hld : bd < w.heap.size := HIW.out.lt (.inr (.inr (.inl rfl)))
  have HB5 := Lib.hid (below_trans HB0.out hB.out)
  have H5 := Lib.hid h5; have HU5 := Lib.hid hu5; have HA5 := Lib.hid ha5
  clear h5 hu5 ha5 hB
  go_wp2_with fail
  refine (rise_any H5.out ep).mono ?_
  rintro e W2 ⟨rfl, O1, C1, hI2, hsO, hsC, hS2⟩
  have hu2 := HU5.out.same hS2 (by rintro (e | e | e) <;> omega)
  have ha2 := HA5.out.same hS2 (by rintro (e | e | e) <;> omega)
  have hB3 : Below W2.heap.size W2 (W2.alloc (.cells #[.int .u64 (ep.toNat : Int), .int .u64 (ses.toNat : Int)] 66)) := (Below.refl _ _).alloc (Nat.le_refl _) _
  have hs3 := Blk.new W2 66 [.int .u64 (ep.toNat : Int), .int .u64 (ses.toNat : Int)]
  have h3 := hI2.later hB3
  have hu3 := hu2.later hB3
  have ha3 := ha2.later hB3
  have d0 := hu2.cell_some (i := 0) rfl
  have d1 := hu2.cell_some (i := 1) rfl
  have d2 := hu2.cell_some (i := 2) rfl
  have d3 := hu2.cell_some (i := 3) rfl
  have d4 := hu2.cell_some (i := 4) rfl
  have d5 := hu2.cell_some (i := 5) rfl
  have d6 := hu2.cell_some (i := 6) rfl
  have d7 := hu2.cell_some (i := 7) rfl
  have d8 := hu2.cell_some (i := 8) rfl
  have g0 := h3.blk.cell_some (i := 0) rfl
  have g1 := h3.blk.cell_some (i := 1) rfl
  have g2 := h3.blk.cell_some (i := 2) rfl
  have g3 := h3.blk.cell_some (i := 3) rfl
  have g4 := h3.blk.cell_some (i := 4) rfl
  have g5 := h3.blk.cell_some (i := 5) rfl
  have s0 := hs3.cell_some (i := 0) rfl
  have s1 := hs3.cell_some (i := 1) rfl
  have hwz : w.heap.size ≤ W2.heap.size := Nat.le_trans HB5.out.size hS2.size
  have HsO := Lib.hid hsO; have HsC := Lib.hid hsC; have HS2 := Lib.hid hS2; have H2 := Lib.hid hI2; have H3 := Lib.hid h3; have HU3 := Lib.hid hu3; have HA3 := Lib.hid ha3; have HS3 := Lib.hid hs3; have HB3 := Lib.hid hB3
  clear hI2 hsO hsC hS2 hu2 ha2 h3 hu3 ha3 hs3 hB3 c0 c1 c2 c3 c4 c5 c2' d1' hv hlt
  have look := fun W hB => H3.out.lookC_no hc W hB
  simp only [sv] at look
  have HL := Lib.hid look
  clear look hc hs
  go_wp2_with fail
  refine region_class (C := fun w' => w'.cell? ⟨x, 4, none⟩ = some (.map (some bd)) ∧ w'.cell? ⟨W2.heap.size, 0, none⟩ = some (.int .u64 (ep.toNat : Int)) ∧ w'.cell? ⟨W2.heap.size, 1, none⟩ = some (.int .u64 (ses.toNat : Int)) ∧ Hid (Below (W2.alloc (.cells #[.int .u64 (ep.toNat : Int), .int .u64 (ses.toNat : Int)] 66)).heap.size (W2.alloc (.cells #[.int .u64 (ep.toNat : Int), .int .u64 (ses.toNat : Int)] 66)) w')) (by kernel_rfl) (by kernel_rfl) ⟨g4, s0, s1, Lib.hid (Below.refl _ _).drew⟩ ?_
  repeat
    (first
     | go_big_quiet_skip
     | (go_big_quiet_want
        rename_i K hK
        apply Exists.intro
        refine ⟨fun w' hw' => ?_, hK _ ?_⟩
        · obtain ⟨g4, s0, s1, hB⟩ := hw'
          have l1 := HL.out w' hB.out
          go_simp
          first
          | with_reducible rfl
        clear hK K
        simp only [Act.put, List.setIfInBounds_toArray, List.set_cons_zero, List.set_cons_succ]))
  refine wpQuiet_nil ?_
  rintro w5 ⟨g4, s0, s1, hB⟩
  have g3' := below_cell hB.out g3 (World.block_lt_of_cell? _ _ g3)
  have HB9 := Lib.hid hB.out
  clear hB HL
  have HNO : Hid (∀ y, (((ep, ses) : Sess), y) ∉ (m.rise ep).O) := Lib.hid (lk_none ho)
  have look := fun W hB => H3.out.lookO_no ho W hB
  simp only [sv] at look
  have HL := Lib.hid look
  clear look ho hdat
  go_wp2_with fail
  refine region_class (C := fun w' => w'.cell? ⟨x, 3, none⟩ = some (.map (some bo)) ∧ w'.cell? ⟨W2.heap.size, 0, none⟩ = some (.int .u64 (ep.toNat : Int)) ∧ w'.cell? ⟨W2.heap.size, 1, none⟩ = some (.int .u64 (ses.toNat : Int)) ∧ Hid (Below (W2.alloc (.cells #[.int .u64 (ep.toNat : Int), .int .u64 (ses.toNat : Int)] 66)).heap.size (W2.alloc (.cells #[.int .u64 (ep.toNat : Int), .int .u64 (ses.toNat : Int)] 66)) w')) (by kernel_rfl) (by kernel_rfl) ⟨g3', s0, s1, Lib.hid HB9.out.drew⟩ ?_
  repeat
    (first
     | go_big_quiet_skip
     | (go_big_quiet_want
        rename_i K hK
        apply Exists.intro
        refine ⟨fun w' hw' => ?_, hK _ ?_⟩
        · obtain ⟨g3', s0, s1, hB⟩ := hw'
          have l1 := HL.out w' hB.out
          go_simp
          first
          | with_reducible rfl
        clear hK K
        simp only [Act.put, List.setIfInBounds_toArray, List.set_cons_zero, List.set_cons_succ]))
  refine wpQuiet_nil ?_
  rintro w5 ⟨g3', s0, s1, hB⟩
  have hSw : Same (IF x bo bd O C) w w5 := ((((Same.of_below HB5.out (IF x bo bd O C)).trans HS2.out fun i hi e => by
    rcases e with e | e | e
    · exact .inl e
    · exact .inr (.inl e)
    · exact .inr (.inr (.inl e))).trans (Same.of_below HB3.out no) fun i hi e => e.elim).trans (Same.of_below hB.out no) fun i hi e => e.elim)
  have hd6 : Bs w5 (.slice dp data.length dc) data := Rd.same hd hSw hdn
  have hu6 := HU3.out.later hB.out
  have ha6 := HA3.out.later hB.out
  have h6 := H3.out.later hB.out
  have hs6 := HS3.out.later hB.out
  have u4 := hu6.cell_some (i := 4) rfl
  have u5 := hu6.cell_some (i := 5) rfl
  have u6 := hu6.cell_some (i := 6) rfl
  have HSW := Lib.hid hSw; have HD := Lib.hid hd6; have HU6 := Lib.hid hu6; have HA6 := Lib.hid ha6; have H6 := Lib.hid h6; have HS6 := Lib.hid hs6
  clear hSw hd6 hu6 ha6 h6 hs6 hd d0 d1 d2 d3 d4 d5 d6 d7 d8 g0 g1 g2 g3 g4 g5 s0 s1
  go_wp2_with fail
  refine (new_yes n _ hn1 hn2).mono ?_
  rintro e W8 ⟨rfl, hbx, hB8⟩
  have u4' := below_cell hB8 u4 (World.block_lt_of_cell? _ _ u4)
  have u6' := below_cell hB8 u6 (World.block_lt_of_cell? _ _ u6)
  have hd8 := HD.out.later hB8
  have HB8 := Lib.hid hB8; have HBX := Lib.hid hbx
  clear hB8 hbx u4 u6
  go_wp2_with fail
  have hput := (put_any w5.heap.size (⟨n, 0, List.replicate 64 []⟩ : BoxS) ix (.slice dp data.length dc) data W8 HBX.out hd8 (known_new n hn1 hn2).good.fine)
  obtain ⟨E, hE⟩ : ∃ E, putErr ((⟨n, 0, List.replicate 64 []⟩ : BoxS)).cnt ((⟨n, 0, List.replicate 64 []⟩ : BoxS)).len ((⟨n, 0, List.replicate 64 []⟩ : BoxS)).ps (ix : Int) data = E := ⟨_, rfl⟩
  rw [hE] at hput
  have HE := Lib.hid hE
  clear hE
  have HE0 : Hid (E = 0) := Lib.hid (by
    rw [← HE.out]
    exact he)
  rw [HE0.out] at hput
  clear he
  obtain ⟨W6, hW6⟩ : ∃ W6, W6 = w5 := ⟨_, rfl⟩
  subst hW6
  obtain ⟨B, hBB⟩ : ∃ B, (newBox ⟨1, ep, ses, path, (ix : Int), (n : Int), data, code, got⟩).put (ix : Int) data = B := ⟨_, rfl⟩
  have hBB' : BoxS.put (⟨n, 0, List.replicate 64 []⟩ : BoxS) (ix : Int) data = B := hBB
  rw [hBB'] at hput
  have HBB := Lib.hid hBB
  have hKB : Known B := hBB' ▸ known_put (known_new n hn1 hn2) _ _
  have HKB := Lib.hid hKB
  have HGOOD := Lib.hid hKB.good
  clear hBB hBB' hKB
  refine hput.mono ?_
  rintro e W9 ⟨rfl, hb9, hS9⟩
  have ha9 := (HA6.out.later HB8.out).same hS9 fun e => by
    have h1 := HA6.out.lt
    have : w.heap.size + 1 = W6.heap.size := e
    omega
  have hs9 := (HS6.out.later HB8.out).same hS9 fun e => by
    have h1 := HS6.out.lt
    have : W2.heap.size = W6.heap.size := e
    omega
  have h9 := (H6.out.later HB8.out).same hS9 fun b hb e => by
    have h1 := H6.out.lt hb
    have : b = W6.heap.size := e
    omega
  have hsz5 : w.heap.size ≤ W6.heap.size := HSW.out.size
  have hSw9 : Same (IF x bo bd O C) w W9 := (HSW.out.trans (Same.of_below HB8.out no) fun i hi e => e.elim).trans hS9 fun i hi e => by
    have : i = W6.heap.size := e
    omega
  obtain ⟨N, hN⟩ : ∃ N, N = (O1.map OE.kv).length := ⟨_, rfl⟩
  obtain ⟨M, hM⟩ : ∃ M, M = (m.rise ep).mo := ⟨_, rfl⟩
  have hlen : ∀ W, Below W9.heap.size W9 W → ∀ ty, (Builtin.len_ #[84] ty #[.map (some bo)]).run Tryz.prog W = .ok (.int .i64 (N : Int)) W := fun W hB ty => by
    rw [hN]
    exact (h9.mo.later hB).len Tryz.underlying84 ty
  have e0 := h9.blk.cell_some (i := 0) rfl
  have e3 := h9.blk.cell_some (i := 3) rfl
  rw [← hM] at e0
  have HLEN := Lib.hid hlen; have HNN := Lib.hid hN; have HMM := Lib.hid hM
  have HX9 := Lib.hid hb9; have HA9 := Lib.hid ha9; have HS9 := Lib.hid hs9; have HI9 := Lib.hid h9; have HSW9 := Lib.hid hSw9
  clear hlen hN hM hb9 ha9 hs9 h9 hSw9 hS9 u5
  go_wp2_with fail
  refine region_class (C := fun w' => w'.cell? ⟨x, 0, none⟩ = some (.int .i64 (M : Int)) ∧ w'.cell? ⟨x, 3, none⟩ = some (.map (some bo)) ∧ Hid (Below W9.heap.size W9 w')) (by kernel_rfl) (by kernel_rfl) ⟨e0, e3, Lib.hid (Below.refl _ _).drew⟩ ?_
  repeat
    (first
     | go_big_quiet_skip
     | (go_big_quiet_want
        rename_i K hK
        apply Exists.intro
        refine ⟨fun w' hw' => ?_, hK _ ?_⟩
        · obtain ⟨e0, e3, hB⟩ := hw'
          have l1 := HLEN.out w' hB.out
          go_simp
          first
          | with_reducible rfl
        clear hK K
        simp only [Act.put, List.setIfInBounds_toArray, List.set_cons_zero, List.set_cons_succ]))
  refine wpQuiet_nil ?_
  rintro w5 ⟨e0, e3, hB⟩
  have hN1 : N = (m.rise ep).O.length := by
    rw [HNN.out, List.length_map, ← HI9.out.eo, List.length_map]
  have HN1 := Lib.hid hN1
  have HBW := Lib.hid hB.out
  clear hN1 hB
  by_cases hMN : M ≤ N
  · have hd : decide (M ≤ N) = true := by simpa using hMN
    have HMN := Lib.hid hMN
    clear hMN
    go_wp2_with fail
    have HROW : Hid (∀ W, Below W9.heap.size W9 W → Calls Tryz.prog 39 #[.map (some bo)] W fun e w' => ∃ v, e = .returned v ∧ w'.ownsRow W.heap.size 66 2 v ((m.rise ep).O).length ((((m.rise ep).O).map (·.1)).flatMap sc) ∧ Below W.heap.size W w') := Lib.hid fun W hB => (HI9.out.later hB).row_o
    obtain ⟨c0, Ct, hC5⟩ : ∃ c0 Ct, O1 = c0 :: Ct := by
      cases h : O1 with
      | nil =>
        have h1 := HN1.out
        have h2 := HMM.out
        have h3 := HMN.out
        have h4 := HI9.out.inv.mo1
        have h5 := HI9.out.eo
        rw [h] at h5
        rw [← h5] at h1
        simp at h1
        omega
      | cons a l => exact ⟨a, l, rfl⟩
    have hm5 : (m.rise ep).O = (c0 :: Ct).map OE.m := by rw [← hC5]; exact HI9.out.eo.symm
    have hkv5 : O1.map OE.kv = (c0 :: Ct).map OE.kv := by rw [← hC5]
    have hdelW : ∀ W, Below W9.heap.size W9 W → ∃ W', (∀ ty, (Builtin.delete_ #[84, 66] ty #[.map (some bo), .agg #[.int .u64 (c0.s.1.toNat : Int), .int .u64 (c0.s.2.toNat : Int)]]).run Tryz.prog W = .ok (.tuple #[]) W') ∧ MapAt W' bo (Ct.map OE.kv) ∧ Same (at1 bo) W W' := fun W hB => by
      have h1 := HI9.out.mo.later hB
      rw [hkv5] at h1
      obtain ⟨W', q1, q2, q3⟩ := h1.del sKL pEL Tryz.underlying84 c0.s
      have e : wo ((c0 :: Ct).map OE.kv) c0.s = Ct.map OE.kv := by
        have hn := h1.1
        rw [List.map_cons, List.map_cons, List.nodup_cons] at hn
        rw [List.map_cons]
        unfold wo
        rw [List.filter_cons, if_neg (by simp [OE.kv])]
        exact wo_none fun y hy => hn.1 (List.mem_map.2 ⟨_, hy, rfl⟩)
      rw [e] at q2
      exact ⟨W', q1, q2, q3⟩
    have HDEL := Lib.hid hdelW; have HC5 := Lib.hid hC5; have HM5' := Lib.hid hm5
    obtain ⟨u1, hu1⟩ : ∃ u1 : Int, u1 = (c0.s.1.toNat : Int) := ⟨_, rfl⟩
    obtain ⟨u2, hu2⟩ : ∃ u2 : Int, u2 = (c0.s.2.toNat : Int) := ⟨_, rfl⟩
    rw [← hu1, ← hu2] at HDEL
    have hcellW : ∀ (W W' : World) (v : Value), W'.ownsRow W.heap.size 66 2 v ((m.rise ep).O).length ((((m.rise ep).O).map (·.1)).flatMap sc) →
        ∃ g off cap k, v = .slice (some ⟨g, off, none⟩) (k + 1) cap ∧ W'.cell? ⟨g, off, none⟩ = some (.int .u64 u1) ∧ W'.cell? ⟨g, off + 1, none⟩ = some (.int .u64 u2) := fun W W' v ho => by
      rw [hm5, List.map_cons, List.map_cons, List.flatMap_cons] at ho
      obtain ⟨g, off, cap, rfl, -, -, -, hc⟩ := (Rd.of_own ho).form (by simp [sc])
      refine ⟨g, off, cap, (Ct.map OE.m).length, by simp, ?_, ?_⟩
      · rw [hu1]; exact hc 0 _ rfl
      · rw [hu2]; exact hc 1 _ rfl
    have HCELL := Lib.hid hcellW
    have HU1 := Lib.hid hu1; have HU2 := Lib.hid hu2
    clear hC5 hm5 hkv5 hdelW hcellW hu1 hu2 e0 HL HLEN s0 s1 hd g4 g3'
    have hxl : x < w5.heap.size := Nat.lt_of_lt_of_le HI9.out.blk.lt HBW.out.size
    go_region_law (first
      | (go_simp
         go_at_call 39
         refine (HROW.out w5.drew HBW.out.drew).mono ?_
         rintro e w7 ⟨v, rfl, ho7, hB7⟩
         obtain ⟨g, off, cap, k, rfl, q0, q1⟩ := HCELL.out _ _ _ ho7
         have e3' := below_cell hB7 (show w5.drew.cell? ⟨x, 3, none⟩ = some (.map (some bo)) from e3) hxl
         obtain ⟨Wd, hdel, hm8, hS8⟩ := HDEL.out w7 (below_trans HBW.out.drew hB7)
         have HB7 := Lib.hid hB7; have HM8 := Lib.hid hm8; have HS8 := Lib.hid hS8
         clear ho7 hB7 hm8 hS8)
      | (go_loud (refine step_del rfl (.tmp 102) (.tmp 109) _ _ rfl rfl rfl hdel ?_)))
    all_goals
      obtain ⟨Od, hOd⟩ : ∃ Od, Od = Ct := ⟨_, rfl⟩
      have hB9 := below_trans HBW.out.drew HB7.out
      have HSOD : Hid (Od.Sublist O1) := Lib.hid (by rw [hOd, HC5.out]; exact List.sublist_cons_self _ _)
      have HOD : Hid ((m.rise ep).evict = Od.map OE.m) := Lib.hid (by
        rw [IM.evict, if_pos (by have := HMN.out; have := HN1.out; have := HMM.out; omega), HM5'.out, hOd]
        rfl)
      have hsm : (Od.map OE.m).Sublist (m.rise ep).O := by rw [← HI9.out.eo]; exact HSOD.out.map _
      have HId : Hid (IAt Wd x bo bd t Od C1 { (m.rise ep) with O := Od.map OE.m }) := Lib.hid ((HI9.out.later hB9).delO HSOD.out (by rw [hOd]; exact HM8.out) HS8.out (HI9.out.inv.subO hsm))
      have hbg : bo < W6.heap.size := H6.out.lt (.inr (.inl rfl))
      have hzz : w.heap.size + 1 < W6.heap.size := HA6.out.lt
      have hzs : W2.heap.size < W6.heap.size := HS6.out.lt
      have HXd : Hid (B.at Wd W6.heap.size) := Lib.hid (BoxAt.same (BoxAt.later HX9.out hB9) HS8.out (fun e => by have : W6.heap.size = bo := e; omega))
      have hbo : bo < w.heap.size := hlo
      have HSd := Lib.hid ((HS9.out.later hB9).same HS8.out (fun e => by have : W2.heap.size = bo := e; omega))
      have HAd := Lib.hid ((HA9.out.later hB9).same HS8.out (fun e => by have : w.heap.size + 1 = bo := e; omega))
      have HSWd : Hid (Same (IF x bo bd O C) w Wd) := Lib.hid ((HSW9.out.trans (Same.of_below hB9 no) fun i hi e => e.elim).trans HS8.out fun i hi e => .inr (.inl e))
      have HINV : Hid (IInv { (m.rise ep) with O := Od.map OE.m ++ [((ep, ses), B)] }) := Lib.hid (HI9.out.inv.newO HEP.out HNO.out HKB.out HOD.out)
      have HLT : Hid ((Od.map OE.m).length < (m.rise ep).mo) := Lib.hid (by
        have h1 := HINV.out.lo
        simp only [List.length_append, List.length_singleton] at h1
        omega)
      have HNEW : Hid (∀ y, (((ep, ses) : Sess), y) ∉ Od.map OE.kv) := Lib.hid fun y hy => by
        obtain ⟨o, ho, e⟩ := List.mem_map.1 hy
        exact HNO.out o.box (HI9.out.eo ▸ List.mem_map.2 ⟨o, HSOD.out.subset ho, by rw [show ((ep, ses) : Sess) = o.s from (congrArg Prod.fst e).symm]; rfl⟩)
      clear hOd hB9 hsm hbg hzz hzs hbo
      have hBd3 : Below Wd.heap.size Wd (Wd.alloc (.cells #[.pointer (some ⟨W6.heap.size, 0, none⟩), .int .i64 0] 101)) := (Below.refl _ _).alloc (Nat.le_refl _) _
      have hk3 := Blk.new Wd 101 [.pointer (some ⟨W6.heap.size, 0, none⟩), .int .i64 0]
      have h3 := HId.out.later hBd3
      have hs3 := HSd.out.later hBd3
      have c3 := h3.blk.cell_some (i := 3) rfl
      have s0 := hs3.cell_some (i := 0) rfl
      have s1 := hs3.cell_some (i := 1) rfl
      have hlen3 : (Od.map OE.kv).length < maxLen := by
        have e1 := HLT.out
        have e2 := H6.out.inv.mo2
        rw [List.length_map] at e1 ⊢
        simp only [maxLen]
        omega
      obtain ⟨W5, hput, hm5, hS5⟩ := (h3.mo.drew).put sKL pEL Tryz.underlying84 hlen3 HNEW.out (some Wd.heap.size)
      simp only [sv, pv] at hput
      have hS5' : Same (at1 bo) (Wd.alloc (.cells #[.pointer (some ⟨W6.heap.size, 0, none⟩), .int .i64 0] 101)) W5 := ⟨hS5.os, hS5.tape, hS5.output, hS5.size, hS5.block⟩
      have hx5 := h3.blk.same hS5' h3.x_ne.1
      have hk5 := hk3.same hS5' (h3.mo.ne hk3)
      have HM5 := Lib.hid hm5; have HS5 := Lib.hid hS5'; have HX5 := Lib.hid hx5; have HK5 := Lib.hid hk5; have HB3 := Lib.hid hBd3
      have hxk : x ≠ Wd.heap.size := Nat.ne_of_lt HId.out.blk.lt
      clear hm5 hS5 hS5' hx5 hk5 hBd3 hk3 h3 hs3 hlen3
      go_wp2_with fail
      refine region_phases [6] (by kernel_rfl) (by kernel_rfl) ?_
      refine phases_more (fun w' => w' = (Wd.alloc (.cells #[.pointer (some ⟨W6.heap.size, 0, none⟩), .int .i64 0] 101)).drew) rfl ?_
      simp only [List.take_succ_cons, List.take_zero, List.drop_zero]
      repeat (first
        | go_big_quiet_skip
        | (go_big_quiet_want
           rename_i K hK
           apply Exists.intro
           refine ⟨fun w' hw' => ?_, hK _ ?_⟩
           · subst hw'
             have zz0 : (Wd.alloc (.cells #[.pointer (some ⟨W6.heap.size, 0, none⟩), .int .i64 0] 101)).drew.cell? _ = _ := c3
             have zz1 : (Wd.alloc (.cells #[.pointer (some ⟨W6.heap.size, 0, none⟩), .int .i64 0] 101)).drew.cell? _ = _ := s0
             have zz2 : (Wd.alloc (.cells #[.pointer (some ⟨W6.heap.size, 0, none⟩), .int .i64 0] 101)).drew.cell? _ = _ := s1
             go_simp
             with_reducible rfl
           clear hK K
           simp only [Act.put, List.setIfInBounds_toArray, List.set_cons_zero, List.set_cons_succ]))
      refine wpQuiet_nil ?_
      rintro w7 rfl
      refine phases_op rfl rfl (fun K hK => ?_)
      go_simp
      refine hK _ _ (phases_last (fun w' => w' = W5) rfl ?_)
      clear hput
      clear hK K
      simp only [Act.put, List.setIfInBounds_toArray, List.set_cons_zero, List.set_cons_succ, List.drop_succ_cons, List.drop_zero]
      refine wpQuiet_nil ?_
      rintro w7 hw7
      rw [hw7]
      clear hw7 w7
      go_wp2_with fail
      refine (touch_any x Wd.heap.size t 101 _ _ _ _ _ _ _ _ HX5.out HK5.out hxk ht).mono ?_
      rintro e W12 ⟨rfl, hx12, hk12, hS12⟩
      have hbd : bo < Wd.heap.size := HId.out.lt (.inr (.inl rfl))
      have hgd : W6.heap.size < Wd.heap.size := HXd.out.blk.lt
      have hbg : bo < W6.heap.size := H6.out.lt (.inr (.inl rfl))
      have hxg : x < W6.heap.size := H6.out.lt (.inl rfl)
      have had : w.heap.size + 1 < Wd.heap.size := HAd.out.lt
      have hab : w.heap.size + 1 ≠ bo := fun e => by omega
      have hax : w.heap.size + 1 ≠ x := fun e => by omega
      have hg12 : B.at W12 W6.heap.size := BoxAt.same (BoxAt.same (BoxAt.later HXd.out HB3.out) HS5.out (fun e => by have : W6.heap.size = bo := e; omega)) hS12 (by rintro (e | e) <;> omega)
      have hS : Same (fun k => k = x ∨ k = bo) Wd W12 := ((Same.of_below HB3.out (fun k => k = x ∨ k = bo)).trans HS5.out fun i hi e => .inr e).trans hS12 fun i hi e => by
        rcases e with e | e
        · exact .inl e
        · omega
      have hm12 := HM5.out.same hS12 (by rintro (e | e); exact HId.out.x_ne.1 e.symm; omega)
      have h12 := HId.out.addO (s := (ep, ses)) (kb := Wd.heap.size) (gb := W6.heap.size) (b' := B) HINV.out hm12 hx12 hk12 hg12 hS (fun a ha => Nat.ne_of_lt (HId.out.ko.blk a ha).lt) (fun a ha => Nat.ne_of_lt (H6.out.ko.box a (HSOD.out.subset ha)).blk.lt)
      have hSw : Same (IF x bo bd O C) w W12 := HSWd.out.trans hS fun i hi e => by
        rcases e with e | e
        · exact .inl e
        · exact .inr (.inl e)
      have hf : ∀ b, IF x bo bd (Od ++ [⟨(ep, ses), Wd.heap.size, W6.heap.size, t + 1, B⟩]) C1 b → IF x bo bd O C b ∨ w.heap.size ≤ b := fun b hb => by
        rcases hb with e | e | e | ⟨o, ho, e⟩ | ⟨c, hc, e⟩
        · exact .inl (.inl e)
        · exact .inl (.inr (.inl e))
        · exact .inl (.inr (.inr (.inl e)))
        · rcases List.mem_append.1 ho with h | h
          · exact .inl (.inr (.inr (.inr (.inl ⟨o, HsO.out.subset (HSOD.out.subset h), e⟩))))
          · simp at h
            subst h
            have hz := HSW.out.size
            rcases e with e | e
            · have : b = Wd.heap.size := e
              exact .inr (by omega)
            · have : b = W6.heap.size := e
              exact .inr (by omega)
        · exact .inl (.inr (.inr (.inr (.inr ⟨c, HsC.out.subset hc, e⟩))))
      have ha12 := (((HAd.out.later HB3.out).same HS5.out hab).same hS12 (by rintro (e | e) <;> omega))
      have k12 := hk12.cell_some (i := 0) rfl
      have h12' : IAt W12 x bo bd (t + 1) (Od ++ [⟨(ep, ses), Wd.heap.size, W6.heap.size, t + 1, B⟩]) C1 { (m.rise ep) with O := (m.rise ep).evict ++ [((ep, ses), B)] } := by
        rw [HOD.out]
        exact h12
      have H12 := Lib.hid h12'; have HSW12 := Lib.hid hSw; have HF12 := Lib.hid hf; have HA12 := Lib.hid ha12; have HBX12 := Lib.hid hg12
      clear h12 h12' hSw hf ha12 hg12 hS hx12 hk12 hS12 hm12 hbd hgd hbg hxg had hab hax hxk c3 s0 s1
      have HZ12 : Hid (w.heap.size ≤ W12.heap.size) := Lib.hid HSW12.out.size
      obtain ⟨A, hA⟩ : ∃ A, allNe B.ps B.cnt = A := ⟨_, rfl⟩
      have hwh := whole_any W6.heap.size B W12 HBX12.out HGOOD.out.fine HGOOD.out.n
      rw [hA] at hwh
      have HWH := Lib.hid hwh; have HAA := Lib.hid hA
      clear hwh hA
      cases A with
      | true =>
        go_wp2_with fail
        refine HWH.out.mono ?_
        rintro e W13 ⟨bv, rfl, hbv, hB13⟩
        obtain ⟨ao, cap, rfl, -⟩ := Rd.of_own hbv
        have ha13 := HA12.out.later hB13
        have a0 := ha13.cell_some (i := 0) rfl
        have f0 := ha13.frozen 0
        have a1 := ha13.cell_some (i := 1) rfl
        have f1 := ha13.frozen 1
        have a2 := ha13.cell_some (i := 2) rfl
        have f2 := ha13.frozen 2
        have a3 := ha13.cell_some (i := 3) rfl
        have f3 := ha13.frozen 3
        have HA13 := Lib.hid ha13; have HBV := Lib.hid hbv; have HB13 := Lib.hid hB13
        clear ha13 hbv hB13
        go_wp2_with fail
        refine bodyPost_ret (v := .agg #[.int .i64 4, .int .i64 0, .slice none 0 0, .slice ao (blockOf B).length cap]) (results_cell_row rfl _ _ (w.heap.size + 1) _ _ _ _ rfl ((((HA13.out.set 0 (.int .i64 4)).set 1 (.int .i64 0)).set 2 (.slice none 0 0)).set 3 (.slice ao (blockOf B).length cap)) Tryz.underlying45 rfl (by kernel_rfl)) rfl ?_
        simp only [HBB.out]
        have ean : ansOf B = ⟨4, 0, [], blockOf B⟩ := if_pos HAA.out
        have hT := took_ans (H12.out.later HB13.out) (HSW12.out.trans (Same.of_below HB13.out no) fun i hi e => e.elim) HF12.out HA13.out (by omega) (.int .i64 4) (.int .i64 0) (.slice none 0 0) (.slice ao (blockOf B).length cap)
        refine ⟨_, _, by rw [ean], by rw [ean]; exact World.ownsRow_nil _ _ _ _, ?_, hT⟩
        rw [ean]
        refine own_mono (own_same HBV.out (((((Same.refl (at1 (w.heap.size + 1)) W13).setCell (p := ⟨w.heap.size + 1, 0, none⟩) (fun _ => rfl) _).setCell (p := ⟨w.heap.size + 1, 1, none⟩) (fun _ => rfl) _).setCell (p := ⟨w.heap.size + 1, 2, none⟩) (fun _ => rfl) _).setCell (p := ⟨w.heap.size + 1, 3, none⟩) (fun _ => rfl) _) fun k hk e => ?_) HZ12.out
        exact own_blk_ne HBV.out HA13.out (by decide) (by rw [hk, show k = w.heap.size + 1 from e])
      | false =>
        go_wp2_with fail
        refine HWH.out.mono ?_
        rintro e W13 ⟨bv, rfl, -, hB13⟩
        have k13 := below_cell hB13 k12 (World.block_lt_of_cell? _ _ k12)
        have HB13 := Lib.hid hB13
        have HBX13 := Lib.hid (BoxAt.later HBX12.out hB13)
        clear hB13
        go_wp2_with fail
        refine (got_any W6.heap.size B.cnt B.len B.ps W13 HBX13.out HGOOD.out.fine.hi).mono ?_
        rintro e W14 ⟨gv, rfl, hgv, hB14⟩
        obtain ⟨ao, cap, rfl, -⟩ := Rd.of_own hgv
        have ha14 := (HA12.out.later HB13.out).later hB14
        have a0 := ha14.cell_some (i := 0) rfl
        have f0 := ha14.frozen 0
        have a1 := ha14.cell_some (i := 1) rfl
        have f1 := ha14.frozen 1
        have a2 := ha14.cell_some (i := 2) rfl
        have f2 := ha14.frozen 2
        have a3 := ha14.cell_some (i := 3) rfl
        have f3 := ha14.frozen 3
        have HA14 := Lib.hid ha14; have HGV := Lib.hid hgv; have HB14 := Lib.hid hB14
        clear ha14 hgv hB14
        go_wp2_with fail
        refine bodyPost_ret (v := .agg #[.int .i64 3, .int .i64 0, .slice ao (leastR (gotL B.ps B.cnt)).length cap, .slice none 0 0]) (results_cell_row rfl _ _ (w.heap.size + 1) _ _ _ _ rfl ((((HA14.out.set 0 (.int .i64 3)).set 1 (.int .i64 0)).set 2 (.slice ao (leastR (gotL B.ps B.cnt)).length cap)).set 3 (.slice none 0 0)) Tryz.underlying45 rfl (by kernel_rfl)) rfl ?_
        simp only [HBB.out]
        have ean : ansOf B = ⟨3, 0, leastR (gotL B.ps B.cnt), []⟩ := if_neg (by rw [HAA.out]; decide)
        have hT := took_ans ((H12.out.later HB13.out).later HB14.out) ((HSW12.out.trans (Same.of_below HB13.out no) fun i hi e => e.elim).trans (Same.of_below HB14.out no) fun i hi e => e.elim) HF12.out HA14.out (by omega) (.int .i64 3) (.int .i64 0) (.slice ao (leastR (gotL B.ps B.cnt)).length cap) (.slice none 0 0)
        refine ⟨_, _, by rw [ean], ?_, by rw [ean]; exact World.ownsRow_nil _ _ _ _, hT⟩
        rw [ean]
        refine own_mono (own_same HGV.out (((((Same.refl (at1 (w.heap.size + 1)) W14).setCell (p := ⟨w.heap.size + 1, 0, none⟩) (fun _ => rfl) _).setCell (p := ⟨w.heap.size + 1, 1, none⟩) (fun _ => rfl) _).setCell (p := ⟨w.heap.size + 1, 2, none⟩) (fun _ => rfl) _).setCell (p := ⟨w.heap.size + 1, 3, none⟩) (fun _ => rfl) _) fun k hk e => ?_) (Nat.le_trans HZ12.out HB13.out.size)
        exact own_blk_ne HGV.out HA14.out (by decide) (by rw [hk, show k = w.heap.size + 1 from e])
  · have hd : decide (M ≤ N) = false := by simpa using hMN
    have HMN := Lib.hid hMN
    clear hMN
    go_wp2_with fail
    obtain ⟨Wd, hWd⟩ : ∃ Wd, Wd = w5 := ⟨_, rfl⟩
    subst hWd
    obtain ⟨Od, hOd⟩ : ∃ Od, Od = O1 := ⟨_, rfl⟩
    have hB9 := HBW.out
    have HSOD : Hid (Od.Sublist O1) := Lib.hid (by rw [hOd]; exact List.Sublist.refl _)
    have HOD : Hid ((m.rise ep).evict = Od.map OE.m) := Lib.hid (by
      rw [IM.evict, if_neg (by have := HMN.out; have := HN1.out; have := HMM.out; omega), hOd]
      exact HI9.out.eo.symm)
    have HId : Hid (IAt Wd x bo bd t Od C1 { (m.rise ep) with O := Od.map OE.m }) := Lib.hid (by
      rw [hOd, HI9.out.eo]
      exact HI9.out.later hB9)
    have HXd : Hid (B.at Wd W6.heap.size) := Lib.hid (BoxAt.later HX9.out hB9)
    have HSd := Lib.hid (HS9.out.later hB9)
    have HAd := Lib.hid (HA9.out.later hB9)
    have HSWd : Hid (Same (IF x bo bd O C) w Wd) := Lib.hid (HSW9.out.trans (Same.of_below hB9 no) fun i hi e => e.elim)
    have HINV : Hid (IInv { (m.rise ep) with O := Od.map OE.m ++ [((ep, ses), B)] }) := Lib.hid (HI9.out.inv.newO HEP.out HNO.out HKB.out HOD.out)
    have HLT : Hid ((Od.map OE.m).length < (m.rise ep).mo) := Lib.hid (by
      have h1 := HINV.out.lo
      simp only [List.length_append, List.length_singleton] at h1
      omega)
    have HNEW : Hid (∀ y, (((ep, ses) : Sess), y) ∉ Od.map OE.kv) := Lib.hid fun y hy => by
      obtain ⟨o, ho, e⟩ := List.mem_map.1 hy
      exact HNO.out o.box (HI9.out.eo ▸ List.mem_map.2 ⟨o, HSOD.out.subset ho, by rw [show ((ep, ses) : Sess) = o.s from (congrArg Prod.fst e).symm]; rfl⟩)
    clear hOd hB9 e0 HL HLEN hd
    have hBd3 : Below Wd.heap.size Wd (Wd.alloc (.cells #[.pointer (some ⟨W6.heap.size, 0, none⟩), .int .i64 0] 101)) := (Below.refl _ _).alloc (Nat.le_refl _) _
    have hk3 := Blk.new Wd 101 [.pointer (some ⟨W6.heap.size, 0, none⟩), .int .i64 0]
    have h3 := HId.out.later hBd3
    have hs3 := HSd.out.later hBd3
    have c3 := h3.blk.cell_some (i := 3) rfl
    have s0 := hs3.cell_some (i := 0) rfl
    have s1 := hs3.cell_some (i := 1) rfl
    have hlen3 : (Od.map OE.kv).length < maxLen := by
      have e1 := HLT.out
      have e2 := H6.out.inv.mo2
      rw [List.length_map] at e1 ⊢
      simp only [maxLen]
      omega
    obtain ⟨W5, hput, hm5, hS5⟩ := (h3.mo.drew).put sKL pEL Tryz.underlying84 hlen3 HNEW.out (some Wd.heap.size)
    simp only [sv, pv] at hput
    have hS5' : Same (at1 bo) (Wd.alloc (.cells #[.pointer (some ⟨W6.heap.size, 0, none⟩), .int .i64 0] 101)) W5 := ⟨hS5.os, hS5.tape, hS5.output, hS5.size, hS5.block⟩
    have hx5 := h3.blk.same hS5' h3.x_ne.1
    have hk5 := hk3.same hS5' (h3.mo.ne hk3)
    have HM5 := Lib.hid hm5; have HS5 := Lib.hid hS5'; have HX5 := Lib.hid hx5; have HK5 := Lib.hid hk5; have HB3 := Lib.hid hBd3
    have hxk : x ≠ Wd.heap.size := Nat.ne_of_lt HId.out.blk.lt
    clear hm5 hS5 hS5' hx5 hk5 hBd3 hk3 h3 hs3 hlen3
    go_wp2_with fail
    refine region_phases [6] (by kernel_rfl) (by kernel_rfl) ?_
    refine phases_more (fun w' => w' = (Wd.alloc (.cells #[.pointer (some ⟨W6.heap.size, 0, none⟩), .int .i64 0] 101)).drew) rfl ?_
    simp only [List.take_succ_cons, List.take_zero, List.drop_zero]
    repeat (first
      | go_big_quiet_skip
      | (go_big_quiet_want
         rename_i K hK
         apply Exists.intro
         refine ⟨fun w' hw' => ?_, hK _ ?_⟩
         · subst hw'
           have zz0 : (Wd.alloc (.cells #[.pointer (some ⟨W6.heap.size, 0, none⟩), .int .i64 0] 101)).drew.cell? _ = _ := c3
           have zz1 : (Wd.alloc (.cells #[.pointer (some ⟨W6.heap.size, 0, none⟩), .int .i64 0] 101)).drew.cell? _ = _ := s0
           have zz2 : (Wd.alloc (.cells #[.pointer (some ⟨W6.heap.size, 0, none⟩), .int .i64 0] 101)).drew.cell? _ = _ := s1
           go_simp
           with_reducible rfl
         clear hK K
         simp only [Act.put, List.setIfInBounds_toArray, List.set_cons_zero, List.set_cons_succ]))
    refine wpQuiet_nil ?_
    rintro w7 rfl
    refine phases_op rfl rfl (fun K hK => ?_)
    go_simp
    refine hK _ _ (phases_last (fun w' => w' = W5) rfl ?_)
    clear hput
    clear hK K
    simp only [Act.put, List.setIfInBounds_toArray, List.set_cons_zero, List.set_cons_succ, List.drop_succ_cons, List.drop_zero]
    refine wpQuiet_nil ?_
    rintro w7 hw7
    rw [hw7]
    clear hw7 w7
    go_wp2_with fail
    refine (touch_any x Wd.heap.size t 101 _ _ _ _ _ _ _ _ HX5.out HK5.out hxk ht).mono ?_
    rintro e W12 ⟨rfl, hx12, hk12, hS12⟩
    have hbd : bo < Wd.heap.size := HId.out.lt (.inr (.inl rfl))
    have hgd : W6.heap.size < Wd.heap.size := HXd.out.blk.lt
    have hbg : bo < W6.heap.size := H6.out.lt (.inr (.inl rfl))
    have hxg : x < W6.heap.size := H6.out.lt (.inl rfl)
    have had : w.heap.size + 1 < Wd.heap.size := HAd.out.lt
    have hab : w.heap.size + 1 ≠ bo := fun e => by omega
    have hax : w.heap.size + 1 ≠ x := fun e => by omega
    have hg12 : B.at W12 W6.heap.size := BoxAt.same (BoxAt.same (BoxAt.later HXd.out HB3.out) HS5.out (fun e => by have : W6.heap.size = bo := e; omega)) hS12 (by rintro (e | e) <;> omega)
    have hS : Same (fun k => k = x ∨ k = bo) Wd W12 := ((Same.of_below HB3.out (fun k => k = x ∨ k = bo)).trans HS5.out fun i hi e => .inr e).trans hS12 fun i hi e => by
      rcases e with e | e
      · exact .inl e
      · omega
    have hm12 := HM5.out.same hS12 (by rintro (e | e); exact HId.out.x_ne.1 e.symm; omega)
    have h12 := HId.out.addO (s := (ep, ses)) (kb := Wd.heap.size) (gb := W6.heap.size) (b' := B) HINV.out hm12 hx12 hk12 hg12 hS (fun a ha => Nat.ne_of_lt (HId.out.ko.blk a ha).lt) (fun a ha => Nat.ne_of_lt (H6.out.ko.box a (HSOD.out.subset ha)).blk.lt)
    have hSw : Same (IF x bo bd O C) w W12 := HSWd.out.trans hS fun i hi e => by
      rcases e with e | e
      · exact .inl e
      · exact .inr (.inl e)
    have hf : ∀ b, IF x bo bd (Od ++ [⟨(ep, ses), Wd.heap.size, W6.heap.size, t + 1, B⟩]) C1 b → IF x bo bd O C b ∨ w.heap.size ≤ b := fun b hb => by
      rcases hb with e | e | e | ⟨o, ho, e⟩ | ⟨c, hc, e⟩
      · exact .inl (.inl e)
      · exact .inl (.inr (.inl e))
      · exact .inl (.inr (.inr (.inl e)))
      · rcases List.mem_append.1 ho with h | h
        · exact .inl (.inr (.inr (.inr (.inl ⟨o, HsO.out.subset (HSOD.out.subset h), e⟩))))
        · simp at h
          subst h
          have hz := HSW.out.size
          rcases e with e | e
          · have : b = Wd.heap.size := e
            exact .inr (by omega)
          · have : b = W6.heap.size := e
            exact .inr (by omega)
      · exact .inl (.inr (.inr (.inr (.inr ⟨c, HsC.out.subset hc, e⟩))))
    have ha12 := (((HAd.out.later HB3.out).same HS5.out hab).same hS12 (by rintro (e | e) <;> omega))
    have k12 := hk12.cell_some (i := 0) rfl
    have h12' : IAt W12 x bo bd (t + 1) (Od ++ [⟨(ep, ses), Wd.heap.size, W6.heap.size, t + 1, B⟩]) C1 { (m.rise ep) with O := (m.rise ep).evict ++ [((ep, ses), B)] } := by
      rw [HOD.out]
      exact h12
    have H12 := Lib.hid h12'; have HSW12 := Lib.hid hSw; have HF12 := Lib.hid hf; have HA12 := Lib.hid ha12; have HBX12 := Lib.hid hg12
    clear h12 h12' hSw hf ha12 hg12 hS hx12 hk12 hS12 hm12 hbd hgd hbg hxg had hab hax hxk c3 s0 s1
    have HZ12 : Hid (w.heap.size ≤ W12.heap.size) := Lib.hid HSW12.out.size
    obtain ⟨A, hA⟩ : ∃ A, allNe B.ps B.cnt = A := ⟨_, rfl⟩
    have hwh := whole_any W6.heap.size B W12 HBX12.out HGOOD.out.fine HGOOD.out.n
    rw [hA] at hwh
    have HWH := Lib.hid hwh; have HAA := Lib.hid hA
    clear hwh hA
    cases A with
    | true =>
      go_wp2_with fail
      refine HWH.out.mono ?_
      rintro e W13 ⟨bv, rfl, hbv, hB13⟩
      obtain ⟨ao, cap, rfl, -⟩ := Rd.of_own hbv
      have ha13 := HA12.out.later hB13
      have a0 := ha13.cell_some (i := 0) rfl
      have f0 := ha13.frozen 0
      have a1 := ha13.cell_some (i := 1) rfl
      have f1 := ha13.frozen 1
      have a2 := ha13.cell_some (i := 2) rfl
      have f2 := ha13.frozen 2
      have a3 := ha13.cell_some (i := 3) rfl
      have f3 := ha13.frozen 3
      have HA13 := Lib.hid ha13; have HBV := Lib.hid hbv; have HB13 := Lib.hid hB13
      clear ha13 hbv hB13
      go_wp2_with fail
      refine bodyPost_ret (v := .agg #[.int .i64 4, .int .i64 0, .slice none 0 0, .slice ao (blockOf B).length cap]) (results_cell_row rfl _ _ (w.heap.size + 1) _ _ _ _ rfl ((((HA13.out.set 0 (.int .i64 4)).set 1 (.int .i64 0)).set 2 (.slice none 0 0)).set 3 (.slice ao (blockOf B).length cap)) Tryz.underlying45 rfl (by kernel_rfl)) rfl ?_
      simp only [HBB.out]
      have ean : ansOf B = ⟨4, 0, [], blockOf B⟩ := if_pos HAA.out
      have hT := took_ans (H12.out.later HB13.out) (HSW12.out.trans (Same.of_below HB13.out no) fun i hi e => e.elim) HF12.out HA13.out (by omega) (.int .i64 4) (.int .i64 0) (.slice none 0 0) (.slice ao (blockOf B).length cap)
      refine ⟨_, _, by rw [ean], by rw [ean]; exact World.ownsRow_nil _ _ _ _, ?_, hT⟩
      rw [ean]
      refine own_mono (own_same HBV.out (((((Same.refl (at1 (w.heap.size + 1)) W13).setCell (p := ⟨w.heap.size + 1, 0, none⟩) (fun _ => rfl) _).setCell (p := ⟨w.heap.size + 1, 1, none⟩) (fun _ => rfl) _).setCell (p := ⟨w.heap.size + 1, 2, none⟩) (fun _ => rfl) _).setCell (p := ⟨w.heap.size + 1, 3, none⟩) (fun _ => rfl) _) fun k hk e => ?_) HZ12.out
      exact own_blk_ne HBV.out HA13.out (by decide) (by rw [hk, show k = w.heap.size + 1 from e])
    | false =>
      go_wp2_with fail
      refine HWH.out.mono ?_
      rintro e W13 ⟨bv, rfl, -, hB13⟩
      have k13 := below_cell hB13 k12 (World.block_lt_of_cell? _ _ k12)
      have HB13 := Lib.hid hB13
      have HBX13 := Lib.hid (BoxAt.later HBX12.out hB13)
      clear hB13
      go_wp2_with fail
      refine (got_any W6.heap.size B.cnt B.len B.ps W13 HBX13.out HGOOD.out.fine.hi).mono ?_
      rintro e W14 ⟨gv, rfl, hgv, hB14⟩
      obtain ⟨ao, cap, rfl, -⟩ := Rd.of_own hgv
      have ha14 := (HA12.out.later HB13.out).later hB14
      have a0 := ha14.cell_some (i := 0) rfl
      have f0 := ha14.frozen 0
      have a1 := ha14.cell_some (i := 1) rfl
      have f1 := ha14.frozen 1
      have a2 := ha14.cell_some (i := 2) rfl
      have f2 := ha14.frozen 2
      have a3 := ha14.cell_some (i := 3) rfl
      have f3 := ha14.frozen 3
      have HA14 := Lib.hid ha14; have HGV := Lib.hid hgv; have HB14 := Lib.hid hB14
      clear ha14 hgv hB14
      go_wp2_with fail
      refine bodyPost_ret (v := .agg #[.int .i64 3, .int .i64 0, .slice ao (leastR (gotL B.ps B.cnt)).length cap, .slice none 0 0]) (results_cell_row rfl _ _ (w.heap.size + 1) _ _ _ _ rfl ((((HA14.out.set 0 (.int .i64 3)).set 1 (.int .i64 0)).set 2 (.slice ao (leastR (gotL B.ps B.cnt)).length cap)).set 3 (.slice none 0 0)) Tryz.underlying45 rfl (by kernel_rfl)) rfl ?_
      simp only [HBB.out]
      have ean : ansOf B = ⟨3, 0, leastR (gotL B.ps B.cnt), []⟩ := if_neg (by rw [HAA.out]; decide)
      have hT := took_ans ((H12.out.later HB13.out).later HB14.out) ((HSW12.out.trans (Same.of_below HB13.out no) fun i hi e => e.elim).trans (Same.of_below HB14.out no) fun i hi e => e.elim) HF12.out HA14.out (by omega) (.int .i64 3) (.int .i64 0) (.slice ao (leastR (gotL B.ps B.cnt)).length cap) (.slice none 0 0)
      refine ⟨_, _, by rw [ean], ?_, by rw [ean]; exact World.ownsRow_nil _ _ _ _, hT⟩
      rw [ean]
      refine own_mono (own_same HGV.out (((((Same.refl (at1 (w.heap.size + 1)) W14).setCell (p := ⟨w.heap.size + 1, 0, none⟩) (fun _ => rfl) _).setCell (p := ⟨w.heap.size + 1, 1, none⟩) (fun _ => rfl) _).setCell (p := ⟨w.heap.size + 1, 2, none⟩) (fun _ => rfl) _).setCell (p := ⟨w.heap.size + 1, 3, none⟩) (fun _ => rfl) _) fun k hk e => ?_) (Nat.le_trans HZ12.out HB13.out.size)
      exact own_blk_ne HGV.out HA14.out (by decide) (by rw [hk, show k = w.heap.size + 1 from e])
end
end Go.Proofs.YtfaemjlemaclbaaGreat
