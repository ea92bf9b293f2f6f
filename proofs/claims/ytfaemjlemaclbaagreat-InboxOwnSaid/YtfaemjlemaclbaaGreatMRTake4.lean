/- the reference's segment: a new one that is taken. Printed by wip/gen_rtake.py. -/
import Derived.Test.YtfaemjlemaclbaaGreatMRTake3
import Derived.Test.YtfaemjlemaclbaaGreatMRefGot
namespace Go.Proofs.YtfaemjlemaclbaaGreat
set_option linter.unusedVariables false
set_option linter.unusedSimpArgs false
open Go.RowKit Go.Maps
section
variable {w : World} {d : Nat} {vo vs : Value} {L : List RO} {m : IM}
set_option maxHeartbeats 2000000 in
set_option maxRecDepth 100000 in
theorem rseg_new_ok (h : RIAt w d vo vs L m) (hk : (m.O.map (·.1)).Nodup) (hll : L.length ≤ 64) (s : Sess) (u : UD) (dp gp : Option Addr) (dc gc : Nat) (hd : Bs w (.slice dp u.data.length dc) u.data) (hdat : goodD u) (hdn : ∀ k, (Value.slice dp u.data.length dc).ownBlock = some k → k < w.heap.size) (ho : lk m.O s = none) (hmo : 1 ≤ m.mo) (he : errOf (newBox u) u = 0) :
    Calls Tryz.prog 47 #[.pointer (some ⟨d, 0, none⟩), .agg #[.int .u64 (s.1.toNat : Int), .int .u64 (s.2.toNat : Int)], uv u (.slice dp u.data.length dc) (.slice gp u.got.length gc)] w fun e w' => ∃ gv bv, e = .returned (.agg #[.int .i64 (ansOf ((newBox u).put u.idx u.data)).st, .int .i64 (ansOf ((newBox u).put u.idx u.data)).code, gv, bv]) ∧ w'.ownsRow w.heap.size 63 2 gv (ansOf ((newBox u).put u.idx u.data)).got.length (rvs (ansOf ((newBox u).put u.idx u.data)).got) ∧ w'.ownsRow w.heap.size 5 1 bv (ansOf ((newBox u).put u.idx u.data)).blk.length ((ansOf ((newBox u).put u.idx u.data)).blk.map ub) ∧ TookR w w' d (RIF d vo vs L) { m with O := m.evict ++ [(s, (newBox u).put u.idx u.data)] } := by
  obtain ⟨s1, s2⟩ := s
  obtain ⟨kind, ep, ses, path, idx, cnt, data, code, got⟩ := u
  obtain ⟨n, hn⟩ := Int.eq_ofNat_of_zero_le (show 0 ≤ cnt by have := hdat.2.1; simp only at this; omega)
  obtain ⟨ix, hix⟩ := Int.eq_ofNat_of_zero_le (show 0 ≤ idx by have := hdat.2.2.2.1; simp only at this; omega)
  subst hn
  subst hix
  have hn1 : 1 ≤ n := by have := hdat.2.1; simp only at this; omega
  have hn2 : n ≤ 64 := by have := hdat.2.2.1; simp only at this; omega
  simp only [uv]
  obtain ⟨W0, hW0⟩ : ∃ W0, W0 = ((w.alloc (.cells #[.int .u64 (s1.toNat : Int), .int .u64 (s2.toNat : Int)] 68)).alloc (.cells #[.int .i64 kind, .int .u64 (ep.toNat : Int), .int .u64 (ses.toNat : Int), .int .i64 path, .int .i64 (ix : Int), .int .i64 (n : Int), .slice dp data.length dc, .int .i64 code, .slice gp got.length gc] 35)).alloc (.cells #[.int .i64 0, .int .i64 0, .slice none 0 0, .slice none 0 0] 47) := ⟨_, rfl⟩
  have hB0 : Below w.heap.size w W0 := hW0 ▸ (((Below.refl _ _).alloc (Nat.le_refl _) _).alloc (by simp) _).alloc (by simp; omega) _
  have hs0 : Blk W0 w.heap.size 68 [.int .u64 (s1.toNat : Int), .int .u64 (s2.toNat : Int)] := hW0 ▸ ((Blk.new w _ _).alloc _).alloc _
  have hu0 : Blk W0 (w.heap.size + 1) 35 [.int .i64 kind, .int .u64 (ep.toNat : Int), .int .u64 (ses.toNat : Int), .int .i64 path, .int .i64 (ix : Int), .int .i64 (n : Int), .slice dp data.length dc, .int .i64 code, .slice gp got.length gc] := by
    have := (Blk.new (w.alloc (.cells #[.int .u64 (s1.toNat : Int), .int .u64 (s2.toNat : Int)] 68)) 35 [.int .i64 kind, .int .u64 (ep.toNat : Int), .int .u64 (ses.toNat : Int), .int .i64 path, .int .i64 (ix : Int), .int .i64 (n : Int), .slice dp data.length dc, .int .i64 code, .slice gp got.length gc]).alloc (.cells #[.int .i64 0, .int .i64 0, .slice none 0 0, .slice none 0 0] 47)
    rw [show (w.alloc (.cells #[.int .u64 (s1.toNat : Int), .int .u64 (s2.toNat : Int)] 68)).heap.size = w.heap.size + 1 by simp] at this
    exact hW0 ▸ this
  have ha0 : Blk W0 (w.heap.size + 2) 47 [.int .i64 0, .int .i64 0, .slice none 0 0, .slice none 0 0] := by
    have := Blk.new ((w.alloc (.cells #[.int .u64 (s1.toNat : Int), .int .u64 (s2.toNat : Int)] 68)).alloc (.cells #[.int .i64 kind, .int .u64 (ep.toNat : Int), .int .u64 (ses.toNat : Int), .int .i64 path, .int .i64 (ix : Int), .int .i64 (n : Int), .slice dp data.length dc, .int .i64 code, .slice gp got.length gc] 35)) 47 [.int .i64 0, .int .i64 0, .slice none 0 0, .slice none 0 0]
    rw [show ((w.alloc (.cells #[.int .u64 (s1.toNat : Int), .int .u64 (s2.toNat : Int)] 68)).alloc (.cells #[.int .i64 kind, .int .u64 (ep.toNat : Int), .int .u64 (ses.toNat : Int), .int .i64 path, .int .i64 (ix : Int), .int .i64 (n : Int), .slice dp data.length dc, .int .i64 code, .slice gp got.length gc] 35)).heap.size = w.heap.size + 2 by simp] at this
    exact hW0 ▸ this
  have h0 := h.later hB0
  have hd0 : Bs W0 (.slice dp data.length dc) data := Rd.later hd hB0
  have HDN : Hid (∀ k, (Value.slice dp data.length dc).ownBlock = some k → k < w.heap.size) := Lib.hid hdn
  clear hdn
  have hop := ropen_no h0 (s1, s2) ho (by omega)
  simp only at hop
  have HOP := Lib.hid hop; have HNO := Lib.hid ho
  clear hop ho
  have s0 := hs0.cell_some (i := 0) rfl
  have s1' := hs0.cell_some (i := 1) rfl
  have HB0 := Lib.hid hB0; have HS0 := Lib.hid hs0; have HU0 := Lib.hid hu0; have HA0 := Lib.hid ha0; have H0 := Lib.hid h0; have HD0 := Lib.hid hd0; have HW := Lib.hid h; have HK := Lib.hid hk
  clear h hk hd hdat hB0 hs0 hu0 ha0 h0 hd0
  go_enter Tryz.func47, Tryz.ntmps47
  go_wp2_with fail
  rw [← hW0]
  clear hW0
  refine HOP.out.mono ?_
  rintro e W1 ⟨rfl, hB1⟩
  have hs1 := HS0.out.later hB1
  have hu1 := HU0.out.later hB1
  have ha1 := HA0.out.later hB1
  have h1 := H0.out.later hB1
  have hd1 := HD0.out.later hB1
  obtain ⟨W2, hW2⟩ : ∃ W2, W2 = W1.alloc (.cells #[.int .u64 (s1.toNat : Int), .int .u64 (s2.toNat : Int), .pointer none] 80) := ⟨_, rfl⟩
  have hB2 : Below W1.heap.size W1 W2 := hW2 ▸ (Below.refl _ _).alloc (Nat.le_refl _) _
  have hO2 : Blk W2 W1.heap.size 80 [.int .u64 (s1.toNat : Int), .int .u64 (s2.toNat : Int), .pointer none] := hW2 ▸ Blk.new W1 _ _
  have s0 := hs1.cell_some (i := 0) rfl
  have s1' := hs1.cell_some (i := 1) rfl
  have hz0 := HA0.out.lt
  have hub : w.heap.size + 1 < W1.heap.size := hu1.lt
  have u5 := hu1.cell_some (i := 5) rfl
  have HB1 := Lib.hid hB1; have HS1 := Lib.hid hs1; have HB2 := Lib.hid hB2; have HO2 := Lib.hid hO2
  have HU2 := Lib.hid (hu1.later hB2); have HA2 := Lib.hid (ha1.later hB2); have H2 := Lib.hid (h1.later hB2); have HD2 := Lib.hid (hd1.later hB2)
  clear hs1 hu1 ha1 h1 hd1 hB1 hB2 hO2
  go_wp2_with fail
  rw [← hW2]
  clear hW2 s0 s1' u5
  refine (rb_new n _ hn1 hn2).mono ?_
  rintro e Wn ⟨r, F, rfl, hRBn, hFn, hBn⟩
  have hOn := HO2.out.later hBn
  have o2 := hOn.cell_some (i := 2) rfl
  have fo2 := hOn.frozen 2
  obtain ⟨W3, hW3⟩ : ∃ W3, W3 = Wn.setCell ⟨W1.heap.size, 2, none⟩ (.pointer (some ⟨r, 0, none⟩)) := ⟨_, rfl⟩
  have hS3 : Same (at1 W1.heap.size) Wn W3 := hW3 ▸ (Same.refl (at1 W1.heap.size) Wn).setCell (p := ⟨W1.heap.size, 2, none⟩) (fun _ => rfl) _
  have hO3 : Blk W3 W1.heap.size 80 [.int .u64 (s1.toNat : Int), .int .u64 (s2.toNat : Int), .pointer (some ⟨r, 0, none⟩)] := hW3 ▸ hOn.set 2 (.pointer (some ⟨r, 0, none⟩))
  have hW1 : w.heap.size + 2 < W1.heap.size := Nat.lt_of_lt_of_le hz0 HB1.out.size
  have hob2 : W1.heap.size < W2.heap.size := HO2.out.lt
  have hrb : RB W3 r F (⟨n, 0, List.replicate 64 []⟩ : BoxS) := hRBn.same hS3 fun k hk e => by
    have h1 := hFn k hk
    have : k = W1.heap.size := e
    omega
  have hu3 := (HU2.out.later hBn).same hS3 fun e => by
    have : w.heap.size + 1 = W1.heap.size := e
    omega
  have ha3 := (HA2.out.later hBn).same hS3 fun e => by
    have : w.heap.size + 2 = W1.heap.size := e
    omega
  have h3 := (H2.out.later hBn).same hS3 fun k hk e => by
    have h1 := HW.out.lt hk
    have : k = W1.heap.size := e
    omega
  have hd3 : Bs W3 (.slice dp data.length dc) data := Rd.same (Rd.later HD2.out hBn) hS3 fun k e hk => by
    have : k = W1.heap.size := hk
    have h2 := HDN.out k e
    omega
  have ht3 : Turn (RIF d vo vs L) (fun k => RIF d vo vs L k ∨ F k) w W3 := ⟨(Same.of_below (below_trans HB0.out (below_trans HB1.out (below_trans HB2.out hBn))) (RIF d vo vs L)).trans hS3 (fun i hi e => by
    have : i = W1.heap.size := e
    omega), fun k hk => by
    rcases hk with hk | hk
    · exact .inl hk
    · have h1 := hFn k hk
      exact .inr (by omega)⟩
  have hfd : ∀ a ∈ L, ∀ k, a.F k → ¬ F k := fun a ha k hk hk' => by
    have h1 := HW.out.lt (.inr (.inr (.inr ⟨a, ha, hk⟩)))
    have h2 := hFn k hk'
    omega
  have HO3 := Lib.hid hO3; have HRB := Lib.hid hrb; have HU3 := Lib.hid hu3; have HA3 := Lib.hid ha3; have H3 := Lib.hid h3; have HD3 := Lib.hid hd3; have HT3 := Lib.hid ht3; have HFD := Lib.hid hfd
  clear hO3 hrb hu3 ha3 h3 hd3 ht3 hfd hS3 hRBn hFn hBn hOn
  go_wp2_with fail
  rw [← hW3]
  clear hW3 o2 fo2
  have k2 := HO3.out.cell_some (i := 2) rfl
  have u4 := HU3.out.cell_some (i := 4) rfl
  have u5 := HU3.out.cell_some (i := 5) rfl
  have u6 := HU3.out.cell_some (i := 6) rfl
  have hob : W1.heap.size < W3.heap.size := HO3.out.lt
  have HCNT : Hid (∀ W, Below W3.heap.size W3 W → Calls Tryz.prog 63 #[.pointer (some ⟨r, 0, none⟩)] W fun e w' => e = .returned (.int .i64 (n : Int)) ∧ W = w') := Lib.hid fun W hB => by
    have := rb_count (HRB.out.later hB)
    rwa [show ((⟨n, 0, List.replicate 64 []⟩ : BoxS)).cnt = n from rfl] at this
  refine region_class (C := fun w' => w'.cell? ⟨W1.heap.size, 2, none⟩ = some (.pointer (some ⟨r, 0, none⟩)) ∧ w'.cell? ⟨w.heap.size + 1, 5, none⟩ = some (.int .i64 (n : Int)) ∧ Hid (Below W3.heap.size W3 w')) (by kernel_rfl) (by kernel_rfl) ⟨k2, u5, Lib.hid (Below.refl _ _).drew⟩ ?_
  repeat
    (first
     | go_big_quiet_skip
     | (go_big_quiet_want
        rename_i K hK
        apply Exists.intro
        refine ⟨fun w' hw' => ?_, hK _ ?_⟩
        · obtain ⟨k2, u5, hB⟩ := hw'
          go_simp
          first
          | (go_at_call 63
             refine (HCNT.out w' hB.out).mono ?_
             rintro e w9 ⟨rfl, rfl⟩
             exact ⟨rfl, k2, u5, hB⟩)
          | with_reducible rfl
        clear hK K
        simp only [Act.put, List.setIfInBounds_toArray, List.set_cons_zero, List.set_cons_succ]))
  refine wpQuiet_nil ?_
  rintro w5 ⟨k2, u5, hB⟩
  have u4' := below_cell hB.out u4 (World.block_lt_of_cell? _ _ u4)
  have u6' := below_cell hB.out u6 (World.block_lt_of_cell? _ _ u6)
  have hput := rb_put (HRB.out.later hB.out) (ix : Int) (.slice dp data.length dc) data (HD3.out.later hB.out)
  obtain ⟨E, hE⟩ : ∃ E, putErr (⟨n, 0, List.replicate 64 []⟩ : BoxS).cnt (⟨n, 0, List.replicate 64 []⟩ : BoxS).len (⟨n, 0, List.replicate 64 []⟩ : BoxS).ps (ix : Int) data = E := ⟨_, rfl⟩
  obtain ⟨BX, hBB⟩ : ∃ BX, (⟨n, 0, List.replicate 64 []⟩ : BoxS).put (ix : Int) data = BX := ⟨_, rfl⟩
  rw [hE, hBB] at hput
  have HPUT := Lib.hid hput; have HE := Lib.hid hE; have HBB := Lib.hid hBB; have HB5 := Lib.hid hB.out
  clear hput hE hBB hB u4 u6
  go_wp2_with fail
  refine HPUT.out.mono ?_
  rintro e W9 ⟨rfl, F', hRB9, hT9⟩
  have h9 := (H3.out.later HB5.out).same hT9.same fun k hk e => by
    rcases hk with hk | hk | hk | ⟨a, ha, hk⟩
    · exact HRB.out.ne e H3.out.blk (by decide) (by decide) (by decide) hk
    · obtain ⟨cs, hc⟩ := own_at H3.out.ro hk
      exact HRB.out.ne e hc (by decide) (by decide) (by decide) rfl
    · obtain ⟨cs, hc⟩ := own_at H3.out.rs hk
      exact HRB.out.ne e hc (by decide) (by decide) (by decide) rfl
    · exact HFD.out a ha k hk e
  have ha9 := (HA3.out.later HB5.out).same hT9.same fun e => (HRB.out.ne e HA3.out (by decide) (by decide) (by decide)) rfl
  have hO9 := (HO3.out.later HB5.out).same hT9.same fun e => (HRB.out.ne e HO3.out (by decide) (by decide) (by decide)) rfl
  have t9 : Turn (fun k => RIF d vo vs L k ∨ F k) (fun k => RIF d vo vs L k ∨ F' k) w5 W9 := ⟨hT9.same.mono fun k _ e => .inr e, fun k hk => by
    rcases hk with hk | hk
    · exact .inl (.inl hk)
    · exact (hT9.foot k hk).imp .inr id⟩
  have t09 := (HT3.out.trans (Turn.of_below HB5.out _)).trans t9
  have HE0 : Hid (E = 0) := Lib.hid (by
    rw [← HE.out]
    exact he)
  rw [HE0.out]
  have hBB2 : (newBox ⟨kind, ep, ses, path, (ix : Int), (n : Int), data, code, got⟩).put (ix : Int) data = BX := HBB.out
  have HBO := HBB
  clear HBB
  have HBB := Lib.hid hBB2
  obtain ⟨N, hN⟩ : ∃ N, N = L.length := ⟨_, rfl⟩
  obtain ⟨M, hM⟩ : ∃ M, M = m.mo := ⟨_, rfl⟩
  have hro := h9.ro
  rw [← hN] at hro
  obtain ⟨ao, cap, hvo, -⟩ := own_open hro
  have c3 := h9.blk.cell_some (i := 3) rfl
  have c0 := h9.blk.cell_some (i := 0) rfl
  rw [hvo] at c3
  rw [← hM] at c0
  have hob9 : W1.heap.size < W9.heap.size := hO9.lt
  have HO9 := Lib.hid hO9; have HA9 := Lib.hid ha9; have H9 := Lib.hid h9; have HT9 := Lib.hid t09; have HRB9 := Lib.hid hRB9; have HN := Lib.hid hN; have HM := Lib.hid hM; have HVO := Lib.hid hvo
  have hfd : ∀ a ∈ L, ∀ k, a.F k → ¬ F' k := fun a ha k hk hk' => by
    rcases hT9.foot k hk' with e | e
    · exact HFD.out a ha k hk e
    · have h1 := HW.out.lt (.inr (.inr (.inr ⟨a, ha, hk⟩)))
      have h2 := HB5.out.size
      omega
  have HFD' := Lib.hid hfd
  clear ha9 h9 t9 t09 hO9 hRB9 hT9 he k2 hfd hN hM hvo hro hBB2
  go_wp2_with fail
  refine region_class (C := fun w' => w'.cell? ⟨d, 0, none⟩ = some (.int .i64 (M : Int)) ∧ w'.cell? ⟨d, 3, none⟩ = some (.slice ao N cap) ∧ Hid (Below W9.heap.size W9 w')) (by kernel_rfl) (by kernel_rfl) ⟨c0, c3, Lib.hid (Below.refl _ _).drew⟩ ?_
  repeat
    (first
     | go_big_quiet_skip
     | (go_big_quiet_want
        rename_i K hK
        apply Exists.intro
        refine ⟨fun w' hw' => ?_, hK _ ?_⟩
        · obtain ⟨c0, c3, hB⟩ := hw'
          go_simp
          first
          | with_reducible rfl
        clear hK K
        simp only [Act.put, List.setIfInBounds_toArray, List.set_cons_zero, List.set_cons_succ]))
  refine wpQuiet_nil ?_
  rintro w5 ⟨c0, c3, hB⟩
  have HBW := Lib.hid hB.out
  clear hB
  by_cases hMN : M ≤ N
  · have hdd : decide (M ≤ N) = true := by simpa using hMN
    obtain ⟨o0, Lt, hL0⟩ : ∃ o0 Lt, L = o0 :: Lt := by
      cases hL : L with
      | nil =>
        have h1 := HN.out
        have h2 := HM.out
        rw [hL] at h1
        simp at h1
        omega
      | cons a l => exact ⟨a, l, rfl⟩
    have HL0 := Lib.hid hL0; have HMN := Lib.hid hMN
    clear hL0 hMN
    have hout := rout_any (H9.out.later HBW.out) (A := []) (o := o0) (B := Lt) HL0.out (by omega)
    change Calls Tryz.prog _ #[_, .int .i64 0] _ _ at hout
    go_wp2_with fail
    refine hout.mono ?_
    clear hout
    rintro e W10 ⟨rfl, vo1, h10, hS10, hbase⟩
    rw [List.nil_append] at h10
    have hzz : W9.heap.size ≤ w5.heap.size := HBW.out.size
    have hO10 := (HO9.out.later HBW.out).same hS10 fun e => by
      have h1 := HW.out.blk.lt
      have : W1.heap.size = d := e
      omega
    have hA10 := (HA9.out.later HBW.out).same hS10 fun e => by
      have h1 := HW.out.blk.lt
      have : w.heap.size + 2 = d := e
      omega
    have hrb10 : RB W10 r F' BX := (HRB9.out.later HBW.out).same hS10 fun k hk e => HRB9.out.ne hk H9.out.blk (by decide) (by decide) (by decide) e
    have hsub : ∀ a ∈ Lt, a ∈ L := fun a ha => by rw [HL0.out]; exact List.mem_cons_of_mem _ ha
    have hdj : ∀ a ∈ Lt, ∀ k, a.F k → ¬ F' k := fun a ha => HFD'.out a (hsub a ha)
    have ht10 : Turn (RIF d vo vs L) (fun k => RIF d vo1 vs Lt k ∨ F' k) w W10 := (HT9.out.trans (Turn.of_below HBW.out _)).trans ⟨hS10.mono fun k _ e => .inl (.inl e), fun k hk => by
      rcases hk with (e | e | e | ⟨a, ha, e⟩) | e
      · exact .inl (.inl (.inl e))
      · exact .inr (hbase k e)
      · exact .inl (.inl (.inr (.inr (.inl e))))
      · exact .inl (.inl (.inr (.inr (.inr ⟨a, hsub a ha, e⟩))))
      · exact .inl (.inr e)⟩
    have HEV : Hid (m.evict = Lt.map RO.m) := Lib.hid (by
      have h1 := HN.out; have h2 := HM.out; have h3 := HMN.out
      have h4 : m.O.length = L.length := by rw [← HW.out.eo, List.length_map]
      rw [IM.evict, if_pos (by omega), ← HW.out.eo, HL0.out]
      rfl)
    have HOD : Hid ((vo1).ownBlock ≠ some W1.heap.size) := Lib.hid (fun e => by have := hbase _ e; omega)
    have HAD : Hid ((vo1).ownBlock ≠ some (w.heap.size + 2)) := Lib.hid (fun e => by have := hbase _ e; omega)
    have HDO : Hid (W1.heap.size ≠ d) := Lib.hid (by have h1 := HW.out.blk.lt; omega)
    have HDA : Hid (w.heap.size + 2 ≠ d) := Lib.hid (by have h1 := HW.out.blk.lt; omega)
    have H10 := Lib.hid h10; have HO10 := Lib.hid hO10; have HA10 := Lib.hid hA10; have HRB10 : Hid (RB W10 ((⟨(s1, s2), r, F', BX⟩ : RO)).r ((⟨(s1, s2), r, F', BX⟩ : RO)).F ((⟨(s1, s2), r, F', BX⟩ : RO)).box) := Lib.hid hrb10; have HDJ : Hid (∀ a ∈ Lt, ∀ k, a.F k → ¬ ((⟨(s1, s2), r, F', BX⟩ : RO)).F k) := Lib.hid hdj; have HT10 := Lib.hid ht10
    have HLN : Hid (Lt.length ≤ 64) := Lib.hid (by have := HL0.out; rw [this] at hll; simp at hll; omega)
    clear h10 hS10 hbase hO10 hA10 hrb10 hdj ht10 hsub c0 c3 HVO
    have c3 := H10.out.blk.cell_some (i := 3) rfl
    have f3 := H10.out.blk.frozen 3
    have hrl := H10.out.blk.lt
    have hown := H10.out.ro
    have hrn := H10.out.d_ne.1
    obtain ⟨N1, hN1⟩ : ∃ N1, N1 = (Lt).length := ⟨_, rfl⟩
    rw [← hN1] at hown
    have hn164 : N1 ≤ 64 := by rw [hN1]; exact HLN.out
    obtain ⟨ao1, cap1, hvo, -⟩ := own_open hown
    have p0 := HO10.out.cell_some (i := 0) rfl
    have p1 := HO10.out.cell_some (i := 1) rfl
    have p2 := HO10.out.cell_some (i := 2) rfl
    rw [hvo] at c3 hrn
    have hobn := HO10.out.lt
    have hownX : W10.ownsRow 0 80 3 (.slice ao1 N1 cap1) N1 (e3s ((Lt).map RO.e)) := hvo ▸ hown
    have HOX := Lib.hid hownX; have HN1 := Lib.hid hN1; have HVO := Lib.hid hvo
    clear hN1 hvo hown hownX
    go_wp2_with fail
    go_region_law (go_loud (refine step_app El.opn rfl (.tmp 75) (.tmp 77) rfl (by first | exact HOX.out.alloc _ | exact (HOX.out.alloc _).drew) rfl (by first | exact Rd.new _ _ (e3 (((s1, s2) : Sess), .pointer (some ⟨r, 0, none⟩))) 1 (by simp [maxLen]) | exact Rd.drew (Rd.new _ _ (e3 (((s1, s2) : Sess), .pointer (some ⟨r, 0, none⟩))) 1 (by simp [maxLen]))) rfl rfl (by intro x hx; simp [e3] at hx; rcases hx with rfl | rfl | rfl <;> rfl) (by omega) (Nat.zero_le _) ?_); intro v2 w3 hown2 hgr2 hN2; obtain ⟨g2, c2, hv2, _, _⟩ := hown2.form (by omega); subst hv2; have hgr := grown_pre (w := W10) (by first | exact ((Below.refl _ _).alloc (Nat.le_refl _) _).drew | exact ((Below.refl _ _).drew).alloc (Nat.le_refl _) _) hgr2; have hNN := hN2.pre (w := W10) (by simp); have cg := hgr.cell (a := ⟨d, 3, none⟩) c3 (Ne.symm hrn); have fg := (World.frozen?_of_block (a := ⟨d, 3, none⟩) (hgr.block d hrl (Ne.symm hrn))).trans f3; clear hgr2 hN2)
    all_goals
      have hgr' : W10.grownBy w3 (vo1).ownBlock := by rw [HVO.out]; exact hgr
      have hNN' : Newer W10 (vo1) (.slice (some ⟨g2, 0, none⟩) (N1 + 1) c2) := by rw [HVO.out]; exact hNN
      have hown3 : w3.ownsRow 0 80 3 (.slice (some ⟨g2, 0, none⟩) (N1 + 1) c2) ((Lt).length + 1) (e3s ((Lt).map RO.e) ++ e3 (⟨(s1, s2), r, F', BX⟩ : RO).e) := by
        rw [← HN1.out]
        exact hown2
      obtain ⟨h12, t12⟩ := H10.out.addO HRB10.out HDJ.out hown3 hgr' hNN'
      have hO12 := (HO10.out.grown hgr' HOD.out).far (p := ⟨d, 3, none⟩) (fun e => HDO.out e) (.slice (some ⟨g2, 0, none⟩) (N1 + 1) c2)
      have hA12 := (HA10.out.grown hgr' HAD.out).far (p := ⟨d, 3, none⟩) (fun e => HDA.out e) (.slice (some ⟨g2, 0, none⟩) (N1 + 1) c2)
      obtain ⟨W12, hW12⟩ : ∃ W12, W12 = w3.setCell ⟨d, 3, none⟩ (.slice (some ⟨g2, 0, none⟩) (N1 + 1) c2) := ⟨_, rfl⟩
      rw [← hW12] at h12 t12 hO12 hA12 ⊢
      have hrb12 := h12.bx (⟨(s1, s2), r, F', BX⟩ : RO) (List.mem_append_right _ (List.mem_singleton_self _))
      have k12 := hO12.cell_some (i := 2) rfl
      have t012 := HT10.out.trans t12
      simp only at hrb12
      have H12 := Lib.hid h12; have HA12 := Lib.hid hA12; have HRB12 := Lib.hid hrb12; have HT12 := Lib.hid t012
      clear h12 t12 hO12 hA12 hrb12 t012 hgr hgr' hNN hNN' hown2 hown3 cg fg hW12 c3 f3 p0 p1 p2
      have HZ12 : Hid (w.heap.size ≤ W12.heap.size) := Lib.hid HT12.out.same.size
      obtain ⟨Q, hQ⟩ : ∃ Q, allNe BX.ps BX.cnt = Q := ⟨_, rfl⟩
      have hwh := rb_whole HRB12.out
      rw [hQ] at hwh
      have HWH := Lib.hid hwh; have HQ := Lib.hid hQ
      clear hwh hQ
      cases Q with
      | true =>
        go_wp2_with fail
        refine HWH.out.mono ?_
        rintro e W13 ⟨bv, rfl, hbv, hB13⟩
        obtain ⟨ao, cap, rfl, -⟩ := Rd.of_own hbv
        have ha13 := HA12.out.later hB13
        have a0 := ha13.cell_some (i := 0) rfl
        have f0 := ha13.frozen 0
        have a1 := ha13.cell_some (i := 1) rfl
        have f1 := ha13.frozen 1
        have a2 := ha13.cell_some (i := 2) rfl
        have f2 := ha13.frozen 2
        have a3 := ha13.cell_some (i := 3) rfl
        have f3 := ha13.frozen 3
        have HA13 := Lib.hid ha13; have HBV := Lib.hid hbv; have HB13 := Lib.hid hB13
        clear ha13 hbv hB13
        go_wp2_with fail
        refine bodyPost_ret (v := .agg #[.int .i64 4, .int .i64 0, .slice none 0 0, .slice ao (blockOf BX).length cap]) (results_cell_row rfl _ _ (w.heap.size + 2) _ _ _ _ rfl ((((HA13.out.set 0 (.int .i64 4)).set 1 (.int .i64 0)).set 2 (.slice none 0 0)).set 3 (.slice ao (blockOf BX).length cap)) Tryz.underlying47 rfl (by kernel_rfl)) rfl ?_
        simp only [HBB.out]
        rw [HEV.out]
        have ean : ansOf BX = ⟨4, 0, [], blockOf BX⟩ := if_pos HQ.out
        have hT := (H12.out.later HB13.out).took (HT12.out.trans (Turn.of_below HB13.out _)) HA13.out (by omega) (.int .i64 4) (.int .i64 0) (.slice none 0 0) (.slice ao (blockOf BX).length cap)
        refine ⟨_, _, by rw [ean], by rw [ean]; exact World.ownsRow_nil _ _ _ _, ?_, hT⟩
        rw [ean]
        refine own_mono (own_same HBV.out (((((Same.refl (at1 (w.heap.size + 2)) W13).setCell (p := ⟨w.heap.size + 2, 0, none⟩) (fun _ => rfl) _).setCell (p := ⟨w.heap.size + 2, 1, none⟩) (fun _ => rfl) _).setCell (p := ⟨w.heap.size + 2, 2, none⟩) (fun _ => rfl) _).setCell (p := ⟨w.heap.size + 2, 3, none⟩) (fun _ => rfl) _) fun k hk e => ?_) HZ12.out
        exact own_blk_ne HBV.out HA13.out (by decide) (by rw [hk, show k = w.heap.size + 2 from e])
      | false =>
        go_wp2_with fail
        refine HWH.out.mono ?_
        rintro e W13 ⟨bv, rfl, -, hB13⟩
        have k13 := below_cell hB13 k12 (World.block_lt_of_cell? _ _ k12)
        have HB13 := Lib.hid hB13
        have HRB13 := Lib.hid (HRB12.out.later hB13)
        clear hB13
        go_wp2_with fail
        refine (rb_got HRB13.out).mono ?_
        rintro e W14 ⟨gv, rfl, hgv, hB14⟩
        obtain ⟨ao, cap, rfl, -⟩ := Rd.of_own hgv
        have ha14 := (HA12.out.later HB13.out).later hB14
        have a0 := ha14.cell_some (i := 0) rfl
        have f0 := ha14.frozen 0
        have a1 := ha14.cell_some (i := 1) rfl
        have f1 := ha14.frozen 1
        have a2 := ha14.cell_some (i := 2) rfl
        have f2 := ha14.frozen 2
        have a3 := ha14.cell_some (i := 3) rfl
        have f3 := ha14.frozen 3
        have HA14 := Lib.hid ha14; have HGV := Lib.hid hgv; have HB14 := Lib.hid hB14
        clear ha14 hgv hB14
        go_wp2_with fail
        refine bodyPost_ret (v := .agg #[.int .i64 3, .int .i64 0, .slice ao (leastR (gotL BX.ps BX.cnt)).length cap, .slice none 0 0]) (results_cell_row rfl _ _ (w.heap.size + 2) _ _ _ _ rfl ((((HA14.out.set 0 (.int .i64 3)).set 1 (.int .i64 0)).set 2 (.slice ao (leastR (gotL BX.ps BX.cnt)).length cap)).set 3 (.slice none 0 0)) Tryz.underlying47 rfl (by kernel_rfl)) rfl ?_
        simp only [HBB.out]
        rw [HEV.out]
        have ean : ansOf BX = ⟨3, 0, leastR (gotL BX.ps BX.cnt), []⟩ := if_neg (by rw [HQ.out]; decide)
        have hT := ((H12.out.later HB13.out).later HB14.out).took ((HT12.out.trans (Turn.of_below HB13.out _)).trans (Turn.of_below HB14.out _)) HA14.out (by omega) (.int .i64 3) (.int .i64 0) (.slice ao (leastR (gotL BX.ps BX.cnt)).length cap) (.slice none 0 0)
        refine ⟨_, _, by rw [ean], ?_, by rw [ean]; exact World.ownsRow_nil _ _ _ _, hT⟩
        rw [ean]
        refine own_mono (own_same HGV.out (((((Same.refl (at1 (w.heap.size + 2)) W14).setCell (p := ⟨w.heap.size + 2, 0, none⟩) (fun _ => rfl) _).setCell (p := ⟨w.heap.size + 2, 1, none⟩) (fun _ => rfl) _).setCell (p := ⟨w.heap.size + 2, 2, none⟩) (fun _ => rfl) _).setCell (p := ⟨w.heap.size + 2, 3, none⟩) (fun _ => rfl) _) fun k hk e => ?_) (Nat.le_trans HZ12.out HB13.out.size)
        exact own_blk_ne HGV.out HA14.out (by decide) (by rw [hk, show k = w.heap.size + 2 from e])
  · have hdd : decide (M ≤ N) = false := by simpa using hMN
    have HMN := Lib.hid hMN
    clear hMN
    obtain ⟨W10, hW10⟩ : ∃ W10, W10 = w5 := ⟨_, rfl⟩
    subst hW10
    have hzz : W9.heap.size ≤ W10.heap.size := HBW.out.size
    have ht10 := HT9.out.trans (Turn.of_below HBW.out _)
    have HEV : Hid (m.evict = m.O) := Lib.hid (by
      have h1 := HN.out; have h2 := HM.out; have h3 := HMN.out
      have h4 : m.O.length = L.length := by rw [← HW.out.eo, List.length_map]
      rw [IM.evict, if_neg (by omega)])
    have HOD : Hid ((vo).ownBlock ≠ some W1.heap.size) := Lib.hid (fun e => by have := HW.out.lt (.inr (.inl e)); omega)
    have HAD : Hid ((vo).ownBlock ≠ some (w.heap.size + 2)) := Lib.hid (fun e => by have := HW.out.lt (.inr (.inl e)); omega)
    have HDO : Hid (W1.heap.size ≠ d) := Lib.hid (by have h1 := HW.out.blk.lt; omega)
    have HDA : Hid (w.heap.size + 2 ≠ d) := Lib.hid (by have h1 := HW.out.blk.lt; omega)
    have H10 := Lib.hid (H9.out.later HBW.out); have HO10 := Lib.hid (HO9.out.later HBW.out); have HA10 := Lib.hid (HA9.out.later HBW.out); have HRB10 : Hid (RB W10 ((⟨(s1, s2), r, F', BX⟩ : RO)).r ((⟨(s1, s2), r, F', BX⟩ : RO)).F ((⟨(s1, s2), r, F', BX⟩ : RO)).box) := Lib.hid (HRB9.out.later HBW.out); have HDJ : Hid (∀ a ∈ L, ∀ k, a.F k → ¬ ((⟨(s1, s2), r, F', BX⟩ : RO)).F k) := Lib.hid HFD'.out; have HT10 := Lib.hid ht10
    have HLN : Hid (L.length ≤ 64) := Lib.hid hll
    clear ht10 c0 c3 HVO
    have c3 := H10.out.blk.cell_some (i := 3) rfl
    have f3 := H10.out.blk.frozen 3
    have hrl := H10.out.blk.lt
    have hown := H10.out.ro
    have hrn := H10.out.d_ne.1
    obtain ⟨N1, hN1⟩ : ∃ N1, N1 = (L).length := ⟨_, rfl⟩
    rw [← hN1] at hown
    have hn164 : N1 ≤ 64 := by rw [hN1]; exact HLN.out
    obtain ⟨ao1, cap1, hvo, -⟩ := own_open hown
    have p0 := HO10.out.cell_some (i := 0) rfl
    have p1 := HO10.out.cell_some (i := 1) rfl
    have p2 := HO10.out.cell_some (i := 2) rfl
    rw [hvo] at c3 hrn
    have hobn := HO10.out.lt
    have hownX : W10.ownsRow 0 80 3 (.slice ao1 N1 cap1) N1 (e3s ((L).map RO.e)) := hvo ▸ hown
    have HOX := Lib.hid hownX; have HN1 := Lib.hid hN1; have HVO := Lib.hid hvo
    clear hN1 hvo hown hownX
    go_wp2_with fail
    go_region_law (go_loud (refine step_app El.opn rfl (.tmp 75) (.tmp 77) rfl (by first | exact HOX.out.alloc _ | exact (HOX.out.alloc _).drew) rfl (by first | exact Rd.new _ _ (e3 (((s1, s2) : Sess), .pointer (some ⟨r, 0, none⟩))) 1 (by simp [maxLen]) | exact Rd.drew (Rd.new _ _ (e3 (((s1, s2) : Sess), .pointer (some ⟨r, 0, none⟩))) 1 (by simp [maxLen]))) rfl rfl (by intro x hx; simp [e3] at hx; rcases hx with rfl | rfl | rfl <;> rfl) (by omega) (Nat.zero_le _) ?_); intro v2 w3 hown2 hgr2 hN2; obtain ⟨g2, c2, hv2, _, _⟩ := hown2.form (by omega); subst hv2; have hgr := grown_pre (w := W10) (by first | exact ((Below.refl _ _).alloc (Nat.le_refl _) _).drew | exact ((Below.refl _ _).drew).alloc (Nat.le_refl _) _) hgr2; have hNN := hN2.pre (w := W10) (by simp); have cg := hgr.cell (a := ⟨d, 3, none⟩) c3 (Ne.symm hrn); have fg := (World.frozen?_of_block (a := ⟨d, 3, none⟩) (hgr.block d hrl (Ne.symm hrn))).trans f3; clear hgr2 hN2)
    all_goals
      have hgr' : W10.grownBy w3 (vo).ownBlock := by rw [HVO.out]; exact hgr
      have hNN' : Newer W10 (vo) (.slice (some ⟨g2, 0, none⟩) (N1 + 1) c2) := by rw [HVO.out]; exact hNN
      have hown3 : w3.ownsRow 0 80 3 (.slice (some ⟨g2, 0, none⟩) (N1 + 1) c2) ((L).length + 1) (e3s ((L).map RO.e) ++ e3 (⟨(s1, s2), r, F', BX⟩ : RO).e) := by
        rw [← HN1.out]
        exact hown2
      obtain ⟨h12, t12⟩ := H10.out.addO HRB10.out HDJ.out hown3 hgr' hNN'
      have hO12 := (HO10.out.grown hgr' HOD.out).far (p := ⟨d, 3, none⟩) (fun e => HDO.out e) (.slice (some ⟨g2, 0, none⟩) (N1 + 1) c2)
      have hA12 := (HA10.out.grown hgr' HAD.out).far (p := ⟨d, 3, none⟩) (fun e => HDA.out e) (.slice (some ⟨g2, 0, none⟩) (N1 + 1) c2)
      obtain ⟨W12, hW12⟩ : ∃ W12, W12 = w3.setCell ⟨d, 3, none⟩ (.slice (some ⟨g2, 0, none⟩) (N1 + 1) c2) := ⟨_, rfl⟩
      rw [← hW12] at h12 t12 hO12 hA12 ⊢
      have hrb12 := h12.bx (⟨(s1, s2), r, F', BX⟩ : RO) (List.mem_append_right _ (List.mem_singleton_self _))
      have k12 := hO12.cell_some (i := 2) rfl
      have t012 := HT10.out.trans t12
      simp only at hrb12
      have H12 := Lib.hid h12; have HA12 := Lib.hid hA12; have HRB12 := Lib.hid hrb12; have HT12 := Lib.hid t012
      clear h12 t12 hO12 hA12 hrb12 t012 hgr hgr' hNN hNN' hown2 hown3 cg fg hW12 c3 f3 p0 p1 p2
      have HZ12 : Hid (w.heap.size ≤ W12.heap.size) := Lib.hid HT12.out.same.size
      obtain ⟨Q, hQ⟩ : ∃ Q, allNe BX.ps BX.cnt = Q := ⟨_, rfl⟩
      have hwh := rb_whole HRB12.out
      rw [hQ] at hwh
      have HWH := Lib.hid hwh; have HQ := Lib.hid hQ
      clear hwh hQ
      cases Q with
      | true =>
        go_wp2_with fail
        refine HWH.out.mono ?_
        rintro e W13 ⟨bv, rfl, hbv, hB13⟩
        obtain ⟨ao, cap, rfl, -⟩ := Rd.of_own hbv
        have ha13 := HA12.out.later hB13
        have a0 := ha13.cell_some (i := 0) rfl
        have f0 := ha13.frozen 0
        have a1 := ha13.cell_some (i := 1) rfl
        have f1 := ha13.frozen 1
        have a2 := ha13.cell_some (i := 2) rfl
        have f2 := ha13.frozen 2
        have a3 := ha13.cell_some (i := 3) rfl
        have f3 := ha13.frozen 3
        have HA13 := Lib.hid ha13; have HBV := Lib.hid hbv; have HB13 := Lib.hid hB13
        clear ha13 hbv hB13
        go_wp2_with fail
        refine bodyPost_ret (v := .agg #[.int .i64 4, .int .i64 0, .slice none 0 0, .slice ao (blockOf BX).length cap]) (results_cell_row rfl _ _ (w.heap.size + 2) _ _ _ _ rfl ((((HA13.out.set 0 (.int .i64 4)).set 1 (.int .i64 0)).set 2 (.slice none 0 0)).set 3 (.slice ao (blockOf BX).length cap)) Tryz.underlying47 rfl (by kernel_rfl)) rfl ?_
        simp only [HBB.out]
        rw [HEV.out]
        have ean : ansOf BX = ⟨4, 0, [], blockOf BX⟩ := if_pos HQ.out
        have hT := (H12.out.later HB13.out).took (HT12.out.trans (Turn.of_below HB13.out _)) HA13.out (by omega) (.int .i64 4) (.int .i64 0) (.slice none 0 0) (.slice ao (blockOf BX).length cap)
        refine ⟨_, _, by rw [ean], by rw [ean]; exact World.ownsRow_nil _ _ _ _, ?_, hT⟩
        rw [ean]
        refine own_mono (own_same HBV.out (((((Same.refl (at1 (w.heap.size + 2)) W13).setCell (p := ⟨w.heap.size + 2, 0, none⟩) (fun _ => rfl) _).setCell (p := ⟨w.heap.size + 2, 1, none⟩) (fun _ => rfl) _).setCell (p := ⟨w.heap.size + 2, 2, none⟩) (fun _ => rfl) _).setCell (p := ⟨w.heap.size + 2, 3, none⟩) (fun _ => rfl) _) fun k hk e => ?_) HZ12.out
        exact own_blk_ne HBV.out HA13.out (by decide) (by rw [hk, show k = w.heap.size + 2 from e])
      | false =>
        go_wp2_with fail
        refine HWH.out.mono ?_
        rintro e W13 ⟨bv, rfl, -, hB13⟩
        have k13 := below_cell hB13 k12 (World.block_lt_of_cell? _ _ k12)
        have HB13 := Lib.hid hB13
        have HRB13 := Lib.hid (HRB12.out.later hB13)
        clear hB13
        go_wp2_with fail
        refine (rb_got HRB13.out).mono ?_
        rintro e W14 ⟨gv, rfl, hgv, hB14⟩
        obtain ⟨ao, cap, rfl, -⟩ := Rd.of_own hgv
        have ha14 := (HA12.out.later HB13.out).later hB14
        have a0 := ha14.cell_some (i := 0) rfl
        have f0 := ha14.frozen 0
        have a1 := ha14.cell_some (i := 1) rfl
        have f1 := ha14.frozen 1
        have a2 := ha14.cell_some (i := 2) rfl
        have f2 := ha14.frozen 2
        have a3 := ha14.cell_some (i := 3) rfl
        have f3 := ha14.frozen 3
        have HA14 := Lib.hid ha14; have HGV := Lib.hid hgv; have HB14 := Lib.hid hB14
        clear ha14 hgv hB14
        go_wp2_with fail
        refine bodyPost_ret (v := .agg #[.int .i64 3, .int .i64 0, .slice ao (leastR (gotL BX.ps BX.cnt)).length cap, .slice none 0 0]) (results_cell_row rfl _ _ (w.heap.size + 2) _ _ _ _ rfl ((((HA14.out.set 0 (.int .i64 3)).set 1 (.int .i64 0)).set 2 (.slice ao (leastR (gotL BX.ps BX.cnt)).length cap)).set 3 (.slice none 0 0)) Tryz.underlying47 rfl (by kernel_rfl)) rfl ?_
        simp only [HBB.out]
        rw [HEV.out]
        have ean : ansOf BX = ⟨3, 0, leastR (gotL BX.ps BX.cnt), []⟩ := if_neg (by rw [HQ.out]; decide)
        have hT := ((H12.out.later HB13.out).later HB14.out).took ((HT12.out.trans (Turn.of_below HB13.out _)).trans (Turn.of_below HB14.out _)) HA14.out (by omega) (.int .i64 3) (.int .i64 0) (.slice ao (leastR (gotL BX.ps BX.cnt)).length cap) (.slice none 0 0)
        refine ⟨_, _, by rw [ean], ?_, by rw [ean]; exact World.ownsRow_nil _ _ _ _, hT⟩
        rw [ean]
        refine own_mono (own_same HGV.out (((((Same.refl (at1 (w.heap.size + 2)) W14).setCell (p := ⟨w.heap.size + 2, 0, none⟩) (fun _ => rfl) _).setCell (p := ⟨w.heap.size + 2, 1, none⟩) (fun _ => rfl) _).setCell (p := ⟨w.heap.size + 2, 2, none⟩) (fun _ => rfl) _).setCell (p := ⟨w.heap.size + 2, 3, none⟩) (fun _ => rfl) _) fun k hk e => ?_) (Nat.le_trans HZ12.out HB13.out.size)
        exact own_blk_ne HGV.out HA14.out (by decide) (by rw [hk, show k = w.heap.size + 2 from e])
end
end Go.Proofs.YtfaemjlemaclbaaGreat
