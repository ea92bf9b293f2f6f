/- the reference's segment: an old one that does not fit. Printed by wip/gen_rtake.py. -/
import Derived.Test.YtfaemjlemaclbaaGreatMRI3
import Derived.Test.YtfaemjlemaclbaaGreatMRefGot
namespace Go.Proofs.YtfaemjlemaclbaaGreat
set_option linter.unusedVariables false
set_option linter.unusedSimpArgs false
open Go.RowKit Go.Maps
section
variable {w : World} {d : Nat} {vo vs : Value} {L : List RO} {m : IM}
set_option maxHeartbeats 2000000 in
set_option maxRecDepth 100000 in
theorem rseg_old_count (h : RIAt w d vo vs L m) (hk : (m.O.map (·.1)).Nodup) (hll : L.length ≤ 64) (s : Sess) (u : UD) (dp gp : Option Addr) (dc gc : Nat) (hd : Bs w (.slice dp u.data.length dc) u.data) (hdat : goodD u) {b : BoxS} (ho : lk m.O s = some b) (hcnt : (b.cnt : Int) ≠ u.cnt) :
    Calls Tryz.prog 47 #[.pointer (some ⟨d, 0, none⟩), .agg #[.int .u64 (s.1.toNat : Int), .int .u64 (s.2.toNat : Int)], uv u (.slice dp u.data.length dc) (.slice gp u.got.length gc)] w fun e w' => e = .returned (.agg #[.int .i64 2, .int .i64 0, .slice none 0 0, .slice none 0 0]) ∧ TookR w w' d (RIF d vo vs L) m := by
  obtain ⟨s1, s2⟩ := s
  obtain ⟨kind, ep, ses, path, idx, cnt, data, code, got⟩ := u
  obtain ⟨n, hn⟩ := Int.eq_ofNat_of_zero_le (show 0 ≤ cnt by have := hdat.2.1; simp only at this; omega)
  obtain ⟨ix, hix⟩ := Int.eq_ofNat_of_zero_le (show 0 ≤ idx by have := hdat.2.2.2.1; simp only at this; omega)
  subst hn
  subst hix
  have hn1 : 1 ≤ n := by have := hdat.2.1; simp only at this; omega
  have hn2 : n ≤ 64 := by have := hdat.2.2.1; simp only at this; omega
  simp only [uv]
  obtain ⟨W0, hW0⟩ : ∃ W0, W0 = ((w.alloc (.cells #[.int .u64 (s1.toNat : Int), .int .u64 (s2.toNat : Int)] 68)).alloc (.cells #[.int .i64 kind, .int .u64 (ep.toNat : Int), .int .u64 (ses.toNat : Int), .int .i64 path, .int .i64 (ix : Int), .int .i64 (n : Int), .slice dp data.length dc, .int .i64 code, .slice gp got.length gc] 35)).alloc (.cells #[.int .i64 0, .int .i64 0, .slice none 0 0, .slice none 0 0] 47) := ⟨_, rfl⟩
  have hB0 : Below w.heap.size w W0 := hW0 ▸ (((Below.refl _ _).alloc (Nat.le_refl _) _).alloc (by simp) _).alloc (by simp; omega) _
  have hs0 : Blk W0 w.heap.size 68 [.int .u64 (s1.toNat : Int), .int .u64 (s2.toNat : Int)] := hW0 ▸ ((Blk.new w _ _).alloc _).alloc _
  have hu0 : Blk W0 (w.heap.size + 1) 35 [.int .i64 kind, .int .u64 (ep.toNat : Int), .int .u64 (ses.toNat : Int), .int .i64 path, .int .i64 (ix : Int), .int .i64 (n : Int), .slice dp data.length dc, .int .i64 code, .slice gp got.length gc] := by
    have := (Blk.new (w.alloc (.cells #[.int .u64 (s1.toNat : Int), .int .u64 (s2.toNat : Int)] 68)) 35 [.int .i64 kind, .int .u64 (ep.toNat : Int), .int .u64 (ses.toNat : Int), .int .i64 path, .int .i64 (ix : Int), .int .i64 (n : Int), .slice dp data.length dc, .int .i64 code, .slice gp got.length gc]).alloc (.cells #[.int .i64 0, .int .i64 0, .slice none 0 0, .slice none 0 0] 47)
    rw [show (w.alloc (.cells #[.int .u64 (s1.toNat : Int), .int .u64 (s2.toNat : Int)] 68)).heap.size = w.heap.size + 1 by simp] at this
    exact hW0 ▸ this
  have ha0 : Blk W0 (w.heap.size + 2) 47 [.int .i64 0, .int .i64 0, .slice none 0 0, .slice none 0 0] := by
    have := Blk.new ((w.alloc (.cells #[.int .u64 (s1.toNat : Int), .int .u64 (s2.toNat : Int)] 68)).alloc (.cells #[.int .i64 kind, .int .u64 (ep.toNat : Int), .int .u64 (ses.toNat : Int), .int .i64 path, .int .i64 (ix : Int), .int .i64 (n : Int), .slice dp data.length dc, .int .i64 code, .slice gp got.length gc] 35)) 47 [.int .i64 0, .int .i64 0, .slice none 0 0, .slice none 0 0]
    rw [show ((w.alloc (.cells #[.int .u64 (s1.toNat : Int), .int .u64 (s2.toNat : Int)] 68)).alloc (.cells #[.int .i64 kind, .int .u64 (ep.toNat : Int), .int .u64 (ses.toNat : Int), .int .i64 path, .int .i64 (ix : Int), .int .i64 (n : Int), .slice dp data.length dc, .int .i64 code, .slice gp got.length gc] 35)).heap.size = w.heap.size + 2 by simp] at this
    exact hW0 ▸ this
  have h0 := h.later hB0
  have hd0 : Bs W0 (.slice dp data.length dc) data := Rd.later hd hB0
  obtain ⟨LA, o, LB, hL, hos, hob, hA, hwo⟩ := h.findO hk ho
  subst hL
  obtain ⟨os, r, F, B1⟩ := o
  simp only at hos hob
  subst hos
  subst hob
  have hop := ropen_yes h0 rfl hA (by omega)
  simp only at hop
  have HOP := Lib.hid hop; have HWO := Lib.hid hwo
  clear hop hwo hA ho
  have s0 := hs0.cell_some (i := 0) rfl
  have s1' := hs0.cell_some (i := 1) rfl
  have HB0 := Lib.hid hB0; have HS0 := Lib.hid hs0; have HU0 := Lib.hid hu0; have HA0 := Lib.hid ha0; have H0 := Lib.hid h0; have HD0 := Lib.hid hd0; have HW := Lib.hid h; have HK := Lib.hid hk
  clear h hk hd hdat hB0 hs0 hu0 ha0 h0 hd0
  go_enter Tryz.func47, Tryz.ntmps47
  go_wp2_with fail
  rw [← hW0]
  clear hW0
  refine HOP.out.mono ?_
  rintro e W1 ⟨rfl, hB1⟩
  have hs1 := HS0.out.later hB1
  have hu1 := HU0.out.later hB1
  have ha1 := HA0.out.later hB1
  have h1 := H0.out.later hB1
  have hd1 := HD0.out.later hB1
  obtain ⟨W3, hW3⟩ : ∃ W3, W3 = W1.alloc (.cells #[.int .u64 (s1.toNat : Int), .int .u64 (s2.toNat : Int), .pointer (some ⟨r, 0, none⟩)] 80) := ⟨_, rfl⟩
  have hB3 : Below W1.heap.size W1 W3 := hW3 ▸ (Below.refl _ _).alloc (Nat.le_refl _) _
  have hO3 : Blk W3 W1.heap.size 80 [.int .u64 (s1.toNat : Int), .int .u64 (s2.toNat : Int), .pointer (some ⟨r, 0, none⟩)] := hW3 ▸ Blk.new W1 _ _
  obtain ⟨N, hN⟩ : ∃ N, N = (LA ++ (⟨(s1, s2), r, F, B1⟩ : RO) :: LB).length := ⟨_, rfl⟩
  have hro := h1.ro
  obtain ⟨ao, cap, rfl, hnc, hcm, hao⟩ := own_open hro
  have c3 := h1.blk.cell_some (i := 3) rfl
  rw [← hN] at c3 hro hnc hao hll
  have hlt : LA.length < N := by rw [hN]; simp
  obtain ⟨b, rfl⟩ := hao (by omega)
  have hat : ((LA ++ (⟨(s1, s2), r, F, B1⟩ : RO) :: LB).map RO.e)[LA.length]? = some ((s1, s2), .pointer (some ⟨r, 0, none⟩)) := by
    rw [List.getElem?_map, List.getElem?_append_right (Nat.le_refl _), Nat.sub_self]
    rfl
  have q0 := hro.cells (g := b) rfl (LA.length * 3) _ (by have := e3s_at _ hat 0 (by omega); rw [Nat.add_zero] at this; rw [this]; rfl)
  have q1 := hro.cells (g := b) rfl (LA.length * 3 + 1) _ (by rw [e3s_at _ hat 1 (by omega)]; rfl)
  have q2 := hro.cells (g := b) rfl (LA.length * 3 + 2) _ (by rw [e3s_at _ hat 2 (by omega)]; rfl)
  rw [Addr.add_lit, Nat.zero_add] at q0 q1 q2
  obtain ⟨k, hk⟩ : ∃ k, k = LA.length := ⟨_, rfl⟩
  rw [← hk] at hlt q0 q1 q2 ⊢
  have ix1 : (k : Int) < (N : Int) := by omega
  have s0 := hs1.cell_some (i := 0) rfl
  have s1' := hs1.cell_some (i := 1) rfl
  simp only [maxLen] at hcm
  have hz0 := HA0.out.lt
  have hdl := h1.blk.lt
  have hbl : b < W1.heap.size := World.block_lt_of_cell? _ _ q0
  have HB1 := Lib.hid hB1; have HS1 := Lib.hid hs1; have HB3 := Lib.hid hB3; have HO3 := Lib.hid hO3; have HN := Lib.hid hN; have HKK := Lib.hid hk
  have HU3 := Lib.hid (hu1.later hB3); have HA3 := Lib.hid (ha1.later hB3); have H3 := Lib.hid (h1.later hB3); have HD3 := Lib.hid (hd1.later hB3)
  clear hs1 hu1 ha1 h1 hd1 hB1 hB3 hO3 hN hro hao hat hk
  go_wp2_with fail
  rw [← hW3]
  clear hW3 c3 q0 q1 q2 s0 s1'
  have k2 := HO3.out.cell_some (i := 2) rfl
  have u4 := HU3.out.cell_some (i := 4) rfl
  have u5 := HU3.out.cell_some (i := 5) rfl
  have u6 := HU3.out.cell_some (i := 6) rfl
  have hrb := H3.out.bx (⟨(s1, s2), r, F, B1⟩ : RO) (by simp)
  simp only at hrb
  have HRB := Lib.hid hrb
  have hW1 : w.heap.size + 2 < W1.heap.size := Nat.lt_of_lt_of_le hz0 HB1.out.size
  have hob : W1.heap.size < W3.heap.size := HO3.out.lt
  clear hrb
  change ¬ (B1.cnt : Int) = (n : Int) at hcnt
  obtain ⟨q, hq⟩ : ∃ q, B1.cnt = q := ⟨_, rfl⟩
  rw [hq] at hcnt
  have hne : ((q : Int) == (n : Int)) = false := by simpa using hcnt
  have HCNT : Hid (∀ W, Below W3.heap.size W3 W → Calls Tryz.prog 63 #[.pointer (some ⟨r, 0, none⟩)] W fun e w' => e = .returned (.int .i64 (q : Int)) ∧ W = w') := Lib.hid fun W hB => by
    have := rb_count (HRB.out.later hB)
    rwa [hq] at this
  clear hcnt hq
  refine region_class (C := fun w' => w'.cell? ⟨W1.heap.size, 2, none⟩ = some (.pointer (some ⟨r, 0, none⟩)) ∧ w'.cell? ⟨w.heap.size + 1, 5, none⟩ = some (.int .i64 (n : Int)) ∧ Hid (Below W3.heap.size W3 w')) (by kernel_rfl) (by kernel_rfl) ⟨k2, u5, Lib.hid (Below.refl _ _).drew⟩ ?_
  repeat
    (first
     | go_big_quiet_skip
     | (go_big_quiet_want
        rename_i K hK
        apply Exists.intro
        refine ⟨fun w' hw' => ?_, hK _ ?_⟩
        · obtain ⟨k2, u5, hB⟩ := hw'
          go_simp
          first
          | (go_at_call 63
             refine (HCNT.out w' hB.out).mono ?_
             rintro e w9 ⟨rfl, rfl⟩
             exact ⟨rfl, k2, u5, hB⟩)
          | with_reducible rfl
        clear hK K
        simp only [Act.put, List.setIfInBounds_toArray, List.set_cons_zero, List.set_cons_succ]))
  refine wpQuiet_nil ?_
  rintro w5 ⟨k2, u5, hB⟩
  have ha5 := HA3.out.later hB.out
  have h5 := H3.out.later hB.out
  have hB5 := below_trans HB0.out (below_trans HB1.out (below_trans HB3.out hB.out))
  have a0 := ha5.cell_some (i := 0) rfl
  have f0 := ha5.frozen 0
  have a1 := ha5.cell_some (i := 1) rfl
  have f1 := ha5.frozen 1
  have a2 := ha5.cell_some (i := 2) rfl
  have f2 := ha5.frozen 2
  have a3 := ha5.cell_some (i := 3) rfl
  have f3 := ha5.frozen 3
  have HA5 := Lib.hid ha5; have H5 := Lib.hid h5; have HB5 := Lib.hid hB5
  clear ha5 h5 hB5 hB
  go_wp2_with fail
  refine bodyPost_ret (v := .agg #[.int .i64 2, .int .i64 0, .slice none 0 0, .slice none 0 0]) (results_cell_row rfl _ _ (w.heap.size + 2) _ _ _ _ rfl ((((HA5.out.set 0 (.int .i64 2)).set 1 (.int .i64 0)).set 2 (.slice none 0 0)).set 3 (.slice none 0 0)) Tryz.underlying47 rfl (by kernel_rfl)) rfl ?_
  exact ⟨rfl, H5.out.took (Turn.of_below HB5.out _) HA5.out (by omega) _ _ _ _⟩
set_option maxHeartbeats 2000000 in
set_option maxRecDepth 100000 in
theorem rseg_old_err (h : RIAt w d vo vs L m) (hk : (m.O.map (·.1)).Nodup) (hll : L.length ≤ 64) (s : Sess) (u : UD) (dp gp : Option Addr) (dc gc : Nat) (hd : Bs w (.slice dp u.data.length dc) u.data) (hdat : goodD u) {b : BoxS} (ho : lk m.O s = some b) (hcnt : (b.cnt : Int) = u.cnt) (he0 : errOf b u ≠ 0) (he3 : errOf b u ≠ 3) :
    Calls Tryz.prog 47 #[.pointer (some ⟨d, 0, none⟩), .agg #[.int .u64 (s.1.toNat : Int), .int .u64 (s.2.toNat : Int)], uv u (.slice dp u.data.length dc) (.slice gp u.got.length gc)] w fun e w' => e = .returned (.agg #[.int .i64 2, .int .i64 0, .slice none 0 0, .slice none 0 0]) ∧ TookR w w' d (RIF d vo vs L) m := by
  obtain ⟨s1, s2⟩ := s
  obtain ⟨kind, ep, ses, path, idx, cnt, data, code, got⟩ := u
  obtain ⟨n, hn⟩ := Int.eq_ofNat_of_zero_le (show 0 ≤ cnt by have := hdat.2.1; simp only at this; omega)
  obtain ⟨ix, hix⟩ := Int.eq_ofNat_of_zero_le (show 0 ≤ idx by have := hdat.2.2.2.1; simp only at this; omega)
  subst hn
  subst hix
  have hn1 : 1 ≤ n := by have := hdat.2.1; simp only at this; omega
  have hn2 : n ≤ 64 := by have := hdat.2.2.1; simp only at this; omega
  simp only [uv]
  obtain ⟨W0, hW0⟩ : ∃ W0, W0 = ((w.alloc (.cells #[.int .u64 (s1.toNat : Int), .int .u64 (s2.toNat : Int)] 68)).alloc (.cells #[.int .i64 kind, .int .u64 (ep.toNat : Int), .int .u64 (ses.toNat : Int), .int .i64 path, .int .i64 (ix : Int), .int .i64 (n : Int), .slice dp data.length dc, .int .i64 code, .slice gp got.length gc] 35)).alloc (.cells #[.int .i64 0, .int .i64 0, .slice none 0 0, .slice none 0 0] 47) := ⟨_, rfl⟩
  have hB0 : Below w.heap.size w W0 := hW0 ▸ (((Below.refl _ _).alloc (Nat.le_refl _) _).alloc (by simp) _).alloc (by simp; omega) _
  have hs0 : Blk W0 w.heap.size 68 [.int .u64 (s1.toNat : Int), .int .u64 (s2.toNat : Int)] := hW0 ▸ ((Blk.new w _ _).alloc _).alloc _
  have hu0 : Blk W0 (w.heap.size + 1) 35 [.int .i64 kind, .int .u64 (ep.toNat : Int), .int .u64 (ses.toNat : Int), .int .i64 path, .int .i64 (ix : Int), .int .i64 (n : Int), .slice dp data.length dc, .int .i64 code, .slice gp got.length gc] := by
    have := (Blk.new (w.alloc (.cells #[.int .u64 (s1.toNat : Int), .int .u64 (s2.toNat : Int)] 68)) 35 [.int .i64 kind, .int .u64 (ep.toNat : Int), .int .u64 (ses.toNat : Int), .int .i64 path, .int .i64 (ix : Int), .int .i64 (n : Int), .slice dp data.length dc, .int .i64 code, .slice gp got.length gc]).alloc (.cells #[.int .i64 0, .int .i64 0, .slice none 0 0, .slice none 0 0] 47)
    rw [show (w.alloc (.cells #[.int .u64 (s1.toNat : Int), .int .u64 (s2.toNat : Int)] 68)).heap.size = w.heap.size + 1 by simp] at this
    exact hW0 ▸ this
  have ha0 : Blk W0 (w.heap.size + 2) 47 [.int .i64 0, .int .i64 0, .slice none 0 0, .slice none 0 0] := by
    have := Blk.new ((w.alloc (.cells #[.int .u64 (s1.toNat : Int), .int .u64 (s2.toNat : Int)] 68)).alloc (.cells #[.int .i64 kind, .int .u64 (ep.toNat : Int), .int .u64 (ses.toNat : Int), .int .i64 path, .int .i64 (ix : Int), .int .i64 (n : Int), .slice dp data.length dc, .int .i64 code, .slice gp got.length gc] 35)) 47 [.int .i64 0, .int .i64 0, .slice none 0 0, .slice none 0 0]
    rw [show ((w.alloc (.cells #[.int .u64 (s1.toNat : Int), .int .u64 (s2.toNat : Int)] 68)).alloc (.cells #[.int .i64 kind, .int .u64 (ep.toNat : Int), .int .u64 (ses.toNat : Int), .int .i64 path, .int .i64 (ix : Int), .int .i64 (n : Int), .slice dp data.length dc, .int .i64 code, .slice gp got.length gc] 35)).heap.size = w.heap.size + 2 by simp] at this
    exact hW0 ▸ this
  have h0 := h.later hB0
  have hd0 : Bs W0 (.slice dp data.length dc) data := Rd.later hd hB0
  obtain ⟨LA, o, LB, hL, hos, hob, hA, hwo⟩ := h.findO hk ho
  subst hL
  obtain ⟨os, r, F, B1⟩ := o
  simp only at hos hob
  subst hos
  subst hob
  have hop := ropen_yes h0 rfl hA (by omega)
  simp only at hop
  have HOP := Lib.hid hop; have HWO := Lib.hid hwo
  clear hop hwo hA ho
  have s0 := hs0.cell_some (i := 0) rfl
  have s1' := hs0.cell_some (i := 1) rfl
  have HB0 := Lib.hid hB0; have HS0 := Lib.hid hs0; have HU0 := Lib.hid hu0; have HA0 := Lib.hid ha0; have H0 := Lib.hid h0; have HD0 := Lib.hid hd0; have HW := Lib.hid h; have HK := Lib.hid hk
  clear h hk hd hdat hB0 hs0 hu0 ha0 h0 hd0
  go_enter Tryz.func47, Tryz.ntmps47
  go_wp2_with fail
  rw [← hW0]
  clear hW0
  refine HOP.out.mono ?_
  rintro e W1 ⟨rfl, hB1⟩
  have hs1 := HS0.out.later hB1
  have hu1 := HU0.out.later hB1
  have ha1 := HA0.out.later hB1
  have h1 := H0.out.later hB1
  have hd1 := HD0.out.later hB1
  obtain ⟨W3, hW3⟩ : ∃ W3, W3 = W1.alloc (.cells #[.int .u64 (s1.toNat : Int), .int .u64 (s2.toNat : Int), .pointer (some ⟨r, 0, none⟩)] 80) := ⟨_, rfl⟩
  have hB3 : Below W1.heap.size W1 W3 := hW3 ▸ (Below.refl _ _).alloc (Nat.le_refl _) _
  have hO3 : Blk W3 W1.heap.size 80 [.int .u64 (s1.toNat : Int), .int .u64 (s2.toNat : Int), .pointer (some ⟨r, 0, none⟩)] := hW3 ▸ Blk.new W1 _ _
  obtain ⟨N, hN⟩ : ∃ N, N = (LA ++ (⟨(s1, s2), r, F, B1⟩ : RO) :: LB).length := ⟨_, rfl⟩
  have hro := h1.ro
  obtain ⟨ao, cap, rfl, hnc, hcm, hao⟩ := own_open hro
  have c3 := h1.blk.cell_some (i := 3) rfl
  rw [← hN] at c3 hro hnc hao hll
  have hlt : LA.length < N := by rw [hN]; simp
  obtain ⟨b, rfl⟩ := hao (by omega)
  have hat : ((LA ++ (⟨(s1, s2), r, F, B1⟩ : RO) :: LB).map RO.e)[LA.length]? = some ((s1, s2), .pointer (some ⟨r, 0, none⟩)) := by
    rw [List.getElem?_map, List.getElem?_append_right (Nat.le_refl _), Nat.sub_self]
    rfl
  have q0 := hro.cells (g := b) rfl (LA.length * 3) _ (by have := e3s_at _ hat 0 (by omega); rw [Nat.add_zero] at this; rw [this]; rfl)
  have q1 := hro.cells (g := b) rfl (LA.length * 3 + 1) _ (by rw [e3s_at _ hat 1 (by omega)]; rfl)
  have q2 := hro.cells (g := b) rfl (LA.length * 3 + 2) _ (by rw [e3s_at _ hat 2 (by omega)]; rfl)
  rw [Addr.add_lit, Nat.zero_add] at q0 q1 q2
  obtain ⟨k, hk⟩ : ∃ k, k = LA.length := ⟨_, rfl⟩
  rw [← hk] at hlt q0 q1 q2 ⊢
  have ix1 : (k : Int) < (N : Int) := by omega
  have s0 := hs1.cell_some (i := 0) rfl
  have s1' := hs1.cell_some (i := 1) rfl
  simp only [maxLen] at hcm
  have hz0 := HA0.out.lt
  have hdl := h1.blk.lt
  have hbl : b < W1.heap.size := World.block_lt_of_cell? _ _ q0
  have HB1 := Lib.hid hB1; have HS1 := Lib.hid hs1; have HB3 := Lib.hid hB3; have HO3 := Lib.hid hO3; have HN := Lib.hid hN; have HKK := Lib.hid hk
  have HU3 := Lib.hid (hu1.later hB3); have HA3 := Lib.hid (ha1.later hB3); have H3 := Lib.hid (h1.later hB3); have HD3 := Lib.hid (hd1.later hB3)
  clear hs1 hu1 ha1 h1 hd1 hB1 hB3 hO3 hN hro hao hat hk
  go_wp2_with fail
  rw [← hW3]
  clear hW3 c3 q0 q1 q2 s0 s1'
  have k2 := HO3.out.cell_some (i := 2) rfl
  have u4 := HU3.out.cell_some (i := 4) rfl
  have u5 := HU3.out.cell_some (i := 5) rfl
  have u6 := HU3.out.cell_some (i := 6) rfl
  have hrb := H3.out.bx (⟨(s1, s2), r, F, B1⟩ : RO) (by simp)
  simp only at hrb
  have HRB := Lib.hid hrb
  have hW1 : w.heap.size + 2 < W1.heap.size := Nat.lt_of_lt_of_le hz0 HB1.out.size
  have hob : W1.heap.size < W3.heap.size := HO3.out.lt
  clear hrb
  change (B1.cnt : Int) = (n : Int) at hcnt
  have hcc : B1.cnt = n := by omega
  have HCNT : Hid (∀ W, Below W3.heap.size W3 W → Calls Tryz.prog 63 #[.pointer (some ⟨r, 0, none⟩)] W fun e w' => e = .returned (.int .i64 (n : Int)) ∧ W = w') := Lib.hid fun W hB => by
    have := rb_count (HRB.out.later hB)
    rwa [hcc] at this
  clear hcnt hcc
  refine region_class (C := fun w' => w'.cell? ⟨W1.heap.size, 2, none⟩ = some (.pointer (some ⟨r, 0, none⟩)) ∧ w'.cell? ⟨w.heap.size + 1, 5, none⟩ = some (.int .i64 (n : Int)) ∧ Hid (Below W3.heap.size W3 w')) (by kernel_rfl) (by kernel_rfl) ⟨k2, u5, Lib.hid (Below.refl _ _).drew⟩ ?_
  repeat
    (first
     | go_big_quiet_skip
     | (go_big_quiet_want
        rename_i K hK
        apply Exists.intro
        refine ⟨fun w' hw' => ?_, hK _ ?_⟩
        · obtain ⟨k2, u5, hB⟩ := hw'
          go_simp
          first
          | (go_at_call 63
             refine (HCNT.out w' hB.out).mono ?_
             rintro e w9 ⟨rfl, rfl⟩
             exact ⟨rfl, k2, u5, hB⟩)
          | with_reducible rfl
        clear hK K
        simp only [Act.put, List.setIfInBounds_toArray, List.set_cons_zero, List.set_cons_succ]))
  refine wpQuiet_nil ?_
  rintro w5 ⟨k2, u5, hB⟩
  have u4' := below_cell hB.out u4 (World.block_lt_of_cell? _ _ u4)
  have u6' := below_cell hB.out u6 (World.block_lt_of_cell? _ _ u6)
  have hput := rb_put (HRB.out.later hB.out) (ix : Int) (.slice dp data.length dc) data (HD3.out.later hB.out)
  obtain ⟨E, hE⟩ : ∃ E, putErr B1.cnt B1.len B1.ps (ix : Int) data = E := ⟨_, rfl⟩
  obtain ⟨BX, hBB⟩ : ∃ BX, B1.put (ix : Int) data = BX := ⟨_, rfl⟩
  rw [hE, hBB] at hput
  have HPUT := Lib.hid hput; have HE := Lib.hid hE; have HBB := Lib.hid hBB; have HB5 := Lib.hid hB.out
  clear hput hE hBB hB u4 u6
  go_wp2_with fail
  refine HPUT.out.mono ?_
  rintro e W9 ⟨rfl, F', hRB9, hT9⟩
  obtain ⟨h9, t9⟩ := (H3.out.later HB5.out).rebox hRB9 hT9
  simp only at h9 t9
  have ha9 := (HA3.out.later HB5.out).same hT9.same fun e => (HRB.out.ne e HA3.out (by decide) (by decide) (by decide)) rfl
  have hO9 := (HO3.out.later HB5.out).same hT9.same fun e => (HRB.out.ne e HO3.out (by decide) (by decide) (by decide)) rfl
  have hB05 := below_trans HB0.out (below_trans HB1.out (below_trans HB3.out HB5.out))
  have t09 := (Turn.of_below hB05 (RIF d (.slice (some ⟨b, 0, none⟩) N cap) vs (LA ++ (⟨(s1, s2), r, F, B1⟩ : RO) :: LB))).trans t9
  have n0 : E ≠ 0 := by
    rw [← HE.out]
    exact he0
  have n3 : E ≠ 3 := by
    rw [← HE.out]
    exact he3
  have hBe : BX = B1 := by
    rw [← HBB.out]
    unfold BoxS.put
    rw [HE.out, if_neg n0]
  have hmm : ({ m with O := (LA ++ (⟨(s1, s2), r, F', BX⟩ : RO) :: LB).map RO.m } : IM) = m := by
    have : (LA ++ (⟨(s1, s2), r, F', BX⟩ : RO) :: LB).map RO.m = m.O := by
      rw [← HW.out.eo, hBe]
      simp [RO.m]
    rw [this]
  rw [hmm] at h9
  have e0 : (E == 0) = false := by simpa using n0
  have e3 : (E == 3) = false := by simpa using n3
  have e0' : (E != 0) = true := by simpa using n0
  have e3' : (E != 3) = true := by simpa using n3
  have a0 := ha9.cell_some (i := 0) rfl
  have f0 := ha9.frozen 0
  have a1 := ha9.cell_some (i := 1) rfl
  have f1 := ha9.frozen 1
  have a2 := ha9.cell_some (i := 2) rfl
  have f2 := ha9.frozen 2
  have a3 := ha9.cell_some (i := 3) rfl
  have f3 := ha9.frozen 3
  have HA9 := Lib.hid ha9; have H9 := Lib.hid h9; have HT := Lib.hid t09
  clear ha9 h9 t9 t09 hO9 hB05 hRB9 hT9 n0 n3 hBe hmm he0 he3
  go_wp2_with fail
  refine bodyPost_ret (v := .agg #[.int .i64 2, .int .i64 0, .slice none 0 0, .slice none 0 0]) (results_cell_row rfl _ _ (w.heap.size + 2) _ _ _ _ rfl ((((HA9.out.set 0 (.int .i64 2)).set 1 (.int .i64 0)).set 2 (.slice none 0 0)).set 3 (.slice none 0 0)) Tryz.underlying47 rfl (by kernel_rfl)) rfl ?_
  exact ⟨rfl, H9.out.took HT.out HA9.out (by omega) _ _ _ _⟩
end
end Go.Proofs.YtfaemjlemaclbaaGreat
