/- the reference's segment: a new one. Printed by wip/gen_rtake.py. -/
import Derived.Test.YtfaemjlemaclbaaGreatMRTake2
namespace Go.Proofs.YtfaemjlemaclbaaGreat
set_option linter.unusedVariables false
set_option linter.unusedSimpArgs false
open Go.RowKit Go.Maps
theorem new_ne3 (u : UD) : errOf (newBox u) u ≠ 3 := by
  unfold errOf putErr
  split
  · decide
  · next hc =>
    unfold putIn
    have h0 : (newBox u).ps.getD u.idx.toNat [] = [] := by
      show (List.replicate 64 ([] : List UInt8)).getD u.idx.toNat [] = []
      rw [List.getD_eq_getElem?_getD, List.getElem?_replicate]
      split <;> rfl
    rw [h0]
    have hne : ¬ ([] : List UInt8) = u.data := fun e => by rw [← e] at hc; simp at hc
    first
      | (rw [if_neg hne]; repeat (first | decide | split))
      | (rw [if_neg (by simp)]; repeat (first | decide | split))
section
variable {w : World} {d : Nat} {vo vs : Value} {L : List RO} {m : IM}
set_option maxHeartbeats 2000000 in
set_option maxRecDepth 100000 in
theorem rseg_new_err (h : RIAt w d vo vs L m) (hk : (m.O.map (·.1)).Nodup) (hll : L.length ≤ 64) (s : Sess) (u : UD) (dp gp : Option Addr) (dc gc : Nat) (hd : Bs w (.slice dp u.data.length dc) u.data) (hdat : goodD u) (hdn : ∀ k, (Value.slice dp u.data.length dc).ownBlock = some k → k < w.heap.size) (ho : lk m.O s = none) (he0 : errOf (newBox u) u ≠ 0) :
    Calls Tryz.prog 47 #[.pointer (some ⟨d, 0, none⟩), .agg #[.int .u64 (s.1.toNat : Int), .int .u64 (s.2.toNat : Int)], uv u (.slice dp u.data.length dc) (.slice gp u.got.length gc)] w fun e w' => e = .returned (.agg #[.int .i64 2, .int .i64 0, .slice none 0 0, .slice none 0 0]) ∧ TookR w w' d (RIF d vo vs L) m := by
  have he3 := new_ne3 u
  obtain ⟨s1, s2⟩ := s
  obtain ⟨kind, ep, ses, path, idx, cnt, data, code, got⟩ := u
  obtain ⟨n, hn⟩ := Int.eq_ofNat_of_zero_le (show 0 ≤ cnt by have := hdat.2.1; simp only at this; omega)
  obtain ⟨ix, hix⟩ := Int.eq_ofNat_of_zero_le (show 0 ≤ idx by have := hdat.2.2.2.1; simp only at this; omega)
  subst hn
  subst hix
  have hn1 : 1 ≤ n := by have := hdat.2.1; simp only at this; omega
  have hn2 : n ≤ 64 := by have := hdat.2.2.1; simp only at this; omega
  simp only [uv]
  obtain ⟨W0, hW0⟩ : ∃ W0, W0 = ((w.alloc (.cells #[.int .u64 (s1.toNat : Int), .int .u64 (s2.toNat : Int)] 68)).alloc (.cells #[.int .i64 kind, .int .u64 (ep.toNat : Int), .int .u64 (ses.toNat : Int), .int .i64 path, .int .i64 (ix : Int), .int .i64 (n : Int), .slice dp data.length dc, .int .i64 code, .slice gp got.length gc] 35)).alloc (.cells #[.int .i64 0, .int .i64 0, .slice none 0 0, .slice none 0 0] 47) := ⟨_, rfl⟩
  have hB0 : Below w.heap.size w W0 := hW0 ▸ (((Below.refl _ _).alloc (Nat.le_refl _) _).alloc (by simp) _).alloc (by simp; omega) _
  have hs0 : Blk W0 w.heap.size 68 [.int .u64 (s1.toNat : Int), .int .u64 (s2.toNat : Int)] := hW0 ▸ ((Blk.new w _ _).alloc _).alloc _
  have hu0 : Blk W0 (w.heap.size + 1) 35 [.int .i64 kind, .int .u64 (ep.toNat : Int), .int .u64 (ses.toNat : Int), .int .i64 path, .int .i64 (ix : Int), .int .i64 (n : Int), .slice dp data.length dc, .int .i64 code, .slice gp got.length gc] := by
    have := (Blk.new (w.alloc (.cells #[.int .u64 (s1.toNat : Int), .int .u64 (s2.toNat : Int)] 68)) 35 [.int .i64 kind, .int .u64 (ep.toNat : Int), .int .u64 (ses.toNat : Int), .int .i64 path, .int .i64 (ix : Int), .int .i64 (n : Int), .slice dp data.length dc, .int .i64 code, .slice gp got.length gc]).alloc (.cells #[.int .i64 0, .int .i64 0, .slice none 0 0, .slice none 0 0] 47)
    rw [show (w.alloc (.cells #[.int .u64 (s1.toNat : Int), .int .u64 (s2.toNat : Int)] 68)).heap.size = w.heap.size + 1 by simp] at this
    exact hW0 ▸ this
  have ha0 : Blk W0 (w.heap.size + 2) 47 [.int .i64 0, .int .i64 0, .slice none 0 0, .slice none 0 0] := by
    have := Blk.new ((w.alloc (.cells #[.int .u64 (s1.toNat : Int), .int .u64 (s2.toNat : Int)] 68)).alloc (.cells #[.int .i64 kind, .int .u64 (ep.toNat : Int), .int .u64 (ses.toNat : Int), .int .i64 path, .int .i64 (ix : Int), .int .i64 (n : Int), .slice dp data.length dc, .int .i64 code, .slice gp got.length gc] 35)) 47 [.int .i64 0, .int .i64 0, .slice none 0 0, .slice none 0 0]
    rw [show ((w.alloc (.cells #[.int .u64 (s1.toNat : Int), .int .u64 (s2.toNat : Int)] 68)).alloc (.cells #[.int .i64 kind, .int .u64 (ep.toNat : Int), .int .u64 (ses.toNat : Int), .int .i64 path, .int .i64 (ix : Int), .int .i64 (n : Int), .slice dp data.length dc, .int .i64 code, .slice gp got.length gc] 35)).heap.size = w.heap.size + 2 by simp] at this
    exact hW0 ▸ this
  have h0 := h.later hB0
  have hd0 : Bs W0 (.slice dp data.length dc) data := Rd.later hd hB0
  have HDN : Hid (∀ k, (Value.slice dp data.length dc).ownBlock = some k → k < w.heap.size) := Lib.hid hdn
  clear hdn
  have hop := ropen_no h0 (s1, s2) ho (by omega)
  simp only at hop
  have HOP := Lib.hid hop; have HNO := Lib.hid ho
  clear hop ho
  have s0 := hs0.cell_some (i := 0) rfl
  have s1' := hs0.cell_some (i := 1) rfl
  have HB0 := Lib.hid hB0; have HS0 := Lib.hid hs0; have HU0 := Lib.hid hu0; have HA0 := Lib.hid ha0; have H0 := Lib.hid h0; have HD0 := Lib.hid hd0; have HW := Lib.hid h; have HK := Lib.hid hk
  clear h hk hd hdat hB0 hs0 hu0 ha0 h0 hd0
  go_enter Tryz.func47, Tryz.ntmps47
  go_wp2_with fail
  rw [← hW0]
  clear hW0
  refine HOP.out.mono ?_
  rintro e W1 ⟨rfl, hB1⟩
  have hs1 := HS0.out.later hB1
  have hu1 := HU0.out.later hB1
  have ha1 := HA0.out.later hB1
  have h1 := H0.out.later hB1
  have hd1 := HD0.out.later hB1
  obtain ⟨W2, hW2⟩ : ∃ W2, W2 = W1.alloc (.cells #[.int .u64 (s1.toNat : Int), .int .u64 (s2.toNat : Int), .pointer none] 80) := ⟨_, rfl⟩
  have hB2 : Below W1.heap.size W1 W2 := hW2 ▸ (Below.refl _ _).alloc (Nat.le_refl _) _
  have hO2 : Blk W2 W1.heap.size 80 [.int .u64 (s1.toNat : Int), .int .u64 (s2.toNat : Int), .pointer none] := hW2 ▸ Blk.new W1 _ _
  have s0 := hs1.cell_some (i := 0) rfl
  have s1' := hs1.cell_some (i := 1) rfl
  have hz0 := HA0.out.lt
  have hub : w.heap.size + 1 < W1.heap.size := hu1.lt
  have u5 := hu1.cell_some (i := 5) rfl
  have HB1 := Lib.hid hB1; have HS1 := Lib.hid hs1; have HB2 := Lib.hid hB2; have HO2 := Lib.hid hO2
  have HU2 := Lib.hid (hu1.later hB2); have HA2 := Lib.hid (ha1.later hB2); have H2 := Lib.hid (h1.later hB2); have HD2 := Lib.hid (hd1.later hB2)
  clear hs1 hu1 ha1 h1 hd1 hB1 hB2 hO2
  go_wp2_with fail
  rw [← hW2]
  clear hW2 s0 s1' u5
  refine (rb_new n _ hn1 hn2).mono ?_
  rintro e Wn ⟨r, F, rfl, hRBn, hFn, hBn⟩
  have hOn := HO2.out.later hBn
  have o2 := hOn.cell_some (i := 2) rfl
  have fo2 := hOn.frozen 2
  obtain ⟨W3, hW3⟩ : ∃ W3, W3 = Wn.setCell ⟨W1.heap.size, 2, none⟩ (.pointer (some ⟨r, 0, none⟩)) := ⟨_, rfl⟩
  have hS3 : Same (at1 W1.heap.size) Wn W3 := hW3 ▸ (Same.refl (at1 W1.heap.size) Wn).setCell (p := ⟨W1.heap.size, 2, none⟩) (fun _ => rfl) _
  have hO3 : Blk W3 W1.heap.size 80 [.int .u64 (s1.toNat : Int), .int .u64 (s2.toNat : Int), .pointer (some ⟨r, 0, none⟩)] := hW3 ▸ hOn.set 2 (.pointer (some ⟨r, 0, none⟩))
  have hW1 : w.heap.size + 2 < W1.heap.size := Nat.lt_of_lt_of_le hz0 HB1.out.size
  have hob2 : W1.heap.size < W2.heap.size := HO2.out.lt
  have hrb : RB W3 r F (⟨n, 0, List.replicate 64 []⟩ : BoxS) := hRBn.same hS3 fun k hk e => by
    have h1 := hFn k hk
    have : k = W1.heap.size := e
    omega
  have hu3 := (HU2.out.later hBn).same hS3 fun e => by
    have : w.heap.size + 1 = W1.heap.size := e
    omega
  have ha3 := (HA2.out.later hBn).same hS3 fun e => by
    have : w.heap.size + 2 = W1.heap.size := e
    omega
  have h3 := (H2.out.later hBn).same hS3 fun k hk e => by
    have h1 := HW.out.lt hk
    have : k = W1.heap.size := e
    omega
  have hd3 : Bs W3 (.slice dp data.length dc) data := Rd.same (Rd.later HD2.out hBn) hS3 fun k e hk => by
    have : k = W1.heap.size := hk
    have h2 := HDN.out k e
    omega
  have ht3 : Turn (RIF d vo vs L) (fun k => RIF d vo vs L k ∨ F k) w W3 := ⟨(Same.of_below (below_trans HB0.out (below_trans HB1.out (below_trans HB2.out hBn))) (RIF d vo vs L)).trans hS3 (fun i hi e => by
    have : i = W1.heap.size := e
    omega), fun k hk => by
    rcases hk with hk | hk
    · exact .inl hk
    · have h1 := hFn k hk
      exact .inr (by omega)⟩
  have hfd : ∀ a ∈ L, ∀ k, a.F k → ¬ F k := fun a ha k hk hk' => by
    have h1 := HW.out.lt (.inr (.inr (.inr ⟨a, ha, hk⟩)))
    have h2 := hFn k hk'
    omega
  have HO3 := Lib.hid hO3; have HRB := Lib.hid hrb; have HU3 := Lib.hid hu3; have HA3 := Lib.hid ha3; have H3 := Lib.hid h3; have HD3 := Lib.hid hd3; have HT3 := Lib.hid ht3; have HFD := Lib.hid hfd
  clear hO3 hrb hu3 ha3 h3 hd3 ht3 hfd hS3 hRBn hFn hBn hOn
  go_wp2_with fail
  rw [← hW3]
  clear hW3 o2 fo2
  have k2 := HO3.out.cell_some (i := 2) rfl
  have u4 := HU3.out.cell_some (i := 4) rfl
  have u5 := HU3.out.cell_some (i := 5) rfl
  have u6 := HU3.out.cell_some (i := 6) rfl
  have hob : W1.heap.size < W3.heap.size := HO3.out.lt
  have HCNT : Hid (∀ W, Below W3.heap.size W3 W → Calls Tryz.prog 63 #[.pointer (some ⟨r, 0, none⟩)] W fun e w' => e = .returned (.int .i64 (n : Int)) ∧ W = w') := Lib.hid fun W hB => by
    have := rb_count (HRB.out.later hB)
    rwa [show ((⟨n, 0, List.replicate 64 []⟩ : BoxS)).cnt = n from rfl] at this
  refine region_class (C := fun w' => w'.cell? ⟨W1.heap.size, 2, none⟩ = some (.pointer (some ⟨r, 0, none⟩)) ∧ w'.cell? ⟨w.heap.size + 1, 5, none⟩ = some (.int .i64 (n : Int)) ∧ Hid (Below W3.heap.size W3 w')) (by kernel_rfl) (by kernel_rfl) ⟨k2, u5, Lib.hid (Below.refl _ _).drew⟩ ?_
  repeat
    (first
     | go_big_quiet_skip
     | (go_big_quiet_want
        rename_i K hK
        apply Exists.intro
        refine ⟨fun w' hw' => ?_, hK _ ?_⟩
        · obtain ⟨k2, u5, hB⟩ := hw'
          go_simp
          first
          | (go_at_call 63
             refine (HCNT.out w' hB.out).mono ?_
             rintro e w9 ⟨rfl, rfl⟩
             exact ⟨rfl, k2, u5, hB⟩)
          | with_reducible rfl
        clear hK K
        simp only [Act.put, List.setIfInBounds_toArray, List.set_cons_zero, List.set_cons_succ]))
  refine wpQuiet_nil ?_
  rintro w5 ⟨k2, u5, hB⟩
  have u4' := below_cell hB.out u4 (World.block_lt_of_cell? _ _ u4)
  have u6' := below_cell hB.out u6 (World.block_lt_of_cell? _ _ u6)
  have hput := rb_put (HRB.out.later hB.out) (ix : Int) (.slice dp data.length dc) data (HD3.out.later hB.out)
  obtain ⟨E, hE⟩ : ∃ E, putErr (⟨n, 0, List.replicate 64 []⟩ : BoxS).cnt (⟨n, 0, List.replicate 64 []⟩ : BoxS).len (⟨n, 0, List.replicate 64 []⟩ : BoxS).ps (ix : Int) data = E := ⟨_, rfl⟩
  obtain ⟨BX, hBB⟩ : ∃ BX, (⟨n, 0, List.replicate 64 []⟩ : BoxS).put (ix : Int) data = BX := ⟨_, rfl⟩
  rw [hE, hBB] at hput
  have HPUT := Lib.hid hput; have HE := Lib.hid hE; have HBB := Lib.hid hBB; have HB5 := Lib.hid hB.out
  clear hput hE hBB hB u4 u6
  go_wp2_with fail
  refine HPUT.out.mono ?_
  rintro e W9 ⟨rfl, F', hRB9, hT9⟩
  have h9 := (H3.out.later HB5.out).same hT9.same fun k hk e => by
    rcases hk with hk | hk | hk | ⟨a, ha, hk⟩
    · exact HRB.out.ne e H3.out.blk (by decide) (by decide) (by decide) hk
    · obtain ⟨cs, hc⟩ := own_at H3.out.ro hk
      exact HRB.out.ne e hc (by decide) (by decide) (by decide) rfl
    · obtain ⟨cs, hc⟩ := own_at H3.out.rs hk
      exact HRB.out.ne e hc (by decide) (by decide) (by decide) rfl
    · exact HFD.out a ha k hk e
  have ha9 := (HA3.out.later HB5.out).same hT9.same fun e => (HRB.out.ne e HA3.out (by decide) (by decide) (by decide)) rfl
  have hO9 := (HO3.out.later HB5.out).same hT9.same fun e => (HRB.out.ne e HO3.out (by decide) (by decide) (by decide)) rfl
  have t9 : Turn (fun k => RIF d vo vs L k ∨ F k) (fun k => RIF d vo vs L k ∨ F' k) w5 W9 := ⟨hT9.same.mono fun k _ e => .inr e, fun k hk => by
    rcases hk with hk | hk
    · exact .inl (.inl hk)
    · exact (hT9.foot k hk).imp .inr id⟩
  have t09 := (HT3.out.trans (Turn.of_below HB5.out _)).trans t9
  have n0 : E ≠ 0 := by
    rw [← HE.out]
    exact he0
  have n3 : E ≠ 3 := by
    rw [← HE.out]
    exact he3
  have e0 : (E == 0) = false := by simpa using n0
  have e3 : (E == 3) = false := by simpa using n3
  have e0' : (E != 0) = true := by simpa using n0
  have e3' : (E != 3) = true := by simpa using n3
  have a0 := ha9.cell_some (i := 0) rfl
  have f0 := ha9.frozen 0
  have a1 := ha9.cell_some (i := 1) rfl
  have f1 := ha9.frozen 1
  have a2 := ha9.cell_some (i := 2) rfl
  have f2 := ha9.frozen 2
  have a3 := ha9.cell_some (i := 3) rfl
  have f3 := ha9.frozen 3
  have HA9 := Lib.hid ha9; have H9 := Lib.hid h9; have HT := Lib.hid t09
  clear ha9 h9 t9 t09 hO9 hRB9 hT9 n0 n3 he0 he3
  go_wp2_with fail
  refine bodyPost_ret (v := .agg #[.int .i64 2, .int .i64 0, .slice none 0 0, .slice none 0 0]) (results_cell_row rfl _ _ (w.heap.size + 2) _ _ _ _ rfl ((((HA9.out.set 0 (.int .i64 2)).set 1 (.int .i64 0)).set 2 (.slice none 0 0)).set 3 (.slice none 0 0)) Tryz.underlying47 rfl (by kernel_rfl)) rfl ?_
  exact ⟨rfl, H9.out.took ⟨HT.out.same, fun k hk => HT.out.foot k (.inl hk)⟩ HA9.out (by omega) _ _ _ _⟩
end
end Go.Proofs.YtfaemjlemaclbaaGreat
