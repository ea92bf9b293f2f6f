/- Enc2, Enc3: joined. -/
import Derived.Test.YtghjffgaebnhiaaDoorMEnc1
import Derived.Test.YtghjffgaebnhiaaDoorMValidA
import Derived.Test.YtghjffgaebnhiaaDoorMMix
section
/- pdu: layData, layReport, layCancel. -/
namespace Go.Proofs.YtghjffgaebnhiaaDoor
set_option linter.unusedVariables false
set_option linter.unusedSimpArgs false
open Go.RowKit
set_option maxHeartbeats 2000000 in
set_option maxRecDepth 100000 in
theorem layData_any (v : Value) (l : List UInt8) (u : UD) (dp gp : Option Addr) (dc gc : Nat) (w : World) (hb : Bs w v l) (hd : Bs w (.slice dp u.data.length dc) u.data) (p i c : Nat) (hp : u.path = p) (hi : u.idx = i) (hcn : u.cnt = c) (h64 : p ≤ 64 ∧ i ≤ 64 ∧ c ≤ 64) (hl : l.length ≤ 1000) (hdl : u.data.length ≤ 1024) :
    Calls Tryd.prog 72 #[v, uv u (.slice dp u.data.length dc) (.slice gp u.got.length gc)] w fun e w' => ∃ v', e = .returned v' ∧ w'.ownsRow w.heap.size 5 1 v' (l ++ (digs [p, i, c] ++ (dig u.data.length ++ u.data))).length ((l ++ (digs [p, i, c] ++ (dig u.data.length ++ u.data))).map ub) ∧ Below w.heap.size w w' := by
  obtain ⟨kind, ep, ses, path, idx, cnt, data, code, got⟩ := u
  unfold uv
  simp only at hd hp hi hcn hdl ⊢
  subst hp; subst hi; subst hcn
  obtain ⟨ao, cap, rfl, -⟩ := id hb
  obtain ⟨n, hn⟩ : ∃ n, n = data.length := ⟨_, rfl⟩
  obtain ⟨k, hk⟩ : ∃ k, k = got.length := ⟨_, rfl⟩
  obtain ⟨e1, he1⟩ : ∃ e1, e1 = ep.toNat := ⟨_, rfl⟩
  obtain ⟨e2, he2⟩ : ∃ e2, e2 = ses.toNat := ⟨_, rfl⟩
  obtain ⟨N, hN⟩ : ∃ N, N = l.length := ⟨_, rfl⟩
  obtain ⟨W0, hW0⟩ : ∃ W0, W0 = w.alloc (.cells #[.int .i64 kind, .int .u64 (e1 : Int), .int .u64 (e2 : Int), .int .i64 (p : Int), .int .i64 (i : Int), .int .i64 (c : Int), .slice dp n dc, .int .i64 code, .slice gp k gc] 26) := ⟨_, rfl⟩
  have hB0 : Below w.heap.size w W0 := hW0 ▸ (Below.refl _ _).alloc (Nat.le_refl _) _
  have hU0 : Blk W0 w.heap.size 26 [.int .i64 kind, .int .u64 (e1 : Int), .int .u64 (e2 : Int), .int .i64 (p : Int), .int .i64 (i : Int), .int .i64 (c : Int), .slice dp n dc, .int .i64 code, .slice gp k gc] := hW0 ▸ Blk.new w _ _
  have hbd : Below W0.heap.size W0 W0.drew := (Below.refl _ _).drew
  have hcalls := fun (W : World) (g : Nat) (h : Below W0.heap.size W0 W) (hg : Blk W g 22 [.int .u64 (p : Int), .int .u64 (i : Int), .int .u64 (c : Int)]) => numbers_any (.slice ao N cap) l g 3 [p, i, c] W (by rw [hN]; exact Rd.later (Rd.later hb hB0) h) hg rfl (by intro x hx; simp at hx; omega) (by omega) (by omega)
  have hcalls2 := fun (W : World) (v1 : Value) (h : Below W0.heap.size W0 W) (hv : Bs W v1 (l ++ digs [p, i, c])) => appendBytes_any v1 (.slice dp n dc) (l ++ digs [p, i, c]) data W hv (by rw [hn]; exact Rd.later (Rd.later hd hB0) h) (by
    have h1 := digs_len [p, i, c] (by intro x hx; simp at hx; omega)
    rw [List.length_append]
    simp only [List.length_cons, List.length_nil] at h1
    omega)
  have z3 := hU0.cell_some (i := 3) rfl
  have z4 := hU0.cell_some (i := 4) rfl
  have z5 := hU0.cell_some (i := 5) rfl
  have z6 := hU0.cell_some (i := 6) rfl
  have y6 := (hU0.alloc (.cells #[.int .u64 (p : Int), .int .u64 (i : Int), .int .u64 (c : Int)] 22)).cell_some (i := 6) rfl
  have w1 : IntKind.u64.wrap (p : Int) = (p : Int) := by rw [IntKind.wrap_u64]; omega
  have w2 : IntKind.u64.wrap (i : Int) = (i : Int) := by rw [IntKind.wrap_u64]; omega
  have w3 : IntKind.u64.wrap (c : Int) = (c : Int) := by rw [IntKind.wrap_u64]; omega
  rw [← hn, ← hk, ← he1, ← he2, ← hN]
  obtain ⟨L, hL⟩ : ∃ L, L = l ++ digs [p, i, c] := ⟨_, rfl⟩
  obtain ⟨M, hM⟩ : ∃ M, M = L.length := ⟨_, rfl⟩
  obtain ⟨L2, hL2⟩ : ∃ L2, L2 = L ++ (dig data.length ++ data) := ⟨_, rfl⟩
  obtain ⟨M2, hM2⟩ : ∃ M2, M2 = L2.length := ⟨_, rfl⟩
  simp only [← hL, ← hM] at hcalls
  simp only [← hL, ← hL2, ← hM2] at hcalls2
  have HL2 : Hid (l ++ (digs [p, i, c] ++ (dig n ++ data)) = L2 ∧ M2 = L2.length ∧ M = L.length) := Lib.hid ⟨by rw [hL2, hL, List.append_assoc, hn], hM2, hM⟩
  clear hL hM hL2 hM2
  have HC := Lib.hid hcalls; have HC2 := Lib.hid hcalls2; have HU := Lib.hid hU0; have HB0 := Lib.hid hB0; have HN := Lib.hid hn
  clear hcalls hcalls2 hU0 hb hd hn hk he1 he2 hN hl hdl
  go_enter Tryd.func72, Tryd.ntmps72
  go_wp2_with fail
  rw [← hW0]
  clear hW0
  have HBD := Lib.hid hbd
  clear hbd
  refine region_mix (fun w' => Blk w' w.heap.size 26 [.int .i64 kind, .int .u64 (e1 : Int), .int .u64 (e2 : Int), .int .i64 (p : Int), .int .i64 (i : Int), .int .i64 (c : Int), .slice dp n dc, .int .i64 code, .slice gp k gc]) (fun i => i == 10 || i == 11 || i == 14) [0, 1, 2, 3, 4, 5, 6, 7, 8, 9, 12, 13, 10, 11, 14, 15] (by kernel_rfl) (by kernel_rfl) HU.out.drew ?_
  repeat (first
    | (refine mix_pure rfl rfl (by kernel_rfl) ?_
       apply Exists.intro
       refine ⟨fun w' hw' => ?_, ?_⟩
       · have z3 := hw'.cell_some (i := 3) rfl
         have z4 := hw'.cell_some (i := 4) rfl
         have z5 := hw'.cell_some (i := 5) rfl
         have z6 := hw'.cell_some (i := 6) rfl
         go_simp
         with_reducible rfl
       simp only [Act.put, List.setIfInBounds_toArray, List.set_cons_zero, List.set_cons_succ])
    | fail)
  refine mix_eff rfl rfl (by kernel_rfl) ?_
  unfold effAt
  go_simp
  simp only [effUpon, Act.put, List.setIfInBounds_toArray, List.set_cons_zero, List.set_cons_succ]
  refine ⟨(HU.out.alloc _).drew, ?_⟩
  have hb4 : Below W0.heap.size W0 (W0.alloc (.cells #[.int .u64 (p : Int), .int .u64 (i : Int), .int .u64 (c : Int)] 22)).drew := ((Below.refl _ _).alloc (Nat.le_refl _) _).drew
  have hc4 := HC.out _ W0.heap.size hb4 (Blk.drew (Blk.new W0 _ [.int .u64 (p : Int), .int .u64 (i : Int), .int .u64 (c : Int)]))
  have HC4 := Lib.hid hc4; have HB4 := Lib.hid hb4
  clear hc4 hb4
  refine mix_eff rfl rfl (by kernel_rfl) ?_
  unfold effAt
  go_simp
  simp only [effUpon, Act.put, List.setIfInBounds_toArray, List.set_cons_zero, List.set_cons_succ]
  refine HC4.out.mono ?_
  rintro e w5 ⟨v1, rfl, ho, hB5⟩
  refine ⟨v1, rfl, ?_⟩
  obtain ho := ho.resolve_right (by rintro ⟨h, -⟩; cases h)
  have hb5 : Below W0.heap.size W0 w5 := below_trans HB4.out hB5
  refine ⟨HU.out.later hb5, ?_⟩
  have hr5 : Bs w5 v1 L := by
    show Rd w5 v1 L.length _
    rw [← HL2.out.2.2]
    exact Rd.of_own ho
  obtain ⟨a1, c1, rfl, -⟩ := own_open ho
  have hc5 := HC2.out _ _ hb5 hr5
  have HC5 := Lib.hid hc5; have HB5 := Lib.hid hb5
  clear hc5 hb5 hr5 ho hB5 HC HC2 HC4
  refine mix_eff rfl rfl (by kernel_rfl) ?_
  unfold effAt
  go_simp
  simp only [effUpon, Act.put, List.setIfInBounds_toArray, List.set_cons_zero, List.set_cons_succ]
  refine HC5.out.mono ?_
  rintro e w6 ⟨v2, rfl, ho2, hB6⟩
  refine ⟨v2, rfl, HU.out.later (below_trans HB5.out hB6), ?_⟩
  have HO2 := Lib.hid (own_mono ho2 (Nat.le_trans HB0.out.size HB5.out.size)); have HB6 := Lib.hid (below_trans HB0.out (below_trans HB5.out hB6))
  clear ho2 hB6 HC5
  refine mix_pure rfl rfl (by kernel_rfl) ?_
  apply Exists.intro
  refine ⟨fun w' hw' => ?_, ?_⟩
  · go_simp
    with_reducible rfl
  refine mix_nil ?_
  simp only [List.getElem_toArray, List.getElem_cons_zero, List.getElem_cons_succ, Act.put, List.setIfInBounds_toArray, List.set_cons_zero, List.set_cons_succ]
  go_wp2_with fail
  go_ret
  refine ⟨_, rfl, ?_, HB6.out⟩
  rw [HL2.out.1, ← HL2.out.2.1]
  exact HO2.out
end Go.Proofs.YtghjffgaebnhiaaDoor
end
section
/- pdu: layReport, layCancel. -/
namespace Go.Proofs.YtghjffgaebnhiaaDoor
set_option linter.unusedVariables false
set_option linter.unusedSimpArgs false
open Go.RowKit
theorem numbers_ne (v : Value) (l : List UInt8) (g k : Nat) (ns : List Nat) (w : World) (hb : Bs w v l) (hg : Blk w g 22 (ns.map u64v)) (hk : k = ns.length) (hn : ∀ n ∈ ns, n < 18446744073709551616) (hk9 : k ≤ 16) (hl : l.length + 170 ≤ 140737488355328) (hne : ns ≠ []) :
    Calls Tryd.prog 40 #[v, .slice (some ⟨g, 0, none⟩) k k] w fun e w' => ∃ v', e = .returned v' ∧ w'.ownsRow w.heap.size 5 1 v' (l ++ digs ns).length ((l ++ digs ns).map ub) ∧ Below w.heap.size w w' := by
  refine (numbers_any v l g k ns w hb hg hk hn hk9 hl).mono ?_
  rintro e w' ⟨v', rfl, h, hB⟩
  exact ⟨v', rfl, h.resolve_right (fun h => hne h.1), hB⟩
def mono : Int → List (Int × Int) → Prop
  | _, [] => True
  | e, g :: l => e ≤ g.1 ∧ g.1 < g.2 ∧ g.2 ≤ 64 ∧ mono g.2 l
theorem mono_of_rises {e e' : Int} {l : List (Int × Int)} (h : rises e l = true) (he : e' ≤ e + 1) : mono e' l := by
  induction l generalizing e e' with
  | nil => trivial
  | cons g l ih =>
    simp only [rises, Bool.and_eq_true, decide_eq_true_eq] at h
    exact ⟨by omega, h.1.1.2, h.1.2, ih h.2 (by omega)⟩
theorem mono_len {e : Int} {l : List (Int × Int)} (h : mono e l) (he : e ≤ 64) : e + l.length ≤ 64 := by
  induction l generalizing e with
  | nil => simpa using he
  | cons g l ih =>
    have := ih h.2.2.2 h.2.2.1
    have h1 := h.1
    have h2 := h.2.1
    rw [List.length_cons]
    omega
/-- ranges, each as how far it stands from the one ahead, and how long it is. -/
def rngB : Int → List (Int × Int) → List UInt8
  | _, [] => []
  | e, g :: l => dig (g.1 - e).toNat ++ (dig (g.2 - g.1).toNat ++ rngB g.2 l)
def layR (u : UD) : List UInt8 := dig u.code.toNat ++ (if u.code = 0 then dig u.got.length ++ rngB 0 u.got else [])
theorem wrap_nat (x : Int) (n : Nat) (h : x = (n : Int)) (hn : n < 18446744073709551616) : IntKind.u64.wrap x = (n : Int) := by rw [IntKind.wrap_u64]; omega
set_option maxHeartbeats 4000000 in
set_option maxRecDepth 100000 in
theorem layReport_any (v : Value) (l : List UInt8) (u : UD) (dp gp : Option Addr) (dc gc : Nat) (w : World) (hb : Bs w v l) (hg : Rgs w (.slice gp u.got.length gc) u.got) (hc0 : 0 ≤ u.code) (hc7 : u.code ≤ 7) (hm : mono 0 u.got) (hl : l.length ≤ 1000) :
    Calls Tryd.prog 75 #[v, uv u (.slice dp u.data.length dc) (.slice gp u.got.length gc)] w fun e w' => ∃ v', e = .returned v' ∧ w'.ownsRow w.heap.size 5 1 v' (l ++ layR u).length ((l ++ layR u).map ub) ∧ Below w.heap.size w w' := by
  have hk64 := mono_len hm (by decide)
  obtain ⟨TOT, hTOT⟩ : ∃ T, T = l ++ layR u := ⟨_, rfl⟩
  rw [← hTOT]
  rw [layR] at hTOT
  obtain ⟨kind, ep, ses, path, idx, cnt, data, code, got⟩ := u
  unfold uv
  simp only at hg hc0 hc7 hm hk64 hTOT ⊢
  obtain ⟨c, rfl⟩ := Int.eq_ofNat_of_zero_le hc0
  rw [Int.toNat_natCast] at hTOT
  obtain ⟨ao, cap, rfl, -⟩ := id hb
  obtain ⟨n, hn⟩ : ∃ n, n = data.length := ⟨_, rfl⟩
  obtain ⟨k, hk⟩ : ∃ k, k = got.length := ⟨_, rfl⟩
  obtain ⟨e1, he1⟩ : ∃ e1, e1 = ep.toNat := ⟨_, rfl⟩
  obtain ⟨e2, he2⟩ : ∃ e2, e2 = ses.toNat := ⟨_, rfl⟩
  obtain ⟨N, hN⟩ : ∃ N, N = l.length := ⟨_, rfl⟩
  obtain ⟨W0, hW0⟩ : ∃ W0, W0 = w.alloc (.cells #[.int .i64 kind, .int .u64 (e1 : Int), .int .u64 (e2 : Int), .int .i64 path, .int .i64 idx, .int .i64 cnt, .slice dp n dc, .int .i64 (c : Int), .slice gp k gc] 26) := ⟨_, rfl⟩
  have hB0 : Below w.heap.size w W0 := hW0 ▸ (Below.refl _ _).alloc (Nat.le_refl _) _
  have hU0 : Blk W0 w.heap.size 26 [.int .i64 kind, .int .u64 (e1 : Int), .int .u64 (e2 : Int), .int .i64 path, .int .i64 idx, .int .i64 cnt, .slice dp n dc, .int .i64 (c : Int), .slice gp k gc] := hW0 ▸ Blk.new w _ _
  obtain ⟨W1, hW1⟩ : ∃ W1, W1 = W0.alloc (.cells #[.int .u64 (c : Int)] 22) := ⟨_, rfl⟩
  have hB1 : Below W0.heap.size W0 W1 := hW1 ▸ (Below.refl _ _).alloc (Nat.le_refl _) _
  have hsz : W0.heap.size = w.heap.size + 1 := by rw [hW0]; simp
  have hbk : Blk W1 (w.heap.size + 1) 22 [.int .u64 (c : Int)] := by rw [← hsz, hW1]; exact Blk.new W0 _ _
  have hc1 := numbers_ne (.slice ao N cap) l (w.heap.size + 1) 1 [c] W1 (by rw [hN]; exact Rd.later (Rd.later hb hB0) hB1) hbk rfl (by intro x hx; simp at hx; omega) (by omega) (by omega) (by simp)
  have hd1 : digs [c] = dig c := by simp [digs]
  rw [hd1] at hc1
  obtain ⟨L1, hL1⟩ : ∃ L1, L1 = l ++ dig c := ⟨_, rfl⟩
  rw [← hL1] at hc1
  have hL1l : L1.length ≤ 1010 := by
    have := dig_len (n := c) (by omega)
    rw [hL1, List.length_append]
    omega
  rw [← List.append_assoc, ← hL1] at hTOT
  have w1 : IntKind.u64.wrap (c : Int) = (c : Int) := wrap_nat _ _ rfl (by omega)
  have w2 : IntKind.u64.wrap (k : Int) = (k : Int) := wrap_nat _ _ rfl (by omega)
  have z7 := hU0.cell_some (i := 7) rfl
  rw [hW0] at z7
  rw [← hn, ← hk, ← he1, ← he2, ← hN]
  have HC1 := Lib.hid hc1; have HU := Lib.hid hU0; have HB0 := Lib.hid hB0; have HN := Lib.hid hn; have HT := Lib.hid hTOT; have HG := Lib.hid hg; have HK := Lib.hid hk; have HM := Lib.hid hm; have HL1 := Lib.hid hL1l; have HB1 := Lib.hid hB1; have HK64 := Lib.hid hk64
  clear hsz hbk hk64
  clear hc1 hU0 hb hg hn hk he1 he2 hN hl hTOT hL1 hm hL1l hd1
  go_enter Tryd.func75, Tryd.ntmps75
  go_wp2_with fail
  rw [← hW0, ← hW1]
  refine HC1.out.mono ?_
  rintro e wa ⟨v1, rfl, ho, hBa⟩
  have hBb := below_trans HB0.out (below_trans HB1.out hBa)
  have hu1 := (HU.out.later HB1.out).later hBa
  have z7 := hu1.cell_some (i := 7) rfl
  have z8 := hu1.cell_some (i := 8) rfl
  obtain ⟨M1, hM1⟩ : ∃ M, M = L1.length := ⟨_, rfl⟩
  rw [← hM1] at ho
  have HM1 := Lib.hid hM1
  obtain ⟨a1, c1, rfl, -⟩ := own_open ho
  have HO := Lib.hid (own_mono ho (Nat.le_trans HB0.out.size HB1.out.size)); have HBb := Lib.hid hBb
  have HU1 := Lib.hid hu1
  clear ho hBa hBb hM1 hW0 hW1 hu1 HC1
  by_cases h0 : c = 0
  · subst h0
    have hT2 : Hid (TOT = L1 ++ (dig k ++ rngB 0 got)) := Lib.hid (by rw [HT.out, HK.out]; rfl)
    obtain ⟨W2, hW2⟩ : ∃ W2, W2 = wa.alloc (.cells #[.int .u64 (k : Int)] 22) := ⟨_, rfl⟩
    have hB2 : Below wa.heap.size wa W2 := hW2 ▸ (Below.refl _ _).alloc (Nat.le_refl _) _
    have hk64 : k ≤ 64 := by have h := HK64.out; rw [← HK.out] at h; omega
    have hbs : Bs W2 (.slice a1 M1 c1) L1 := by
      show Rd _ _ L1.length _
      rw [← HM1.out]
      exact (Rd.of_own HO.out).later hB2
    have hc2 := numbers_ne (.slice a1 M1 c1) L1 wa.heap.size 1 [k] W2 hbs (hW2 ▸ Blk.new wa _ [.int .u64 (k : Int)]) rfl (by intro x hx; simp at hx; omega) (by omega) (by have := HL1.out; omega) (by simp)
    rw [show digs [k] = dig k by simp [digs]] at hc2
    obtain ⟨L2, hL2⟩ : ∃ L2, L2 = L1 ++ dig k := ⟨_, rfl⟩
    rw [← hL2] at hc2
    have hL2l : L2.length ≤ 1020 := by
      have := dig_len (n := k) (by omega)
      have := HL1.out
      rw [hL2, List.length_append]
      omega
    have hT3 : Hid (TOT = L2 ++ rngB 0 got) := Lib.hid (by rw [hT2.out, hL2, List.append_assoc])
    have HC2 := Lib.hid hc2; have HB2 := Lib.hid hB2; have HL2 := Lib.hid hL2l; have HW2 := Lib.hid hW2
    clear hc2 hB2 hL2 hL2l hW2 hbs hT2
    go_wp2_with fail
    rw [← HW2.out]
    refine HC2.out.mono ?_
    rintro e wb ⟨v2, rfl, ho2, hBc⟩
    have hB3 := below_trans HBb.out (below_trans HB2.out hBc)
    have z8 := ((HU1.out.later HB2.out).later hBc).cell_some (i := 8) rfl
    have HO2 := Lib.hid (own_mono ho2 (Nat.le_trans HBb.out.size HB2.out.size)); have HB3 := Lib.hid hB3
    clear ho2 hBc hB3 HC2
    go_wp2_with fail
    go_loopw [0, 5, 7, 28] (fun bv ev _ iv wr => ∃ (j : Nat) (e : Int) (B : List UInt8), j ≤ k ∧ iv = .int .i64 (j : Int) ∧ ev = .int .i64 e ∧ 0 ≤ e ∧ e ≤ 64 ∧ Hid (TOT = B ++ rngB e (got.drop j)) ∧ Hid (mono e (got.drop j)) ∧ Hid (B.length ≤ 1020 + j * 20) ∧ Hid (wr.ownsRow w.heap.size 5 1 bv B.length (B.map ub)) ∧ Hid (Below w.heap.size w wr)) (fun _ _ _ iv _ => k - (intOf iv).toNat)
    case atStart => exact ⟨0, 0, L2, Nat.zero_le _, rfl, rfl, Int.le_refl _, by omega, hT3, HM, Lib.hid (by have := HL2.out; omega), HO2, HB3⟩
    case round =>
      clear HO2 HB3 hT3 z8
      obtain ⟨j, e, B, hj, rfl, rfl, he0, he64, HTT, HMM, HBL, HOB, HBW⟩ := hrel
      by_cases hlt : j < k
      · have ix : (j : Int) < (k : Int) := by omega
        have hjl : j < got.length := by rw [← HK.out]; exact hlt
        have hdrop : got.drop j = got[j] :: got.drop (j + 1) := List.drop_eq_getElem_cons hjl
        have hmm := HMM.out
        have htt := HTT.out
        rw [hdrop] at hmm htt
        obtain ⟨q1, q2, q3, q4⟩ := hmm
        have hrd : Rgs wr (.slice gp got.length gc) got := Rd.below HG.out HBW.out (rd_lt HG.out (fun h => by have h2 := congrArg List.length h; rw [rvs_len, ← HK.out, List.length_nil] at h2; omega))
        obtain ⟨ao', cap', hv, -, hcell⟩ := hrd.cells
        injection hv with hv1 hv2 hv3
        obtain ⟨b, off, hao, hc⟩ := hcell (by omega)
        obtain ⟨c0, c1'⟩ := hc j _ (List.getElem?_eq_getElem hjl)
        subst hv1
        subst hao
        obtain ⟨x, hx⟩ : ∃ x, x = got[j] := ⟨_, rfl⟩
        rw [← hx] at c0 c1' q1 q2 q3 q4 htt
        obtain ⟨x1, x2⟩ := x
        simp only at c0 c1' q1 q2 q3 q4 htt
        obtain ⟨p1, hp1⟩ : ∃ p1 : Nat, x1 - e = (p1 : Int) := ⟨(x1 - e).toNat, by omega⟩
        obtain ⟨p2, hp2⟩ : ∃ p2 : Nat, x2 - x1 = (p2 : Int) := ⟨(x2 - x1).toNat, by omega⟩
        have y1 : IntKind.u64.wrap (x1 - e) = (p1 : Int) := wrap_nat _ _ hp1 (by omega)
        have y2 : IntKind.u64.wrap (x2 - x1) = (p2 : Int) := wrap_nat _ _ hp2 (by omega)
        have htt2 : TOT = (B ++ digs [p1, p2]) ++ rngB x2 (got.drop (j + 1)) := by
          rw [htt]
          show B ++ (dig (x1 - e).toNat ++ (dig (x2 - x1).toNat ++ _)) = _
          rw [show (x1 - e).toNat = p1 by omega, show (x2 - x1).toNat = p2 by omega]
          simp [digs]
        obtain ⟨a3, c3, rfl, -⟩ := own_open HOB.out
        obtain ⟨MB, hMB⟩ : ∃ M, M = B.length := ⟨_, rfl⟩
        obtain ⟨W3, hW3⟩ : ∃ W3, W3 = (wr.alloc (.cells #[.int .i64 x1, .int .i64 x2] 57)).alloc (.cells #[.int .u64 (p1 : Int), .int .u64 (p2 : Int)] 22) := ⟨_, rfl⟩
        have hB4 : Below wr.heap.size wr W3 := hW3 ▸ ((Below.refl _ _).alloc (Nat.le_refl _) _).alloc (by simp) _
        have hg3 : Blk W3 wr.heap.size 57 [.int .i64 x1, .int .i64 x2] := hW3 ▸ (Blk.new wr _ _).alloc _
        have hbk : Blk W3 (wr.heap.size + 1) 22 [.int .u64 (p1 : Int), .int .u64 (p2 : Int)] := by
          have := Blk.new (wr.alloc (.cells #[.int .i64 x1, .int .i64 x2] 57)) 22 [.int .u64 (p1 : Int), .int .u64 (p2 : Int)]
          rw [show (wr.alloc (.cells #[.int .i64 x1, .int .i64 x2] 57)).heap.size = wr.heap.size + 1 by simp] at this
          exact hW3 ▸ this
        have hc3 := numbers_ne (.slice a3 B.length c3) B (wr.heap.size + 1) 2 [p1, p2] W3 (Rd.later (Rd.of_own HOB.out) hB4) hbk rfl (by intro x hx; simp at hx; omega) (by omega) (by have := HBL.out; omega) (by simp)
        have hln : (B ++ digs [p1, p2]).length ≤ 1020 + (j + 1) * 20 := by
          have h1 := digs_len [p1, p2] (by intro x hx; simp at hx; omega)
          have h2 := HBL.out
          rw [List.length_append]
          simp only [List.length_cons, List.length_nil] at h1
          omega
        obtain ⟨B2, hB2⟩ : ∃ B2, B2 = B ++ digs [p1, p2] := ⟨_, rfl⟩
        rw [← hB2] at hc3 htt2 hln
        rw [← hMB] at hc3 ⊢
        have HC3 := Lib.hid hc3; have HB4 := Lib.hid hB4; have HG3 := Lib.hid hg3; have HW3 := Lib.hid hW3; have HT4 := Lib.hid htt2; have HLN := Lib.hid hln; have HM4 := Lib.hid q4
        clear hc3 hB4 hg3 hbk hW3 htt htt2 hln hB2 hx hc hcell hdrop hrd hv2 hv3 q4 hMB hp1 hp2
        go_wp2_with fail
        rw [← HW3.out]
        refine HC3.out.mono ?_
        rintro e' wc ⟨v3, rfl, ho3, hBd⟩
        have g1 := (HG3.out.later hBd).cell_some (i := 1) rfl
        have HO4 := Lib.hid (own_mono ho3 (Nat.le_trans HBW.out.size HB4.out.size)); have HB5 := Lib.hid (below_trans HBW.out (below_trans HB4.out hBd))
        clear ho3 hBd HC3 c0 c1'
        go_wp2_with fail
        go_roundw
        case rel => exact ⟨j + 1, x2, B2, by omega, by go_num, rfl, by omega, by omega, HT4, HM4, HLN, HO4, HB5⟩
        case measure => simp [intOf]; omega
      · obtain rfl : j = k := by omega
        go_wp2_with fail
        go_ret
        refine ⟨_, rfl, ?_, HBW.out⟩
        have h := HTT.out
        rw [HK.out, List.drop_length] at h
        have h2 : TOT = B := by rw [h]; simp [rngB]
        rw [h2]
        exact HOB.out
  · have t1 : ((c : Int) != 0) = true := by simp; omega
    have t2 : ¬ (c : Int) = 0 := by omega
    have hT2 : Hid (TOT = L1) := Lib.hid (by rw [HT.out, if_neg t2, List.append_nil])
    go_wp2_with fail
    go_ret
    refine ⟨_, rfl, ?_, HBb.out⟩
    rw [hT2.out, ← HM1.out]
    exact HO.out
end Go.Proofs.YtghjffgaebnhiaaDoor
end
