/- pdu: layData, layReport, layCancel. -/
import Derived.Test.YtghjffgaebnhiaaDoorMEnc1
import Derived.Test.YtghjffgaebnhiaaDoorMValidA
import Derived.Test.YtghjffgaebnhiaaDoorMMix
namespace Go.Proofs.YtghjffgaebnhiaaDoor
set_option linter.unusedVariables false
set_option linter.unusedSimpArgs false
open Go.RowKit
set_option maxHeartbeats 2000000 in
set_option maxRecDepth 100000 in
theorem layData_any (v : Value) (l : List UInt8) (u : UD) (dp gp : Option Addr) (dc gc : Nat) (w : World) (hb : Bs w v l) (hd : Bs w (.slice dp u.data.length dc) u.data) (p i c : Nat) (hp : u.path = p) (hi : u.idx = i) (hcn : u.cnt = c) (h64 : p ≤ 64 ∧ i ≤ 64 ∧ c ≤ 64) (hl : l.length ≤ 1000) (hdl : u.data.length ≤ 1024) :
    Calls Tryd.prog 72 #[v, uv u (.slice dp u.data.length dc) (.slice gp u.got.length gc)] w fun e w' => ∃ v', e = .returned v' ∧ w'.ownsRow w.heap.size 5 1 v' (l ++ (digs [p, i, c] ++ (dig u.data.length ++ u.data))).length ((l ++ (digs [p, i, c] ++ (dig u.data.length ++ u.data))).map ub) ∧ Below w.heap.size w w' := by
  obtain ⟨kind, ep, ses, path, idx, cnt, data, code, got⟩ := u
  unfold uv
  simp only at hd hp hi hcn hdl ⊢
  subst hp; subst hi; subst hcn
  obtain ⟨ao, cap, rfl, -⟩ := id hb
  obtain ⟨n, hn⟩ : ∃ n, n = data.length := ⟨_, rfl⟩
  obtain ⟨k, hk⟩ : ∃ k, k = got.length := ⟨_, rfl⟩
  obtain ⟨e1, he1⟩ : ∃ e1, e1 = ep.toNat := ⟨_, rfl⟩
  obtain ⟨e2, he2⟩ : ∃ e2, e2 = ses.toNat := ⟨_, rfl⟩
  obtain ⟨N, hN⟩ : ∃ N, N = l.length := ⟨_, rfl⟩
  obtain ⟨W0, hW0⟩ : ∃ W0, W0 = w.alloc (.cells #[.int .i64 kind, .int .u64 (e1 : Int), .int .u64 (e2 : Int), .int .i64 (p : Int), .int .i64 (i : Int), .int .i64 (c : Int), .slice dp n dc, .int .i64 code, .slice gp k gc] 26) := ⟨_, rfl⟩
  have hB0 : Below w.heap.size w W0 := hW0 ▸ (Below.refl _ _).alloc (Nat.le_refl _) _
  have hU0 : Blk W0 w.heap.size 26 [.int .i64 kind, .int .u64 (e1 : Int), .int .u64 (e2 : Int), .int .i64 (p : Int), .int .i64 (i : Int), .int .i64 (c : Int), .slice dp n dc, .int .i64 code, .slice gp k gc] := hW0 ▸ Blk.new w _ _
  have hbd : Below W0.heap.size W0 W0.drew := (Below.refl _ _).drew
  have hcalls := fun (W : World) (g : Nat) (h : Below W0.heap.size W0 W) (hg : Blk W g 22 [.int .u64 (p : Int), .int .u64 (i : Int), .int .u64 (c : Int)]) => numbers_any (.slice ao N cap) l g 3 [p, i, c] W (by rw [hN]; exact Rd.later (Rd.later hb hB0) h) hg rfl (by intro x hx; simp at hx; omega) (by omega) (by omega)
  have hcalls2 := fun (W : World) (v1 : Value) (h : Below W0.heap.size W0 W) (hv : Bs W v1 (l ++ digs [p, i, c])) => appendBytes_any v1 (.slice dp n dc) (l ++ digs [p, i, c]) data W hv (by rw [hn]; exact Rd.later (Rd.later hd hB0) h) (by
    have h1 := digs_len [p, i, c] (by intro x hx; simp at hx; omega)
    rw [List.length_append]
    simp only [List.length_cons, List.length_nil] at h1
    omega)
  have z3 := hU0.cell_some (i := 3) rfl
  have z4 := hU0.cell_some (i := 4) rfl
  have z5 := hU0.cell_some (i := 5) rfl
  have z6 := hU0.cell_some (i := 6) rfl
  have y6 := (hU0.alloc (.cells #[.int .u64 (p : Int), .int .u64 (i : Int), .int .u64 (c : Int)] 22)).cell_some (i := 6) rfl
  have w1 : IntKind.u64.wrap (p : Int) = (p : Int) := by rw [IntKind.wrap_u64]; omega
  have w2 : IntKind.u64.wrap (i : Int) = (i : Int) := by rw [IntKind.wrap_u64]; omega
  have w3 : IntKind.u64.wrap (c : Int) = (c : Int) := by rw [IntKind.wrap_u64]; omega
  rw [← hn, ← hk, ← he1, ← he2, ← hN]
  obtain ⟨L, hL⟩ : ∃ L, L = l ++ digs [p, i, c] := ⟨_, rfl⟩
  obtain ⟨M, hM⟩ : ∃ M, M = L.length := ⟨_, rfl⟩
  obtain ⟨L2, hL2⟩ : ∃ L2, L2 = L ++ (dig data.length ++ data) := ⟨_, rfl⟩
  obtain ⟨M2, hM2⟩ : ∃ M2, M2 = L2.length := ⟨_, rfl⟩
  simp only [← hL, ← hM] at hcalls
  simp only [← hL, ← hL2, ← hM2] at hcalls2
  have HL2 : Hid (l ++ (digs [p, i, c] ++ (dig n ++ data)) = L2 ∧ M2 = L2.length ∧ M = L.length) := Lib.hid ⟨by rw [hL2, hL, List.append_assoc, hn], hM2, hM⟩
  clear hL hM hL2 hM2
  have HC := Lib.hid hcalls; have HC2 := Lib.hid hcalls2; have HU := Lib.hid hU0; have HB0 := Lib.hid hB0; have HN := Lib.hid hn
  clear hcalls hcalls2 hU0 hb hd hn hk he1 he2 hN hl hdl
  go_enter Tryd.func72, Tryd.ntmps72
  go_wp2_with fail
  rw [← hW0]
  clear hW0
  have HBD := Lib.hid hbd
  clear hbd
  refine region_mix (fun w' => Blk w' w.heap.size 26 [.int .i64 kind, .int .u64 (e1 : Int), .int .u64 (e2 : Int), .int .i64 (p : Int), .int .i64 (i : Int), .int .i64 (c : Int), .slice dp n dc, .int .i64 code, .slice gp k gc]) (fun i => i == 10 || i == 11 || i == 14) [0, 1, 2, 3, 4, 5, 6, 7, 8, 9, 12, 13, 10, 11, 14, 15] (by kernel_rfl) (by kernel_rfl) HU.out.drew ?_
  repeat (first
    | (refine mix_pure rfl rfl (by kernel_rfl) ?_
       apply Exists.intro
       refine ⟨fun w' hw' => ?_, ?_⟩
       · have z3 := hw'.cell_some (i := 3) rfl
         have z4 := hw'.cell_some (i := 4) rfl
         have z5 := hw'.cell_some (i := 5) rfl
         have z6 := hw'.cell_some (i := 6) rfl
         go_simp
         with_reducible rfl
       simp only [Act.put, List.setIfInBounds_toArray, List.set_cons_zero, List.set_cons_succ])
    | fail)
  refine mix_eff rfl rfl (by kernel_rfl) ?_
  unfold effAt
  go_simp
  simp only [effUpon, Act.put, List.setIfInBounds_toArray, List.set_cons_zero, List.set_cons_succ]
  refine ⟨(HU.out.alloc _).drew, ?_⟩
  have hb4 : Below W0.heap.size W0 (W0.alloc (.cells #[.int .u64 (p : Int), .int .u64 (i : Int), .int .u64 (c : Int)] 22)).drew := ((Below.refl _ _).alloc (Nat.le_refl _) _).drew
  have hc4 := HC.out _ W0.heap.size hb4 (Blk.drew (Blk.new W0 _ [.int .u64 (p : Int), .int .u64 (i : Int), .int .u64 (c : Int)]))
  have HC4 := Lib.hid hc4; have HB4 := Lib.hid hb4
  clear hc4 hb4
  refine mix_eff rfl rfl (by kernel_rfl) ?_
  unfold effAt
  go_simp
  simp only [effUpon, Act.put, List.setIfInBounds_toArray, List.set_cons_zero, List.set_cons_succ]
  refine HC4.out.mono ?_
  rintro e w5 ⟨v1, rfl, ho, hB5⟩
  refine ⟨v1, rfl, ?_⟩
  obtain ho := ho.resolve_right (by rintro ⟨h, -⟩; cases h)
  have hb5 : Below W0.heap.size W0 w5 := below_trans HB4.out hB5
  refine ⟨HU.out.later hb5, ?_⟩
  have hr5 : Bs w5 v1 L := by
    show Rd w5 v1 L.length _
    rw [← HL2.out.2.2]
    exact Rd.of_own ho
  obtain ⟨a1, c1, rfl, -⟩ := own_open ho
  have hc5 := HC2.out _ _ hb5 hr5
  have HC5 := Lib.hid hc5; have HB5 := Lib.hid hb5
  clear hc5 hb5 hr5 ho hB5 HC HC2 HC4
  refine mix_eff rfl rfl (by kernel_rfl) ?_
  unfold effAt
  go_simp
  simp only [effUpon, Act.put, List.setIfInBounds_toArray, List.set_cons_zero, List.set_cons_succ]
  refine HC5.out.mono ?_
  rintro e w6 ⟨v2, rfl, ho2, hB6⟩
  refine ⟨v2, rfl, HU.out.later (below_trans HB5.out hB6), ?_⟩
  have HO2 := Lib.hid (own_mono ho2 (Nat.le_trans HB0.out.size HB5.out.size)); have HB6 := Lib.hid (below_trans HB0.out (below_trans HB5.out hB6))
  clear ho2 hB6 HC5
  refine mix_pure rfl rfl (by kernel_rfl) ?_
  apply Exists.intro
  refine ⟨fun w' hw' => ?_, ?_⟩
  · go_simp
    with_reducible rfl
  refine mix_nil ?_
  simp only [List.getElem_toArray, List.getElem_cons_zero, List.getElem_cons_succ, Act.put, List.setIfInBounds_toArray, List.set_cons_zero, List.set_cons_succ]
  go_wp2_with fail
  go_ret
  refine ⟨_, rfl, ?_, HB6.out⟩
  rw [HL2.out.1, ← HL2.out.2.1]
  exact HO2.out
end Go.Proofs.YtghjffgaebnhiaaDoor
