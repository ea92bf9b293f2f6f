/- halyardref03.Encode. -/
import Derived.Test.YtghjffgaebnhiaaDoorMRef5
import Derived.Test.YtghjffgaebnhiaaDoorMEnc4
namespace Go.Proofs.YtghjffgaebnhiaaDoor
set_option linter.unusedVariables false
set_option linter.unusedSimpArgs false
open Go.RowKit
/-- append of whatever reads as cells, as an operation with an effect. -/
theorem effAt_app {P : Program} {t e : TypeId} {z : Value} {size bytes : Nat} {w : World} (E : El P t e z size bytes) {o : Oper} {a : Act} {K : Value → World → Prop} (s x : Operand)
    (ho : o.op = .call { callee := .builtin .append, args := #[s, x], argTypes := #[t, t] }) {base : Nat} {v : Value} {n : Nat} {xs : List Value} (hown : w.ownsRow base e size v n xs) (hs : a.eval s = v)
    {u : Value} {m : Nat} {news : List Value} (hr : Rd w u m news) (hx : a.eval x = u) (hl : news.length = m * size) (h1 : ∀ x ∈ news, x.oneCell' = true)
    (hb : (n + m) * bytes ≤ 140737488355328) (hbase : base ≤ w.heap.size)
    (h : ∀ v' w', w'.ownsRow base e size v' (n + m) (xs ++ news) → w.grownBy w' v.ownBlock → K v' w') : effAt P o a w K := by
  obtain ⟨v', w', hrun, h2, h3, h4⟩ := run_app (P := P) E o.type hown hr hl h1 hb hbase
  unfold effAt execOp
  simp only [ho, resolve, invoke, builtin, Sem.run_bind, Sem.run_pure, Result.andThen_ok, List.map_toArray, List.map_cons, List.map_nil, hs, hx]
  rw [hrun]
  exact h v' w' h2 h3
theorem dig_small {n : Nat} (h : n < 128) : dig n = [UInt8.ofNat n] := by
  rw [dig, show n / 128 = 0 by omega, digF_zero, show n % 128 = n by omega]
  rfl
theorem ub_ofNat {n : Nat} (h : n < 256) : ub (UInt8.ofNat n) = .int .u8 (n : Int) := by
  unfold ub
  rw [UInt8.toNat_ofNat', Nat.mod_eq_of_lt (by omega)]
set_option maxHeartbeats 1000000 in
set_option maxRecDepth 100000 in
theorem refEncode_bad (u : UD) (dp gp : Option Addr) (dc gc : Nat) (w : World) (hg : Rgs w (.slice gp u.got.length gc) u.got) (hl : u.got.length ≤ 140737488355328) (hv : ¬ validU u) :
    Calls Tryd.prog 12 #[uv u (.slice dp u.data.length dc) (.slice gp u.got.length gc)] w fun e w' => e = .returned (.tuple #[.slice none 0 0, .int .i64 30]) ∧ Below w.heap.size w w' := by
  have hB0 : ∀ o, Below w.heap.size w (w.alloc o) := fun o => (Below.refl _ _).alloc (Nat.le_refl _) _
  have hc := fun o => refValid_any u dp gp dc gc (w.alloc o) (hg.later (hB0 o)) hl
  simp only [if_neg hv] at hc
  have HC := Lib.hid hc
  clear hc hg hl hv
  obtain ⟨kind, ep, ses, path, idx, cnt, data, code, got⟩ := u
  unfold uv at HC ⊢
  simp only at HC ⊢
  obtain ⟨n, hn⟩ : ∃ n, n = data.length := ⟨_, rfl⟩
  obtain ⟨k, hk⟩ : ∃ k, k = got.length := ⟨_, rfl⟩
  obtain ⟨e1, he1⟩ : ∃ e1, e1 = ep.toNat := ⟨_, rfl⟩
  obtain ⟨e2, he2⟩ : ∃ e2, e2 = ses.toNat := ⟨_, rfl⟩
  rw [← hn, ← hk, ← he1, ← he2] at HC ⊢
  clear hn hk he1 he2
  go_enter Tryd.func12, Tryd.ntmps12
  go_wp2_with fail
  refine (HC.out _).mono ?_
  rintro e w1 ⟨rfl, hB1⟩
  have hB := below_trans (hB0 _) hB1
  clear hB1
  go_wp2_with fail
  go_ret2
  exact ⟨rfl, hB⟩
set_option maxHeartbeats 4000000 in
set_option maxRecDepth 100000 in
theorem refEncode_3 (u : UD) (dp gp : Option Addr) (dc gc : Nat) (w : World) (hk : u.kind = 3) (hgv : Rgs w (.slice gp u.got.length gc) u.got) (hlv : u.got.length ≤ 140737488355328) (hv : validU u)  :
    Calls Tryd.prog 12 #[uv u (.slice dp u.data.length dc) (.slice gp u.got.length gc)] w fun e w' => ∃ v', e = .returned (.tuple #[v', .int .i64 0]) ∧ w'.ownsRow w.heap.size 5 1 v' ((digs [3, u.ep.toNat, u.ses.toNat] ++ ([])) ++ sumB (crcOf (digs [3, u.ep.toNat, u.ses.toNat] ++ ([])))).length (((digs [3, u.ep.toNat, u.ses.toNat] ++ ([])) ++ sumB (crcOf (digs [3, u.ep.toNat, u.ses.toNat] ++ ([])))).map ub) ∧ Below w.heap.size w w' := by
  have hB0 : ∀ o, Below w.heap.size w (w.alloc o) := fun o => (Below.refl _ _).alloc (Nat.le_refl _) _
  have hc := fun o => refValid_any u dp gp dc gc (w.alloc o) (hgv.later (hB0 o)) hlv
  simp only [if_pos hv] at hc
  have HC := Lib.hid hc
  clear hc hgv hlv hv
  obtain ⟨L, hL⟩ : ∃ L, L = digs [3, u.ep.toNat, u.ses.toNat] := ⟨_, rfl⟩
  have hll : L.length ≤ 30 := by
    have h1 := u.ep.toNat_lt
    have h2 := u.ses.toNat_lt
    have := digs_len [3, u.ep.toNat, u.ses.toNat] (by intro x hx; simp at hx; omega)
    simp only [List.length_cons, List.length_nil] at this
    rw [hL]
    omega
  obtain ⟨L2, hL2⟩ : ∃ L2, L2 = L ++ ([]) := ⟨_, rfl⟩
  obtain ⟨L4, hL4⟩ : ∃ L4, L4 = L2 ++ sumB (crcOf L2) := ⟨_, rfl⟩
  rw [← hL, ← hL2, ← hL4]
  have hsl := fun (W : World) (v : Value) (hv : Bs W v L2) (h : L2.length ≤ 100000) => refSeal_any v L2 W hv (by omega)
  simp only [← hL4] at hsl
  obtain ⟨kind, ep, ses, path, idx, cnt, data, code, got⟩ := u
  obtain rfl : kind = 3 := hk
  unfold uv at *
  simp only at *
  obtain ⟨n, hn⟩ : ∃ n, n = data.length := ⟨_, rfl⟩
  obtain ⟨k, hk⟩ : ∃ k, k = got.length := ⟨_, rfl⟩
  obtain ⟨e1, he1⟩ : ∃ e1, e1 = ep.toNat := ⟨_, rfl⟩
  obtain ⟨e2, he2⟩ : ∃ e2, e2 = ses.toNat := ⟨_, rfl⟩
  obtain ⟨M1, hM1⟩ : ∃ M, M = (dig 3).length := ⟨_, rfl⟩
  obtain ⟨D1, hD1⟩ : ∃ D, D = (dig e1).length := ⟨_, rfl⟩
  obtain ⟨D2, hD2⟩ : ∃ D, D = (dig e2).length := ⟨_, rfl⟩
  obtain ⟨M, hM⟩ : ∃ M, M = L.length := ⟨_, rfl⟩
  have HE1 : Hid (e1 < 18446744073709551616) := Lib.hid (by rw [he1]; exact ep.toNat_lt)
  have HE2 : Hid (e2 < 18446744073709551616) := Lib.hid (by rw [he2]; exact ses.toNat_lt)
  have hd0 : M1 ≤ 10 := by rw [hM1]; exact dig_len (by decide)
  have hd1 : D1 ≤ 10 := by rw [hD1]; exact dig_len HE1.out
  have hd2 : D2 ≤ 10 := by rw [hD2]; exact dig_len HE2.out
  have hLe : L = dig 3 ++ dig e1 ++ dig e2 := by rw [hL, he1, he2]; simp [digs]
  have HL : Hid (M = M1 + D1 + D2 ∧ L.map ub = ((dig 3).map ub ++ (dig e1).map ub) ++ (dig e2).map ub) := Lib.hid ⟨by rw [hM, hLe, List.length_append, List.length_append, hM1, hD1, hD2], by rw [hLe, List.map_append, List.map_append]⟩
  have HDL1 : Hid (((dig e1).map ub).length = D1 * 1) := Lib.hid (by rw [List.length_map, hD1, Nat.mul_one])
  have HDL2 : Hid (((dig e2).map ub).length = D2 * 1) := Lib.hid (by rw [List.length_map, hD2, Nat.mul_one])
  have bd1 : (M1 + D1) * 1 ≤ 140737488355328 := by omega
  have bd2 : (M1 + D1 + D2) * 1 ≤ 140737488355328 := by omega
  rw [← hn, ← hk, ← he1, ← he2] at HC ⊢
  have HM1 := Lib.hid hM1; have HD1 := Lib.hid hD1; have HD2 := Lib.hid hD2; have HM := Lib.hid hM; have HN := Lib.hid hn; have HK := Lib.hid hk; have HSL := Lib.hid hsl; have HL2 := Lib.hid hL2
  have hM30 : M ≤ 30 := by rw [hM]; exact hll
  clear hM1 hD1 hD2 hM hn hk he1 he2 hLe hL hL2 hL4 hsl hll
  go_enter Tryd.func12, Tryd.ntmps12
  go_wp2_with fail
  refine (HC.out _).mono ?_
  rintro e w1 ⟨rfl, hB1⟩
  have hb1 : Blk w1 w.heap.size 26 [.int .i64 3, .int .u64 (e1 : Int), .int .u64 (e2 : Int), .int .i64 path, .int .i64 idx, .int .i64 cnt, .slice dp n dc, .int .i64 code, .slice gp k gc] := (Blk.new w _ _).later hB1
  have z0 := hb1.cell_some (i := 0) rfl
  have HB1 := Lib.hid (below_trans (hB0 _) hB1)
  have HU1 := Lib.hid hb1
  clear hB1 hb1 HC hB0
  go_wp2_with fail
  refine (refDigits_any 3 (by decide) w1).mono ?_
  rintro e w2 ⟨v2, rfl, ho2, hB2⟩
  rw [← HM1.out] at ho2
  have HO2 := Lib.hid (own_mono ho2 HB1.out.size)
  obtain ⟨a2, c2, rfl, -⟩ := own_open ho2
  have HB2 := Lib.hid (below_trans HB1.out hB2); have HU2 := Lib.hid (HU1.out.later hB2)
  have z1 := HU2.out.cell_some (i := 1) rfl
  clear ho2 hB2 z0
  go_wp2_with fail
  refine (refDigits_any e1 HE1.out w2).mono ?_
  rintro e w3 ⟨v3, rfl, ho3, hB3⟩
  rw [← HD1.out] at ho3
  obtain ⟨a3, c3, rfl, -⟩ := own_open ho3
  have HR3 := Lib.hid (Rd.of_own ho3)
  have HO3 := Lib.hid (own_later HO2.out hB3); have HB3 := Lib.hid (below_trans HB2.out hB3); have HU3 := Lib.hid (HU2.out.later hB3)
  have hz3 : w.heap.size ≤ w3.heap.size := HB3.out.size
  clear ho3 hB3 z1
  go_wp2_with (first
    | (at_builtin; refine wpList_app El.u8 rfl (.tmp 17) (.tmp 20) rfl HO3.out rfl HR3.out rfl HDL1.out (ub_one _) bd1 hz3 ?_; intro v4 w4 hown4 hgr4 _; go_loud (
        have hu4 := HU3.out.grown hgr4 (own_blk_ne HO3.out HU3.out (by decide))
        have hb4 := HB3.out.grown hgr4 hz3 (fun q hq => (HO3.out.lt q hq).1)
        have z2 := hu4.cell_some (i := 2) rfl
        have hz4 : w.heap.size ≤ w4.heap.size := hb4.size
        obtain ⟨a4, c4, hv4, -⟩ := own_open hown4
        subst hv4); have HO4 := Lib.hid hown4; have HU4 := Lib.hid hu4; have HB4 := Lib.hid hb4; clear hown4 hgr4 hu4 hb4)
    | fail)
  refine (refDigits_any e2 HE2.out w4).mono ?_
  rintro e w5 ⟨v5, rfl, ho5, hB5⟩
  rw [← HD2.out] at ho5
  obtain ⟨a5, c5, rfl, -⟩ := own_open ho5
  have HR5 := Lib.hid (Rd.of_own ho5)
  have HO5 := Lib.hid (own_later HO4.out hB5); have HB5 := Lib.hid (below_trans HB4.out hB5); have HU5 := Lib.hid (HU4.out.later hB5)
  have hz5 : w.heap.size ≤ w5.heap.size := HB5.out.size
  clear ho5 hB5 z2
  go_wp2_with (first
    | (at_builtin; refine wpList_app El.u8 rfl (.tmp 22) (.tmp 25) rfl HO5.out rfl HR5.out rfl HDL2.out (ub_one _) bd2 hz5 ?_; intro v6 w6 hown6 hgr6 _; go_loud (
        have hu6 := HU5.out.grown hgr6 (own_blk_ne HO5.out HU5.out (by decide))
        have hb6 := HB5.out.grown hgr6 hz5 (fun q hq => (HO5.out.lt q hq).1)
        have h6 : w6.ownsRow w.heap.size 5 1 v6 M (L.map ub) := by
          rw [HL.out.1, HL.out.2]
          exact hown6
        have hz6 : w.heap.size ≤ w6.heap.size := hb6.size
        obtain ⟨a6, c6, hv6, -⟩ := own_open h6
        subst hv6
        have z0 := hu6.cell_some (i := 0) rfl
        have z3 := hu6.cell_some (i := 3) rfl
        have z4 := hu6.cell_some (i := 4) rfl
        have z5 := hu6.cell_some (i := 5) rfl
        have z6 := hu6.cell_some (i := 6) rfl
        have z7 := hu6.cell_some (i := 7) rfl
        have z8 := hu6.cell_some (i := 8) rfl); have HO6 := Lib.hid h6; have HU6 := Lib.hid hu6; have HB6 := Lib.hid hb6; clear hown6 hgr6 hu6 hb6 h6)
    | fail)
  have hr6 : Bs w6 (.slice a6 M c6) L2 := by
    rw [HL2.out, List.append_nil]
    show Rd w6 _ L.length _
    rw [← HM.out]
    exact Rd.of_own HO6.out
  refine (HSL.out _ _ hr6 (by rw [HL2.out, List.append_nil, ← HM.out]; omega)).mono ?_
  rintro e w7 ⟨v7, rfl, ho7, hB7⟩
  have HO7 := Lib.hid (own_mono ho7 HB6.out.size); have HB7 := Lib.hid (below_trans HB6.out hB7)
  clear ho7 hB7 hr6
  go_wp2_with fail
  go_ret2
  exact ⟨_, rfl, HO7.out, HB7.out⟩
set_option maxHeartbeats 4000000 in
set_option maxRecDepth 100000 in
theorem refEncode_1 (u : UD) (dp gp : Option Addr) (dc gc : Nat) (w : World) (hk : u.kind = 1) (hgv : Rgs w (.slice gp u.got.length gc) u.got) (hlv : u.got.length ≤ 140737488355328) (hv : validU u) (hd : Bs w (.slice dp u.data.length dc) u.data) (p i c : Nat) (hp : u.path = p) (hi : u.idx = i) (hcn : u.cnt = c) (h64 : p ≤ 64 ∧ i ≤ 64 ∧ c ≤ 64) (hdl : u.data.length ≤ 1024) :
    Calls Tryd.prog 12 #[uv u (.slice dp u.data.length dc) (.slice gp u.got.length gc)] w fun e w' => ∃ v', e = .returned (.tuple #[v', .int .i64 0]) ∧ w'.ownsRow w.heap.size 5 1 v' ((digs [1, u.ep.toNat, u.ses.toNat] ++ (digs [p, i, c] ++ (dig u.data.length ++ u.data))) ++ sumB (crcOf (digs [1, u.ep.toNat, u.ses.toNat] ++ (digs [p, i, c] ++ (dig u.data.length ++ u.data))))).length (((digs [1, u.ep.toNat, u.ses.toNat] ++ (digs [p, i, c] ++ (dig u.data.length ++ u.data))) ++ sumB (crcOf (digs [1, u.ep.toNat, u.ses.toNat] ++ (digs [p, i, c] ++ (dig u.data.length ++ u.data))))).map ub) ∧ Below w.heap.size w w' := by
  have hB0 : ∀ o, Below w.heap.size w (w.alloc o) := fun o => (Below.refl _ _).alloc (Nat.le_refl _) _
  have hc := fun o => refValid_any u dp gp dc gc (w.alloc o) (hgv.later (hB0 o)) hlv
  simp only [if_pos hv] at hc
  have HC := Lib.hid hc
  clear hc hgv hlv hv
  obtain ⟨L, hL⟩ : ∃ L, L = digs [1, u.ep.toNat, u.ses.toNat] := ⟨_, rfl⟩
  have hll : L.length ≤ 30 := by
    have h1 := u.ep.toNat_lt
    have h2 := u.ses.toNat_lt
    have := digs_len [1, u.ep.toNat, u.ses.toNat] (by intro x hx; simp at hx; omega)
    simp only [List.length_cons, List.length_nil] at this
    rw [hL]
    omega
  obtain ⟨L2, hL2⟩ : ∃ L2, L2 = L ++ (digs [p, i, c] ++ (dig u.data.length ++ u.data)) := ⟨_, rfl⟩
  obtain ⟨L4, hL4⟩ : ∃ L4, L4 = L2 ++ sumB (crcOf L2) := ⟨_, rfl⟩
  rw [← hL, ← hL2, ← hL4]
  have hsl := fun (W : World) (v : Value) (hv : Bs W v L2) (h : L2.length ≤ 100000) => refSeal_any v L2 W hv (by omega)
  simp only [← hL4] at hsl
  obtain ⟨kind, ep, ses, path, idx, cnt, data, code, got⟩ := u
  obtain rfl : kind = 1 := hk
  unfold uv at *
  simp only at *
  obtain ⟨n, hn⟩ : ∃ n, n = data.length := ⟨_, rfl⟩
  obtain ⟨k, hk⟩ : ∃ k, k = got.length := ⟨_, rfl⟩
  obtain ⟨e1, he1⟩ : ∃ e1, e1 = ep.toNat := ⟨_, rfl⟩
  obtain ⟨e2, he2⟩ : ∃ e2, e2 = ses.toNat := ⟨_, rfl⟩
  obtain ⟨M1, hM1⟩ : ∃ M, M = (dig 1).length := ⟨_, rfl⟩
  obtain ⟨D1, hD1⟩ : ∃ D, D = (dig e1).length := ⟨_, rfl⟩
  obtain ⟨D2, hD2⟩ : ∃ D, D = (dig e2).length := ⟨_, rfl⟩
  obtain ⟨M, hM⟩ : ∃ M, M = L.length := ⟨_, rfl⟩
  have HE1 : Hid (e1 < 18446744073709551616) := Lib.hid (by rw [he1]; exact ep.toNat_lt)
  have HE2 : Hid (e2 < 18446744073709551616) := Lib.hid (by rw [he2]; exact ses.toNat_lt)
  have hd0 : M1 ≤ 10 := by rw [hM1]; exact dig_len (by decide)
  have hd1 : D1 ≤ 10 := by rw [hD1]; exact dig_len HE1.out
  have hd2 : D2 ≤ 10 := by rw [hD2]; exact dig_len HE2.out
  have hLe : L = dig 1 ++ dig e1 ++ dig e2 := by rw [hL, he1, he2]; simp [digs]
  have HL : Hid (M = M1 + D1 + D2 ∧ L.map ub = ((dig 1).map ub ++ (dig e1).map ub) ++ (dig e2).map ub) := Lib.hid ⟨by rw [hM, hLe, List.length_append, List.length_append, hM1, hD1, hD2], by rw [hLe, List.map_append, List.map_append]⟩
  have HDL1 : Hid (((dig e1).map ub).length = D1 * 1) := Lib.hid (by rw [List.length_map, hD1, Nat.mul_one])
  have HDL2 : Hid (((dig e2).map ub).length = D2 * 1) := Lib.hid (by rw [List.length_map, hD2, Nat.mul_one])
  have bd1 : (M1 + D1) * 1 ≤ 140737488355328 := by omega
  have bd2 : (M1 + D1 + D2) * 1 ≤ 140737488355328 := by omega
  rw [← hn, ← hk, ← he1, ← he2] at HC ⊢
  have HM1 := Lib.hid hM1; have HD1 := Lib.hid hD1; have HD2 := Lib.hid hD2; have HM := Lib.hid hM; have HN := Lib.hid hn; have HK := Lib.hid hk; have HSL := Lib.hid hsl; have HL2 := Lib.hid hL2
  have hM30 : M ≤ 30 := by rw [hM]; exact hll
  subst hp; subst hi; subst hcn
  obtain ⟨L3, hL3⟩ : ∃ L3, L3 = L ++ digs [p, i, c] := ⟨_, rfl⟩
  have hdg : digs [p, i, c] = [UInt8.ofNat p, UInt8.ofNat i, UInt8.ofNat c] := by simp [digs, dig_small (show p < 128 by omega), dig_small (show i < 128 by omega), dig_small (show c < 128 by omega)]
  have HL3 : Hid (L3.length = M + 3 ∧ L3.map ub = L.map ub ++ [.int .u8 (p : Int), .int .u8 (i : Int), .int .u8 (c : Int)]) := Lib.hid ⟨by rw [hL3, hdg, List.length_append, ← hM]; rfl, by rw [hL3, hdg, List.map_append, List.map_cons, List.map_cons, List.map_cons, ub_ofNat (by omega), ub_ofNat (by omega), ub_ofNat (by omega)]; rfl⟩
  have HL23 : Hid (L2 = L3 ++ (dig data.length ++ data)) := Lib.hid (by rw [hL2, hL3, List.append_assoc])
  have y1 : (p : Int) % 256 = (p : Int) := by omega
  have y2 : (i : Int) % 256 = (i : Int) := by omega
  have y3 : (c : Int) % 256 = (c : Int) := by omega
  have HDAT := Lib.hid hd
  have HDLN := Lib.hid hdl
  clear hL3 hdg hd hdl
  clear hM1 hD1 hD2 hM hn hk he1 he2 hLe hL hL2 hL4 hsl hll
  go_enter Tryd.func12, Tryd.ntmps12
  go_wp2_with fail
  refine (HC.out _).mono ?_
  rintro e w1 ⟨rfl, hB1⟩
  have hb1 : Blk w1 w.heap.size 26 [.int .i64 1, .int .u64 (e1 : Int), .int .u64 (e2 : Int), .int .i64 (p : Int), .int .i64 (i : Int), .int .i64 (c : Int), .slice dp n dc, .int .i64 code, .slice gp k gc] := (Blk.new w _ _).later hB1
  have z0 := hb1.cell_some (i := 0) rfl
  have HB1 := Lib.hid (below_trans (hB0 _) hB1)
  have HU1 := Lib.hid hb1
  clear hB1 hb1 HC hB0
  go_wp2_with fail
  refine (refDigits_any 1 (by decide) w1).mono ?_
  rintro e w2 ⟨v2, rfl, ho2, hB2⟩
  rw [← HM1.out] at ho2
  have HO2 := Lib.hid (own_mono ho2 HB1.out.size)
  obtain ⟨a2, c2, rfl, -⟩ := own_open ho2
  have HB2 := Lib.hid (below_trans HB1.out hB2); have HU2 := Lib.hid (HU1.out.later hB2)
  have z1 := HU2.out.cell_some (i := 1) rfl
  clear ho2 hB2 z0
  go_wp2_with fail
  refine (refDigits_any e1 HE1.out w2).mono ?_
  rintro e w3 ⟨v3, rfl, ho3, hB3⟩
  rw [← HD1.out] at ho3
  obtain ⟨a3, c3, rfl, -⟩ := own_open ho3
  have HR3 := Lib.hid (Rd.of_own ho3)
  have HO3 := Lib.hid (own_later HO2.out hB3); have HB3 := Lib.hid (below_trans HB2.out hB3); have HU3 := Lib.hid (HU2.out.later hB3)
  have hz3 : w.heap.size ≤ w3.heap.size := HB3.out.size
  clear ho3 hB3 z1
  go_wp2_with (first
    | (at_builtin; refine wpList_app El.u8 rfl (.tmp 17) (.tmp 20) rfl HO3.out rfl HR3.out rfl HDL1.out (ub_one _) bd1 hz3 ?_; intro v4 w4 hown4 hgr4 _; go_loud (
        have hu4 := HU3.out.grown hgr4 (own_blk_ne HO3.out HU3.out (by decide))
        have hb4 := HB3.out.grown hgr4 hz3 (fun q hq => (HO3.out.lt q hq).1)
        have z2 := hu4.cell_some (i := 2) rfl
        have hz4 : w.heap.size ≤ w4.heap.size := hb4.size
        obtain ⟨a4, c4, hv4, -⟩ := own_open hown4
        subst hv4); have HO4 := Lib.hid hown4; have HU4 := Lib.hid hu4; have HB4 := Lib.hid hb4; clear hown4 hgr4 hu4 hb4)
    | fail)
  refine (refDigits_any e2 HE2.out w4).mono ?_
  rintro e w5 ⟨v5, rfl, ho5, hB5⟩
  rw [← HD2.out] at ho5
  obtain ⟨a5, c5, rfl, -⟩ := own_open ho5
  have HR5 := Lib.hid (Rd.of_own ho5)
  have HO5 := Lib.hid (own_later HO4.out hB5); have HB5 := Lib.hid (below_trans HB4.out hB5); have HU5 := Lib.hid (HU4.out.later hB5)
  have hz5 : w.heap.size ≤ w5.heap.size := HB5.out.size
  clear ho5 hB5 z2
  go_wp2_with (first
    | (at_builtin; refine wpList_app El.u8 rfl (.tmp 22) (.tmp 25) rfl HO5.out rfl HR5.out rfl HDL2.out (ub_one _) bd2 hz5 ?_; intro v6 w6 hown6 hgr6 _; go_loud (
        have hu6 := HU5.out.grown hgr6 (own_blk_ne HO5.out HU5.out (by decide))
        have hb6 := HB5.out.grown hgr6 hz5 (fun q hq => (HO5.out.lt q hq).1)
        have h6 : w6.ownsRow w.heap.size 5 1 v6 M (L.map ub) := by
          rw [HL.out.1, HL.out.2]
          exact hown6
        have hz6 : w.heap.size ≤ w6.heap.size := hb6.size
        obtain ⟨a6, c6, hv6, -⟩ := own_open h6
        subst hv6
        have z0 := hu6.cell_some (i := 0) rfl
        have z3 := hu6.cell_some (i := 3) rfl
        have z4 := hu6.cell_some (i := 4) rfl
        have z5 := hu6.cell_some (i := 5) rfl
        have z6 := hu6.cell_some (i := 6) rfl
        have z7 := hu6.cell_some (i := 7) rfl
        have z8 := hu6.cell_some (i := 8) rfl); have HO6 := Lib.hid h6; have HU6 := Lib.hid hu6; have HB6 := Lib.hid hb6; clear hown6 hgr6 hu6 hb6 h6)
    | (at_builtin; refine wpList_app El.u8 rfl (.tmp 31) (.tmp 41) rfl (HO6.out.alloc _) rfl (Rd.new w6 _ [.int .u8 (p : Int), .int .u8 (i : Int), .int .u8 (c : Int)] 3 (by simp [maxLen])) rfl rfl (by intro x hx; simp at hx; rcases hx with rfl | rfl | rfl <;> rfl) (by omega) (by simp; omega) ?_; intro v7 w7 hown7 hgr7 _; go_loud (
        have hu7 := (HU6.out.alloc (.cells #[.int .u8 (p : Int), .int .u8 (i : Int), .int .u8 (c : Int)] 5)).grown hgr7 (own_blk_ne HO6.out HU6.out (by decide))
        have hb7 := (HB6.out.alloc hz6 (.cells #[.int .u8 (p : Int), .int .u8 (i : Int), .int .u8 (c : Int)] 5)).grown hgr7 (by simp; omega) (fun q hq => (HO6.out.lt q hq).1)
        have hr7 : Bs w7 v7 L3 := by
          show Rd w7 v7 L3.length _
          rw [HL3.out.1, HL3.out.2]
          exact Rd.of_own hown7
        obtain ⟨a7, c7, hv7, -⟩ := own_open hown7
        subst hv7
        have z6 := hu7.cell_some (i := 6) rfl); have HR7 := Lib.hid hr7; have HU7 := Lib.hid hu7; have HB7 := Lib.hid hb7; clear hown7 hgr7 hu7 hb7 hr7)
    | fail)
  have hc8 := refAppendBytes_any (.slice a7 (M + 3) c7) (.slice dp n dc) L3 data w7 HR7.out (by rw [HN.out]; exact Rd.later HDAT.out HB7.out) (by rw [HL3.out.1]; have := HDLN.out; omega)
  rw [← HL23.out] at hc8
  refine hc8.mono ?_
  rintro e w8 ⟨v8, rfl, ho8, hB8⟩
  have HR8 := Lib.hid (bs_own ho8)
  have z0 := (HU7.out.later hB8).cell_some (i := 0) rfl
  have HL2l : Hid (L2.length ≤ 100000) := Lib.hid (by
    have h1 := dig_len (n := data.length) (by have := HDLN.out; omega)
    have h2 := HDLN.out
    rw [HL23.out, List.length_append, List.length_append, HL3.out.1]
    omega)
  obtain ⟨M8, hM8⟩ : ∃ M8, M8 = L2.length := ⟨_, rfl⟩
  rw [← hM8] at ho8
  obtain ⟨a8, c8, rfl, -⟩ := own_open ho8
  have HB8 := Lib.hid (below_trans HB7.out hB8)
  clear ho8 hB8 hM8 hc8
  go_wp2_with fail
  refine (HSL.out _ _ HR8.out HL2l.out).mono ?_
  rintro e w9 ⟨v9, rfl, ho9, hB9⟩
  have HO9 := Lib.hid (own_mono ho9 HB8.out.size); have HB9 := Lib.hid (below_trans HB8.out hB9)
  clear ho9 hB9
  go_wp2_with fail
  go_ret2
  exact ⟨_, rfl, HO9.out, HB9.out⟩
end Go.Proofs.YtghjffgaebnhiaaDoor
