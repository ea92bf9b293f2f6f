/- pdu: layCancel, Encode. -/
import Derived.Test.YtghjffgaebnhiaaDoorMEnc2
namespace Go.Proofs.YtghjffgaebnhiaaDoor
set_option linter.unusedVariables false
set_option linter.unusedSimpArgs false
open Go.RowKit
def bodyU (u : UD) : List UInt8 := if u.kind = 1 then digs [u.path.toNat, u.idx.toNat, u.cnt.toNat] ++ (dig u.data.length ++ u.data) else if u.kind = 2 then layR u else []
def encB (u : UD) : List UInt8 := digs [u.kind.toNat, u.ep.toNat, u.ses.toNat] ++ bodyU u
def encU (u : UD) : List UInt8 := encB u ++ sumB (crcOf (encB u))
set_option maxHeartbeats 1000000 in
set_option maxRecDepth 100000 in
theorem layCancel_any (v : Value) (u : UD) (dp gp : Option Addr) (dc gc : Nat) (w : World) :
    Calls Tryd.prog 78 #[v, uv u (.slice dp u.data.length dc) (.slice gp u.got.length gc)] w fun e w' => e = .returned v ∧ Below w.heap.size w w' := by
  obtain ⟨kind, ep, ses, path, idx, cnt, data, code, got⟩ := u
  unfold uv
  go_enter Tryd.func78, Tryd.ntmps78
  go_wp2_with fail
  go_ret
  exact ⟨rfl, (Below.refl _ _).alloc (Nat.le_refl _) _⟩
theorem layCancel_any' (v : Value) (kind path idx cnt code : Int) (e1 e2 n k : Nat) (dp gp : Option Addr) (dc gc : Nat) (w : World) :
    Calls Tryd.prog 78 #[v, .agg #[.int .i64 kind, .int .u64 (e1 : Int), .int .u64 (e2 : Int), .int .i64 path, .int .i64 idx, .int .i64 cnt, .slice dp n dc, .int .i64 code, .slice gp k gc]] w fun e w' => e = .returned v ∧ Below w.heap.size w w' := by
  go_enter Tryd.func78, Tryd.ntmps78
  go_wp2_with fail
  go_ret
  exact ⟨rfl, (Below.refl _ _).alloc (Nat.le_refl _) _⟩
theorem rngB_len {e : Int} {l : List (Int × Int)} (h : mono e l) (he : 0 ≤ e) : (rngB e l).length ≤ l.length * 20 := by
  induction l generalizing e with
  | nil => simp [rngB]
  | cons g l ih =>
    have h1 := h.1
    have h2 := h.2.1
    have h3 := h.2.2.1
    have h4 := ih h.2.2.2 (by omega)
    have h5 := dig_len (n := (g.1 - e).toNat) (by omega)
    have h6 := dig_len (n := (g.2 - g.1).toNat) (by omega)
    rw [rngB, List.length_append, List.length_append, List.length_cons]
    omega
theorem layR_len (u : UD) (hc0 : 0 ≤ u.code) (hc7 : u.code ≤ 7) (hm : mono 0 u.got) : (layR u).length ≤ 2000 := by
  have h1 := rngB_len hm (by decide)
  have h2 := mono_len hm (by decide)
  have h3 := dig_len (n := u.code.toNat) (by omega)
  have h4 := dig_len (n := u.got.length) (by omega)
  rw [layR]
  split
  · rw [List.length_append, List.length_append]
    omega
  · rw [List.length_append]
    simp
    omega
set_option maxHeartbeats 1000000 in
set_option maxRecDepth 100000 in
theorem encode_bad (u : UD) (dp gp : Option Addr) (dc gc : Nat) (w : World) (hg : Rgs w (.slice gp u.got.length gc) u.got) (hl : u.got.length ≤ 140737488355328) (hv : ¬ validU u) :
    Calls Tryd.prog 11 #[uv u (.slice dp u.data.length dc) (.slice gp u.got.length gc)] w fun e w' => e = .returned (.tuple #[.slice none 0 0, .int .i64 30]) ∧ Below w.heap.size w w' := by
  have hB0 : ∀ o, Below w.heap.size w (w.alloc o) := fun o => (Below.refl _ _).alloc (Nat.le_refl _) _
  have hc := fun o => valid_any u dp gp dc gc (w.alloc o) (hg.later (hB0 o)) hl
  simp only [if_neg hv] at hc
  have HC := Lib.hid hc
  clear hc hg hl hv
  obtain ⟨kind, ep, ses, path, idx, cnt, data, code, got⟩ := u
  unfold uv at HC ⊢
  simp only at HC ⊢
  obtain ⟨n, hn⟩ : ∃ n, n = data.length := ⟨_, rfl⟩
  obtain ⟨k, hk⟩ : ∃ k, k = got.length := ⟨_, rfl⟩
  obtain ⟨e1, he1⟩ : ∃ e1, e1 = ep.toNat := ⟨_, rfl⟩
  obtain ⟨e2, he2⟩ : ∃ e2, e2 = ses.toNat := ⟨_, rfl⟩
  rw [← hn, ← hk, ← he1, ← he2] at HC ⊢
  clear hn hk he1 he2
  go_enter Tryd.func11, Tryd.ntmps11
  go_wp2_with fail
  refine (HC.out _).mono ?_
  rintro e w1 ⟨rfl, hB1⟩
  have hB := below_trans (hB0 _) hB1
  clear hB1
  go_wp2_with fail
  go_ret2
  exact ⟨rfl, hB⟩
set_option maxHeartbeats 4000000 in
set_option maxRecDepth 100000 in
theorem encode_1 (u : UD) (dp gp : Option Addr) (dc gc : Nat) (w : World) (hk : u.kind = 1) (hgv : Rgs w (.slice gp u.got.length gc) u.got) (hlv : u.got.length ≤ 140737488355328) (hv : validU u) (ht : Tab w) (hd : Bs w (.slice dp u.data.length dc) u.data) (p i c : Nat) (hp : u.path = p) (hi : u.idx = i) (hcn : u.cnt = c) (h64 : p ≤ 64 ∧ i ≤ 64 ∧ c ≤ 64) (hdl : u.data.length ≤ 1024) :
    Calls Tryd.prog 11 #[uv u (.slice dp u.data.length dc) (.slice gp u.got.length gc)] w fun e w' => ∃ v', e = .returned (.tuple #[v', .int .i64 0]) ∧ w'.ownsRow w.heap.size 5 1 v' ((digs [1, u.ep.toNat, u.ses.toNat] ++ (digs [p, i, c] ++ (dig u.data.length ++ u.data))) ++ sumB (crcOf (digs [1, u.ep.toNat, u.ses.toNat] ++ (digs [p, i, c] ++ (dig u.data.length ++ u.data))))).length (((digs [1, u.ep.toNat, u.ses.toNat] ++ (digs [p, i, c] ++ (dig u.data.length ++ u.data))) ++ sumB (crcOf (digs [1, u.ep.toNat, u.ses.toNat] ++ (digs [p, i, c] ++ (dig u.data.length ++ u.data))))).map ub) ∧ Below w.heap.size w w' := by
  have hB0 : ∀ o, Below w.heap.size w (w.alloc o) := fun o => (Below.refl _ _).alloc (Nat.le_refl _) _
  have hc := fun o => valid_any u dp gp dc gc (w.alloc o) (hgv.later (hB0 o)) hlv
  simp only [if_pos hv] at hc
  have HC := Lib.hid hc
  clear hc hgv hlv hv
  obtain ⟨L3, hL3⟩ : ∃ L, L = digs [1, u.ep.toNat, u.ses.toNat] := ⟨_, rfl⟩
  have hll : (digs [1, u.ep.toNat, u.ses.toNat]).length ≤ 1000 := by
    have h1 := u.ep.toNat_lt
    have h2 := u.ses.toNat_lt
    have := digs_len [1, u.ep.toNat, u.ses.toNat] (by intro x hx; simp at hx; omega)
    simp only [List.length_cons, List.length_nil] at this
    omega
  obtain ⟨L, hL⟩ : ∃ L : List UInt8, L = L3 := ⟨_, rfl⟩
  obtain ⟨L2, hL2⟩ : ∃ L2, L2 = L ++ (digs [p, i, c] ++ (dig u.data.length ++ u.data)) := ⟨_, rfl⟩
  obtain ⟨L4, hL4⟩ : ∃ L4, L4 = L2 ++ sumB (crcOf L2) := ⟨_, rfl⟩
  rw [← hL3, ← hL, ← hL2, ← hL4]
  subst hL
  have hL2l : L2.length ≤ 100000 := by
    rw [hL2, List.length_append]
    have : (L).length ≤ 1000 := by rw [hL3]; exact hll
    have h1 := digs_len [p, i, c] (by intro x hx; simp at hx; omega)
    have h2 := dig_len (n := u.data.length) (by omega)
    rw [List.length_append, List.length_append]
    simp only [List.length_cons, List.length_nil] at h1
    omega
  have hlay := fun (W : World) (v : Value) (hB : Below w.heap.size w W) (hv : Bs W v L) => layData_any v L u dp gp dc gc W hv (Rd.later hd hB) p i c hp hi hcn h64 (by rw [hL3]; exact hll) hdl
  simp only [← hL2] at hlay
  have hsl := fun (W : World) (v : Value) (hB : Below w.heap.size w W) (hv : Bs W v L2) => seal_any v L2 W hv (ht.later hB) (by omega)
  simp only [← hL4] at hsl
  obtain ⟨kind, ep, ses, path, idx, cnt, data, code, got⟩ := u
  obtain rfl : kind = 1 := hk
  unfold uv at *
  simp only at *
  obtain ⟨n, hn⟩ : ∃ n, n = data.length := ⟨_, rfl⟩
  obtain ⟨k, hk⟩ : ∃ k, k = got.length := ⟨_, rfl⟩
  obtain ⟨e1, he1⟩ : ∃ e1, e1 = ep.toNat := ⟨_, rfl⟩
  obtain ⟨e2, he2⟩ : ∃ e2, e2 = ses.toNat := ⟨_, rfl⟩
  have hnum := fun (W : World) (g : Nat) (hg : Blk W g 22 [.int .u64 (1 : Int), .int .u64 (e1 : Int), .int .u64 (e2 : Int)]) => numbers_ne (.slice none 0 0) [] g 3 [1, e1, e2] W (Rd.nil W) hg rfl (by have h1 := ep.toNat_lt; have h2 := ses.toNat_lt; intro x hx; simp at hx; omega) (by omega) (by simp) (by simp)
  simp only [List.nil_append] at hnum
  rw [he1, he2, ← hL3] at hnum
  rw [← he1, ← he2] at hnum
  obtain ⟨M, hM⟩ : ∃ M, M = L.length := ⟨_, rfl⟩
  rw [← hM] at hnum
  rw [← hn, ← hk, ← he1, ← he2] at HC ⊢
  rw [← hn, ← hk, ← he1, ← he2] at hlay
  have HLAY := Lib.hid hlay
  clear hlay
  have HSL := Lib.hid hsl; have HNUM := Lib.hid hnum; have HM := Lib.hid hM
  clear hsl hnum hM hn hk he1 he2 hL3 hll hL2 hL4 hL2l ht
  clear hd hp hi hcn h64 hdl
  have hfld : ∀ W, (Instr.field 69 (.agg #[.func (.func 71) #[] #[], .func (.func 72) #[] #[], .func (.func 73) #[] #[]]) 1).run Tryd.prog W = .ok (.func (.func 72) #[] #[]) W := fun W => by kernel_rfl
  go_enter Tryd.func11, Tryd.ntmps11
  go_wp2_with fail
  refine (HC.out _).mono ?_
  rintro e w1 ⟨rfl, hB1⟩
  have hb1 : Blk w1 w.heap.size 26 [.int .i64 1, .int .u64 (e1 : Int), .int .u64 (e2 : Int), .int .i64 path, .int .i64 idx, .int .i64 cnt, .slice dp n dc, .int .i64 code, .slice gp k gc] := (Blk.new w _ _).later hB1
  have z0 := hb1.cell_some (i := 0) rfl
  have z1 := hb1.cell_some (i := 1) rfl
  have z2 := hb1.cell_some (i := 2) rfl
  have HB1 := Lib.hid (below_trans (hB0 _) hB1)
  have HU1 := Lib.hid hb1
  clear hB1 hb1 HC hB0
  go_wp2_with fail
  obtain ⟨W2, hW2⟩ : ∃ W2, W2 = w1.alloc (.cells #[.int .u64 (1 : Int), .int .u64 (e1 : Int), .int .u64 (e2 : Int)] 22) := ⟨_, rfl⟩
  have hB2 : Below w1.heap.size w1 W2 := hW2 ▸ (Below.refl _ _).alloc (Nat.le_refl _) _
  have hbk : Blk W2 w1.heap.size 22 [.int .u64 (1 : Int), .int .u64 (e1 : Int), .int .u64 (e2 : Int)] := hW2 ▸ Blk.new w1 _ _
  rw [← hW2]
  have HN2 := HNUM.out _ _ hbk
  have HB2 := Lib.hid hB2
  clear hW2 hbk hB2 HNUM
  refine HN2.mono ?_
  rintro e w3 ⟨v3, rfl, ho3, hB3⟩
  have hB4 := below_trans HB1.out (below_trans HB2.out hB3)
  have hu3 := (HU1.out.later HB2.out).later hB3
  have hr3 : Bs w3 v3 L := by
    show Rd w3 v3 L.length _
    rw [← HM.out]
    exact Rd.of_own ho3
  have hz3 := HB2.out.size
  have HO3 := Lib.hid (own_mono ho3 (Nat.le_trans HB1.out.size HB2.out.size))
  obtain ⟨a3, c3, rfl, -⟩ := own_open ho3
  have HB4 := Lib.hid hB4; have HU3 := Lib.hid hu3; have HR3 := Lib.hid hr3
  clear ho3 hB3 hB4 hu3 hr3 HN2 z0 z1 z2 hz3
  go_wp2_with fail
  refine region_mix (fun w' => Blk w' w.heap.size 26 [.int .i64 1, .int .u64 (e1 : Int), .int .u64 (e2 : Int), .int .i64 path, .int .i64 idx, .int .i64 cnt, .slice dp n dc, .int .i64 code, .slice gp k gc]) (fun i => i == 2 || i == 6 || i == 7) [0, 1, 4, 5, 2, 3, 6, 7, 8, 9] (by kernel_rfl) (by kernel_rfl) HU3.out.drew ?_
  refine mix_pure rfl rfl (by kernel_rfl) ?_
  apply Exists.intro
  refine ⟨fun w' hw' => ?_, ?_⟩
  · have z0 := hw'.cell_some (i := 0) rfl
    have z1 := hw'.cell_some (i := 1) rfl
    have z2 := hw'.cell_some (i := 2) rfl
    have z3 := hw'.cell_some (i := 3) rfl
    have z4 := hw'.cell_some (i := 4) rfl
    have z5 := hw'.cell_some (i := 5) rfl
    have z6 := hw'.cell_some (i := 6) rfl
    have z7 := hw'.cell_some (i := 7) rfl
    have z8 := hw'.cell_some (i := 8) rfl
    go_simp
    with_reducible rfl
  simp only [List.getElem_toArray, List.getElem_cons_zero, List.getElem_cons_succ, Act.put, List.setIfInBounds_toArray, List.set_cons_zero, List.set_cons_succ]
  refine mix_pure rfl rfl (by kernel_rfl) ?_
  apply Exists.intro
  refine ⟨fun w' hw' => ?_, ?_⟩
  · have z0 := hw'.cell_some (i := 0) rfl
    have z1 := hw'.cell_some (i := 1) rfl
    have z2 := hw'.cell_some (i := 2) rfl
    have z3 := hw'.cell_some (i := 3) rfl
    have z4 := hw'.cell_some (i := 4) rfl
    have z5 := hw'.cell_some (i := 5) rfl
    have z6 := hw'.cell_some (i := 6) rfl
    have z7 := hw'.cell_some (i := 7) rfl
    have z8 := hw'.cell_some (i := 8) rfl
    go_simp
    with_reducible rfl
  simp only [List.getElem_toArray, List.getElem_cons_zero, List.getElem_cons_succ, Act.put, List.setIfInBounds_toArray, List.set_cons_zero, List.set_cons_succ]
  refine mix_pure rfl rfl (by kernel_rfl) ?_
  apply Exists.intro
  refine ⟨fun w' hw' => ?_, ?_⟩
  · have z0 := hw'.cell_some (i := 0) rfl
    have z1 := hw'.cell_some (i := 1) rfl
    have z2 := hw'.cell_some (i := 2) rfl
    have z3 := hw'.cell_some (i := 3) rfl
    have z4 := hw'.cell_some (i := 4) rfl
    have z5 := hw'.cell_some (i := 5) rfl
    have z6 := hw'.cell_some (i := 6) rfl
    have z7 := hw'.cell_some (i := 7) rfl
    have z8 := hw'.cell_some (i := 8) rfl
    go_simp
    with_reducible rfl
  simp only [List.getElem_toArray, List.getElem_cons_zero, List.getElem_cons_succ, Act.put, List.setIfInBounds_toArray, List.set_cons_zero, List.set_cons_succ]
  refine mix_pure rfl rfl (by kernel_rfl) ?_
  apply Exists.intro
  refine ⟨fun w' hw' => ?_, ?_⟩
  · have z0 := hw'.cell_some (i := 0) rfl
    have z1 := hw'.cell_some (i := 1) rfl
    have z2 := hw'.cell_some (i := 2) rfl
    have z3 := hw'.cell_some (i := 3) rfl
    have z4 := hw'.cell_some (i := 4) rfl
    have z5 := hw'.cell_some (i := 5) rfl
    have z6 := hw'.cell_some (i := 6) rfl
    have z7 := hw'.cell_some (i := 7) rfl
    have z8 := hw'.cell_some (i := 8) rfl
    go_simp
    with_reducible rfl
  simp only [List.getElem_toArray, List.getElem_cons_zero, List.getElem_cons_succ, Act.put, List.setIfInBounds_toArray, List.set_cons_zero, List.set_cons_succ]
  refine mix_eff rfl rfl (by kernel_rfl) ?_
  unfold effAt
  go_simp
  simp only [effUpon, List.getElem_toArray, List.getElem_cons_zero, List.getElem_cons_succ, Act.put, List.setIfInBounds_toArray, List.set_cons_zero, List.set_cons_succ]
  refine (forms_1 _).mono ?_
  rintro e w5 ⟨rfl, hB5⟩
  have HB5 := Lib.hid (below_trans HB4.out ((Below.refl _ _).drew.trans hB5))
  have HB35 := Lib.hid ((Below.refl w3.heap.size w3).drew.trans hB5)
  have HU5 := Lib.hid (HU3.out.later HB35.out)
  refine ⟨_, rfl, HU5.out, ?_⟩
  clear hB5
  refine mix_pure rfl rfl (by kernel_rfl) ?_
  apply Exists.intro
  refine ⟨fun w' hw' => ?_, ?_⟩
  · have z0 := hw'.cell_some (i := 0) rfl
    have z1 := hw'.cell_some (i := 1) rfl
    have z2 := hw'.cell_some (i := 2) rfl
    have z3 := hw'.cell_some (i := 3) rfl
    have z4 := hw'.cell_some (i := 4) rfl
    have z5 := hw'.cell_some (i := 5) rfl
    have z6 := hw'.cell_some (i := 6) rfl
    have z7 := hw'.cell_some (i := 7) rfl
    have z8 := hw'.cell_some (i := 8) rfl
    go_simp
    with_reducible rfl
  simp only [List.getElem_toArray, List.getElem_cons_zero, List.getElem_cons_succ, Act.put, List.setIfInBounds_toArray, List.set_cons_zero, List.set_cons_succ]
  refine mix_eff rfl rfl (by kernel_rfl) ?_
  unfold effAt
  go_simp
  simp only [effUpon, List.getElem_toArray, List.getElem_cons_zero, List.getElem_cons_succ, Act.put, List.setIfInBounds_toArray, List.set_cons_zero, List.set_cons_succ]
  refine (HLAY.out _ _ HB5.out (Rd.later HR3.out HB35.out)).mono ?_
  rintro e w6 ⟨v6, rfl, ho6, hB6⟩
  have HR6 := Lib.hid (Rd.of_own ho6)
  obtain ⟨a6, c6, rfl, -⟩ := own_open ho6
  have HB6 := Lib.hid (below_trans HB5.out hB6)
  have HU6 := Lib.hid (HU5.out.later hB6)
  refine ⟨_, rfl, HU6.out, ?_⟩
  clear hB6
  refine mix_eff rfl rfl (by kernel_rfl) ?_
  unfold effAt
  go_simp
  simp only [effUpon, List.getElem_toArray, List.getElem_cons_zero, List.getElem_cons_succ, Act.put, List.setIfInBounds_toArray, List.set_cons_zero, List.set_cons_succ]
  refine (HSL.out _ _ HB6.out HR6.out).mono ?_
  rintro e w7 ⟨v7, rfl, ho7, hB7⟩
  have HO7 := Lib.hid (own_mono ho7 HB6.out.size)
  have HB7 := Lib.hid (below_trans HB6.out hB7)
  refine ⟨_, rfl, HU6.out.later hB7, ?_⟩
  clear hB7 ho7
  refine mix_pure rfl rfl (by kernel_rfl) ?_
  apply Exists.intro
  refine ⟨fun w' hw' => ?_, ?_⟩
  · have z0 := hw'.cell_some (i := 0) rfl
    have z1 := hw'.cell_some (i := 1) rfl
    have z2 := hw'.cell_some (i := 2) rfl
    have z3 := hw'.cell_some (i := 3) rfl
    have z4 := hw'.cell_some (i := 4) rfl
    have z5 := hw'.cell_some (i := 5) rfl
    have z6 := hw'.cell_some (i := 6) rfl
    have z7 := hw'.cell_some (i := 7) rfl
    have z8 := hw'.cell_some (i := 8) rfl
    go_simp
    with_reducible rfl
  simp only [List.getElem_toArray, List.getElem_cons_zero, List.getElem_cons_succ, Act.put, List.setIfInBounds_toArray, List.set_cons_zero, List.set_cons_succ]
  refine mix_pure rfl rfl (by kernel_rfl) ?_
  apply Exists.intro
  refine ⟨fun w' hw' => ?_, ?_⟩
  · have z0 := hw'.cell_some (i := 0) rfl
    have z1 := hw'.cell_some (i := 1) rfl
    have z2 := hw'.cell_some (i := 2) rfl
    have z3 := hw'.cell_some (i := 3) rfl
    have z4 := hw'.cell_some (i := 4) rfl
    have z5 := hw'.cell_some (i := 5) rfl
    have z6 := hw'.cell_some (i := 6) rfl
    have z7 := hw'.cell_some (i := 7) rfl
    have z8 := hw'.cell_some (i := 8) rfl
    go_simp
    with_reducible rfl
  simp only [List.getElem_toArray, List.getElem_cons_zero, List.getElem_cons_succ, Act.put, List.setIfInBounds_toArray, List.set_cons_zero, List.set_cons_succ]
  refine mix_nil ?_
  go_wp2_with fail
  go_ret2
  exact ⟨_, rfl, HO7.out, HB7.out⟩
set_option maxHeartbeats 4000000 in
set_option maxRecDepth 100000 in
theorem encode_2 (u : UD) (dp gp : Option Addr) (dc gc : Nat) (w : World) (hk : u.kind = 2) (hgv : Rgs w (.slice gp u.got.length gc) u.got) (hlv : u.got.length ≤ 140737488355328) (hv : validU u) (ht : Tab w) (hg : Rgs w (.slice gp u.got.length gc) u.got) (hc0 : 0 ≤ u.code) (hc7 : u.code ≤ 7) (hm : mono 0 u.got) :
    Calls Tryd.prog 11 #[uv u (.slice dp u.data.length dc) (.slice gp u.got.length gc)] w fun e w' => ∃ v', e = .returned (.tuple #[v', .int .i64 0]) ∧ w'.ownsRow w.heap.size 5 1 v' ((digs [2, u.ep.toNat, u.ses.toNat] ++ (layR u)) ++ sumB (crcOf (digs [2, u.ep.toNat, u.ses.toNat] ++ (layR u)))).length (((digs [2, u.ep.toNat, u.ses.toNat] ++ (layR u)) ++ sumB (crcOf (digs [2, u.ep.toNat, u.ses.toNat] ++ (layR u)))).map ub) ∧ Below w.heap.size w w' := by
  have hB0 : ∀ o, Below w.heap.size w (w.alloc o) := fun o => (Below.refl _ _).alloc (Nat.le_refl _) _
  have hc := fun o => valid_any u dp gp dc gc (w.alloc o) (hgv.later (hB0 o)) hlv
  simp only [if_pos hv] at hc
  have HC := Lib.hid hc
  clear hc hgv hlv hv
  obtain ⟨L3, hL3⟩ : ∃ L, L = digs [2, u.ep.toNat, u.ses.toNat] := ⟨_, rfl⟩
  have hll : (digs [2, u.ep.toNat, u.ses.toNat]).length ≤ 1000 := by
    have h1 := u.ep.toNat_lt
    have h2 := u.ses.toNat_lt
    have := digs_len [2, u.ep.toNat, u.ses.toNat] (by intro x hx; simp at hx; omega)
    simp only [List.length_cons, List.length_nil] at this
    omega
  obtain ⟨L, hL⟩ : ∃ L : List UInt8, L = L3 := ⟨_, rfl⟩
  obtain ⟨L2, hL2⟩ : ∃ L2, L2 = L ++ (layR u) := ⟨_, rfl⟩
  obtain ⟨L4, hL4⟩ : ∃ L4, L4 = L2 ++ sumB (crcOf L2) := ⟨_, rfl⟩
  rw [← hL3, ← hL, ← hL2, ← hL4]
  subst hL
  have hL2l : L2.length ≤ 100000 := by
    rw [hL2, List.length_append]
    have : (L).length ≤ 1000 := by rw [hL3]; exact hll
    have h1 := layR_len u hc0 hc7 hm
    omega
  have hlay := fun (W : World) (v : Value) (hB : Below w.heap.size w W) (hv : Bs W v L) => layReport_any v L u dp gp dc gc W hv (hg.later hB) hc0 hc7 hm (by rw [hL3]; exact hll)
  simp only [← hL2] at hlay
  have hsl := fun (W : World) (v : Value) (hB : Below w.heap.size w W) (hv : Bs W v L2) => seal_any v L2 W hv (ht.later hB) (by omega)
  simp only [← hL4] at hsl
  obtain ⟨kind, ep, ses, path, idx, cnt, data, code, got⟩ := u
  obtain rfl : kind = 2 := hk
  unfold uv at *
  simp only at *
  obtain ⟨n, hn⟩ : ∃ n, n = data.length := ⟨_, rfl⟩
  obtain ⟨k, hk⟩ : ∃ k, k = got.length := ⟨_, rfl⟩
  obtain ⟨e1, he1⟩ : ∃ e1, e1 = ep.toNat := ⟨_, rfl⟩
  obtain ⟨e2, he2⟩ : ∃ e2, e2 = ses.toNat := ⟨_, rfl⟩
  have hnum := fun (W : World) (g : Nat) (hg : Blk W g 22 [.int .u64 (2 : Int), .int .u64 (e1 : Int), .int .u64 (e2 : Int)]) => numbers_ne (.slice none 0 0) [] g 3 [2, e1, e2] W (Rd.nil W) hg rfl (by have h1 := ep.toNat_lt; have h2 := ses.toNat_lt; intro x hx; simp at hx; omega) (by omega) (by simp) (by simp)
  simp only [List.nil_append] at hnum
  rw [he1, he2, ← hL3] at hnum
  rw [← he1, ← he2] at hnum
  obtain ⟨M, hM⟩ : ∃ M, M = L.length := ⟨_, rfl⟩
  rw [← hM] at hnum
  rw [← hn, ← hk, ← he1, ← he2] at HC ⊢
  rw [← hn, ← hk, ← he1, ← he2] at hlay
  have HLAY := Lib.hid hlay
  clear hlay
  have HSL := Lib.hid hsl; have HNUM := Lib.hid hnum; have HM := Lib.hid hM
  clear hsl hnum hM hn hk he1 he2 hL3 hll hL2 hL4 hL2l ht
  clear hg hm
  have hfld : ∀ W, (Instr.field 69 (.agg #[.func (.func 74) #[] #[], .func (.func 75) #[] #[], .func (.func 76) #[] #[]]) 1).run Tryd.prog W = .ok (.func (.func 75) #[] #[]) W := fun W => by kernel_rfl
  go_enter Tryd.func11, Tryd.ntmps11
  go_wp2_with fail
  refine (HC.out _).mono ?_
  rintro e w1 ⟨rfl, hB1⟩
  have hb1 : Blk w1 w.heap.size 26 [.int .i64 2, .int .u64 (e1 : Int), .int .u64 (e2 : Int), .int .i64 path, .int .i64 idx, .int .i64 cnt, .slice dp n dc, .int .i64 code, .slice gp k gc] := (Blk.new w _ _).later hB1
  have z0 := hb1.cell_some (i := 0) rfl
  have z1 := hb1.cell_some (i := 1) rfl
  have z2 := hb1.cell_some (i := 2) rfl
  have HB1 := Lib.hid (below_trans (hB0 _) hB1)
  have HU1 := Lib.hid hb1
  clear hB1 hb1 HC hB0
  go_wp2_with fail
  obtain ⟨W2, hW2⟩ : ∃ W2, W2 = w1.alloc (.cells #[.int .u64 (2 : Int), .int .u64 (e1 : Int), .int .u64 (e2 : Int)] 22) := ⟨_, rfl⟩
  have hB2 : Below w1.heap.size w1 W2 := hW2 ▸ (Below.refl _ _).alloc (Nat.le_refl _) _
  have hbk : Blk W2 w1.heap.size 22 [.int .u64 (2 : Int), .int .u64 (e1 : Int), .int .u64 (e2 : Int)] := hW2 ▸ Blk.new w1 _ _
  rw [← hW2]
  have HN2 := HNUM.out _ _ hbk
  have HB2 := Lib.hid hB2
  clear hW2 hbk hB2 HNUM
  refine HN2.mono ?_
  rintro e w3 ⟨v3, rfl, ho3, hB3⟩
  have hB4 := below_trans HB1.out (below_trans HB2.out hB3)
  have hu3 := (HU1.out.later HB2.out).later hB3
  have hr3 : Bs w3 v3 L := by
    show Rd w3 v3 L.length _
    rw [← HM.out]
    exact Rd.of_own ho3
  have hz3 := HB2.out.size
  have HO3 := Lib.hid (own_mono ho3 (Nat.le_trans HB1.out.size HB2.out.size))
  obtain ⟨a3, c3, rfl, -⟩ := own_open ho3
  have HB4 := Lib.hid hB4; have HU3 := Lib.hid hu3; have HR3 := Lib.hid hr3
  clear ho3 hB3 hB4 hu3 hr3 HN2 z0 z1 z2 hz3
  go_wp2_with fail
  refine region_mix (fun w' => Blk w' w.heap.size 26 [.int .i64 2, .int .u64 (e1 : Int), .int .u64 (e2 : Int), .int .i64 path, .int .i64 idx, .int .i64 cnt, .slice dp n dc, .int .i64 code, .slice gp k gc]) (fun i => i == 2 || i == 6 || i == 7) [0, 1, 4, 5, 2, 3, 6, 7, 8, 9] (by kernel_rfl) (by kernel_rfl) HU3.out.drew ?_
  refine mix_pure rfl rfl (by kernel_rfl) ?_
  apply Exists.intro
  refine ⟨fun w' hw' => ?_, ?_⟩
  · have z0 := hw'.cell_some (i := 0) rfl
    have z1 := hw'.cell_some (i := 1) rfl
    have z2 := hw'.cell_some (i := 2) rfl
    have z3 := hw'.cell_some (i := 3) rfl
    have z4 := hw'.cell_some (i := 4) rfl
    have z5 := hw'.cell_some (i := 5) rfl
    have z6 := hw'.cell_some (i := 6) rfl
    have z7 := hw'.cell_some (i := 7) rfl
    have z8 := hw'.cell_some (i := 8) rfl
    go_simp
    with_reducible rfl
  simp only [List.getElem_toArray, List.getElem_cons_zero, List.getElem_cons_succ, Act.put, List.setIfInBounds_toArray, List.set_cons_zero, List.set_cons_succ]
  refine mix_pure rfl rfl (by kernel_rfl) ?_
  apply Exists.intro
  refine ⟨fun w' hw' => ?_, ?_⟩
  · have z0 := hw'.cell_some (i := 0) rfl
    have z1 := hw'.cell_some (i := 1) rfl
    have z2 := hw'.cell_some (i := 2) rfl
    have z3 := hw'.cell_some (i := 3) rfl
    have z4 := hw'.cell_some (i := 4) rfl
    have z5 := hw'.cell_some (i := 5) rfl
    have z6 := hw'.cell_some (i := 6) rfl
    have z7 := hw'.cell_some (i := 7) rfl
    have z8 := hw'.cell_some (i := 8) rfl
    go_simp
    with_reducible rfl
  simp only [List.getElem_toArray, List.getElem_cons_zero, List.getElem_cons_succ, Act.put, List.setIfInBounds_toArray, List.set_cons_zero, List.set_cons_succ]
  refine mix_pure rfl rfl (by kernel_rfl) ?_
  apply Exists.intro
  refine ⟨fun w' hw' => ?_, ?_⟩
  · have z0 := hw'.cell_some (i := 0) rfl
    have z1 := hw'.cell_some (i := 1) rfl
    have z2 := hw'.cell_some (i := 2) rfl
    have z3 := hw'.cell_some (i := 3) rfl
    have z4 := hw'.cell_some (i := 4) rfl
    have z5 := hw'.cell_some (i := 5) rfl
    have z6 := hw'.cell_some (i := 6) rfl
    have z7 := hw'.cell_some (i := 7) rfl
    have z8 := hw'.cell_some (i := 8) rfl
    go_simp
    with_reducible rfl
  simp only [List.getElem_toArray, List.getElem_cons_zero, List.getElem_cons_succ, Act.put, List.setIfInBounds_toArray, List.set_cons_zero, List.set_cons_succ]
  refine mix_pure rfl rfl (by kernel_rfl) ?_
  apply Exists.intro
  refine ⟨fun w' hw' => ?_, ?_⟩
  · have z0 := hw'.cell_some (i := 0) rfl
    have z1 := hw'.cell_some (i := 1) rfl
    have z2 := hw'.cell_some (i := 2) rfl
    have z3 := hw'.cell_some (i := 3) rfl
    have z4 := hw'.cell_some (i := 4) rfl
    have z5 := hw'.cell_some (i := 5) rfl
    have z6 := hw'.cell_some (i := 6) rfl
    have z7 := hw'.cell_some (i := 7) rfl
    have z8 := hw'.cell_some (i := 8) rfl
    go_simp
    with_reducible rfl
  simp only [List.getElem_toArray, List.getElem_cons_zero, List.getElem_cons_succ, Act.put, List.setIfInBounds_toArray, List.set_cons_zero, List.set_cons_succ]
  refine mix_eff rfl rfl (by kernel_rfl) ?_
  unfold effAt
  go_simp
  simp only [effUpon, List.getElem_toArray, List.getElem_cons_zero, List.getElem_cons_succ, Act.put, List.setIfInBounds_toArray, List.set_cons_zero, List.set_cons_succ]
  refine (forms_2 _).mono ?_
  rintro e w5 ⟨rfl, hB5⟩
  have HB5 := Lib.hid (below_trans HB4.out ((Below.refl _ _).drew.trans hB5))
  have HB35 := Lib.hid ((Below.refl w3.heap.size w3).drew.trans hB5)
  have HU5 := Lib.hid (HU3.out.later HB35.out)
  refine ⟨_, rfl, HU5.out, ?_⟩
  clear hB5
  refine mix_pure rfl rfl (by kernel_rfl) ?_
  apply Exists.intro
  refine ⟨fun w' hw' => ?_, ?_⟩
  · have z0 := hw'.cell_some (i := 0) rfl
    have z1 := hw'.cell_some (i := 1) rfl
    have z2 := hw'.cell_some (i := 2) rfl
    have z3 := hw'.cell_some (i := 3) rfl
    have z4 := hw'.cell_some (i := 4) rfl
    have z5 := hw'.cell_some (i := 5) rfl
    have z6 := hw'.cell_some (i := 6) rfl
    have z7 := hw'.cell_some (i := 7) rfl
    have z8 := hw'.cell_some (i := 8) rfl
    go_simp
    with_reducible rfl
  simp only [List.getElem_toArray, List.getElem_cons_zero, List.getElem_cons_succ, Act.put, List.setIfInBounds_toArray, List.set_cons_zero, List.set_cons_succ]
  refine mix_eff rfl rfl (by kernel_rfl) ?_
  unfold effAt
  go_simp
  simp only [effUpon, List.getElem_toArray, List.getElem_cons_zero, List.getElem_cons_succ, Act.put, List.setIfInBounds_toArray, List.set_cons_zero, List.set_cons_succ]
  refine (HLAY.out _ _ HB5.out (Rd.later HR3.out HB35.out)).mono ?_
  rintro e w6 ⟨v6, rfl, ho6, hB6⟩
  have HR6 := Lib.hid (Rd.of_own ho6)
  obtain ⟨a6, c6, rfl, -⟩ := own_open ho6
  have HB6 := Lib.hid (below_trans HB5.out hB6)
  have HU6 := Lib.hid (HU5.out.later hB6)
  refine ⟨_, rfl, HU6.out, ?_⟩
  clear hB6
  refine mix_eff rfl rfl (by kernel_rfl) ?_
  unfold effAt
  go_simp
  simp only [effUpon, List.getElem_toArray, List.getElem_cons_zero, List.getElem_cons_succ, Act.put, List.setIfInBounds_toArray, List.set_cons_zero, List.set_cons_succ]
  refine (HSL.out _ _ HB6.out HR6.out).mono ?_
  rintro e w7 ⟨v7, rfl, ho7, hB7⟩
  have HO7 := Lib.hid (own_mono ho7 HB6.out.size)
  have HB7 := Lib.hid (below_trans HB6.out hB7)
  refine ⟨_, rfl, HU6.out.later hB7, ?_⟩
  clear hB7 ho7
  refine mix_pure rfl rfl (by kernel_rfl) ?_
  apply Exists.intro
  refine ⟨fun w' hw' => ?_, ?_⟩
  · have z0 := hw'.cell_some (i := 0) rfl
    have z1 := hw'.cell_some (i := 1) rfl
    have z2 := hw'.cell_some (i := 2) rfl
    have z3 := hw'.cell_some (i := 3) rfl
    have z4 := hw'.cell_some (i := 4) rfl
    have z5 := hw'.cell_some (i := 5) rfl
    have z6 := hw'.cell_some (i := 6) rfl
    have z7 := hw'.cell_some (i := 7) rfl
    have z8 := hw'.cell_some (i := 8) rfl
    go_simp
    with_reducible rfl
  simp only [List.getElem_toArray, List.getElem_cons_zero, List.getElem_cons_succ, Act.put, List.setIfInBounds_toArray, List.set_cons_zero, List.set_cons_succ]
  refine mix_pure rfl rfl (by kernel_rfl) ?_
  apply Exists.intro
  refine ⟨fun w' hw' => ?_, ?_⟩
  · have z0 := hw'.cell_some (i := 0) rfl
    have z1 := hw'.cell_some (i := 1) rfl
    have z2 := hw'.cell_some (i := 2) rfl
    have z3 := hw'.cell_some (i := 3) rfl
    have z4 := hw'.cell_some (i := 4) rfl
    have z5 := hw'.cell_some (i := 5) rfl
    have z6 := hw'.cell_some (i := 6) rfl
    have z7 := hw'.cell_some (i := 7) rfl
    have z8 := hw'.cell_some (i := 8) rfl
    go_simp
    with_reducible rfl
  simp only [List.getElem_toArray, List.getElem_cons_zero, List.getElem_cons_succ, Act.put, List.setIfInBounds_toArray, List.set_cons_zero, List.set_cons_succ]
  refine mix_nil ?_
  go_wp2_with fail
  go_ret2
  exact ⟨_, rfl, HO7.out, HB7.out⟩
set_option maxHeartbeats 4000000 in
set_option maxRecDepth 100000 in
theorem encode_3 (u : UD) (dp gp : Option Addr) (dc gc : Nat) (w : World) (hk : u.kind = 3) (hgv : Rgs w (.slice gp u.got.length gc) u.got) (hlv : u.got.length ≤ 140737488355328) (hv : validU u) (ht : Tab w)  :
    Calls Tryd.prog 11 #[uv u (.slice dp u.data.length dc) (.slice gp u.got.length gc)] w fun e w' => ∃ v', e = .returned (.tuple #[v', .int .i64 0]) ∧ w'.ownsRow w.heap.size 5 1 v' ((digs [3, u.ep.toNat, u.ses.toNat] ++ (([] : List UInt8))) ++ sumB (crcOf (digs [3, u.ep.toNat, u.ses.toNat] ++ (([] : List UInt8))))).length (((digs [3, u.ep.toNat, u.ses.toNat] ++ (([] : List UInt8))) ++ sumB (crcOf (digs [3, u.ep.toNat, u.ses.toNat] ++ (([] : List UInt8))))).map ub) ∧ Below w.heap.size w w' := by
  have hB0 : ∀ o, Below w.heap.size w (w.alloc o) := fun o => (Below.refl _ _).alloc (Nat.le_refl _) _
  have hc := fun o => valid_any u dp gp dc gc (w.alloc o) (hgv.later (hB0 o)) hlv
  simp only [if_pos hv] at hc
  have HC := Lib.hid hc
  clear hc hgv hlv hv
  obtain ⟨L3, hL3⟩ : ∃ L, L = digs [3, u.ep.toNat, u.ses.toNat] := ⟨_, rfl⟩
  have hll : (digs [3, u.ep.toNat, u.ses.toNat]).length ≤ 1000 := by
    have h1 := u.ep.toNat_lt
    have h2 := u.ses.toNat_lt
    have := digs_len [3, u.ep.toNat, u.ses.toNat] (by intro x hx; simp at hx; omega)
    simp only [List.length_cons, List.length_nil] at this
    omega
  obtain ⟨L, hL⟩ : ∃ L : List UInt8, L = L3 := ⟨_, rfl⟩
  obtain ⟨L2, hL2⟩ : ∃ L2, L2 = L ++ (([] : List UInt8)) := ⟨_, rfl⟩
  obtain ⟨L4, hL4⟩ : ∃ L4, L4 = L2 ++ sumB (crcOf L2) := ⟨_, rfl⟩
  rw [← hL3, ← hL, ← hL2, ← hL4]
  subst hL
  have hL2l : L2.length ≤ 100000 := by
    rw [hL2, List.length_append]
    have : (L).length ≤ 1000 := by rw [hL3]; exact hll
    simp
    omega
  have hL2e : L2 = L := by rw [hL2, List.append_nil]
  have hsl := fun (W : World) (v : Value) (hB : Below w.heap.size w W) (hv : Bs W v L2) => seal_any v L2 W hv (ht.later hB) (by omega)
  simp only [← hL4] at hsl
  obtain ⟨kind, ep, ses, path, idx, cnt, data, code, got⟩ := u
  obtain rfl : kind = 3 := hk
  unfold uv at *
  simp only at *
  obtain ⟨n, hn⟩ : ∃ n, n = data.length := ⟨_, rfl⟩
  obtain ⟨k, hk⟩ : ∃ k, k = got.length := ⟨_, rfl⟩
  obtain ⟨e1, he1⟩ : ∃ e1, e1 = ep.toNat := ⟨_, rfl⟩
  obtain ⟨e2, he2⟩ : ∃ e2, e2 = ses.toNat := ⟨_, rfl⟩
  have hnum := fun (W : World) (g : Nat) (hg : Blk W g 22 [.int .u64 (3 : Int), .int .u64 (e1 : Int), .int .u64 (e2 : Int)]) => numbers_ne (.slice none 0 0) [] g 3 [3, e1, e2] W (Rd.nil W) hg rfl (by have h1 := ep.toNat_lt; have h2 := ses.toNat_lt; intro x hx; simp at hx; omega) (by omega) (by simp) (by simp)
  simp only [List.nil_append] at hnum
  rw [he1, he2, ← hL3] at hnum
  rw [← he1, ← he2] at hnum
  obtain ⟨M, hM⟩ : ∃ M, M = L.length := ⟨_, rfl⟩
  rw [← hM] at hnum
  rw [← hn, ← hk, ← he1, ← he2] at HC ⊢
  have HLE := Lib.hid hL2e
  clear hL2e
  have HSL := Lib.hid hsl; have HNUM := Lib.hid hnum; have HM := Lib.hid hM
  clear hsl hnum hM hn hk he1 he2 hL3 hll hL2 hL4 hL2l ht
  have hfld : ∀ W, (Instr.field 69 (.agg #[.func (.func 77) #[] #[], .func (.func 78) #[] #[], .func (.func 79) #[] #[]]) 1).run Tryd.prog W = .ok (.func (.func 78) #[] #[]) W := fun W => by kernel_rfl
  go_enter Tryd.func11, Tryd.ntmps11
  go_wp2_with fail
  refine (HC.out _).mono ?_
  rintro e w1 ⟨rfl, hB1⟩
  have hb1 : Blk w1 w.heap.size 26 [.int .i64 3, .int .u64 (e1 : Int), .int .u64 (e2 : Int), .int .i64 path, .int .i64 idx, .int .i64 cnt, .slice dp n dc, .int .i64 code, .slice gp k gc] := (Blk.new w _ _).later hB1
  have z0 := hb1.cell_some (i := 0) rfl
  have z1 := hb1.cell_some (i := 1) rfl
  have z2 := hb1.cell_some (i := 2) rfl
  have HB1 := Lib.hid (below_trans (hB0 _) hB1)
  have HU1 := Lib.hid hb1
  clear hB1 hb1 HC hB0
  go_wp2_with fail
  obtain ⟨W2, hW2⟩ : ∃ W2, W2 = w1.alloc (.cells #[.int .u64 (3 : Int), .int .u64 (e1 : Int), .int .u64 (e2 : Int)] 22) := ⟨_, rfl⟩
  have hB2 : Below w1.heap.size w1 W2 := hW2 ▸ (Below.refl _ _).alloc (Nat.le_refl _) _
  have hbk : Blk W2 w1.heap.size 22 [.int .u64 (3 : Int), .int .u64 (e1 : Int), .int .u64 (e2 : Int)] := hW2 ▸ Blk.new w1 _ _
  rw [← hW2]
  have HN2 := HNUM.out _ _ hbk
  have HB2 := Lib.hid hB2
  clear hW2 hbk hB2 HNUM
  refine HN2.mono ?_
  rintro e w3 ⟨v3, rfl, ho3, hB3⟩
  have hB4 := below_trans HB1.out (below_trans HB2.out hB3)
  have hu3 := (HU1.out.later HB2.out).later hB3
  have hr3 : Bs w3 v3 L := by
    show Rd w3 v3 L.length _
    rw [← HM.out]
    exact Rd.of_own ho3
  have hz3 := HB2.out.size
  have HO3 := Lib.hid (own_mono ho3 (Nat.le_trans HB1.out.size HB2.out.size))
  obtain ⟨a3, c3, rfl, -⟩ := own_open ho3
  have HB4 := Lib.hid hB4; have HU3 := Lib.hid hu3; have HR3 := Lib.hid hr3
  clear ho3 hB3 hB4 hu3 hr3 HN2 z0 z1 z2 hz3
  go_wp2_with fail
  refine region_mix (fun w' => Blk w' w.heap.size 26 [.int .i64 3, .int .u64 (e1 : Int), .int .u64 (e2 : Int), .int .i64 path, .int .i64 idx, .int .i64 cnt, .slice dp n dc, .int .i64 code, .slice gp k gc]) (fun i => i == 2 || i == 6 || i == 7) [0, 1, 4, 5, 2, 3, 6, 7, 8, 9] (by kernel_rfl) (by kernel_rfl) HU3.out.drew ?_
  refine mix_pure rfl rfl (by kernel_rfl) ?_
  apply Exists.intro
  refine ⟨fun w' hw' => ?_, ?_⟩
  · have z0 := hw'.cell_some (i := 0) rfl
    have z1 := hw'.cell_some (i := 1) rfl
    have z2 := hw'.cell_some (i := 2) rfl
    have z3 := hw'.cell_some (i := 3) rfl
    have z4 := hw'.cell_some (i := 4) rfl
    have z5 := hw'.cell_some (i := 5) rfl
    have z6 := hw'.cell_some (i := 6) rfl
    have z7 := hw'.cell_some (i := 7) rfl
    have z8 := hw'.cell_some (i := 8) rfl
    go_simp
    with_reducible rfl
  simp only [List.getElem_toArray, List.getElem_cons_zero, List.getElem_cons_succ, Act.put, List.setIfInBounds_toArray, List.set_cons_zero, List.set_cons_succ]
  refine mix_pure rfl rfl (by kernel_rfl) ?_
  apply Exists.intro
  refine ⟨fun w' hw' => ?_, ?_⟩
  · have z0 := hw'.cell_some (i := 0) rfl
    have z1 := hw'.cell_some (i := 1) rfl
    have z2 := hw'.cell_some (i := 2) rfl
    have z3 := hw'.cell_some (i := 3) rfl
    have z4 := hw'.cell_some (i := 4) rfl
    have z5 := hw'.cell_some (i := 5) rfl
    have z6 := hw'.cell_some (i := 6) rfl
    have z7 := hw'.cell_some (i := 7) rfl
    have z8 := hw'.cell_some (i := 8) rfl
    go_simp
    with_reducible rfl
  simp only [List.getElem_toArray, List.getElem_cons_zero, List.getElem_cons_succ, Act.put, List.setIfInBounds_toArray, List.set_cons_zero, List.set_cons_succ]
  refine mix_pure rfl rfl (by kernel_rfl) ?_
  apply Exists.intro
  refine ⟨fun w' hw' => ?_, ?_⟩
  · have z0 := hw'.cell_some (i := 0) rfl
    have z1 := hw'.cell_some (i := 1) rfl
    have z2 := hw'.cell_some (i := 2) rfl
    have z3 := hw'.cell_some (i := 3) rfl
    have z4 := hw'.cell_some (i := 4) rfl
    have z5 := hw'.cell_some (i := 5) rfl
    have z6 := hw'.cell_some (i := 6) rfl
    have z7 := hw'.cell_some (i := 7) rfl
    have z8 := hw'.cell_some (i := 8) rfl
    go_simp
    with_reducible rfl
  simp only [List.getElem_toArray, List.getElem_cons_zero, List.getElem_cons_succ, Act.put, List.setIfInBounds_toArray, List.set_cons_zero, List.set_cons_succ]
  refine mix_pure rfl rfl (by kernel_rfl) ?_
  apply Exists.intro
  refine ⟨fun w' hw' => ?_, ?_⟩
  · have z0 := hw'.cell_some (i := 0) rfl
    have z1 := hw'.cell_some (i := 1) rfl
    have z2 := hw'.cell_some (i := 2) rfl
    have z3 := hw'.cell_some (i := 3) rfl
    have z4 := hw'.cell_some (i := 4) rfl
    have z5 := hw'.cell_some (i := 5) rfl
    have z6 := hw'.cell_some (i := 6) rfl
    have z7 := hw'.cell_some (i := 7) rfl
    have z8 := hw'.cell_some (i := 8) rfl
    go_simp
    with_reducible rfl
  simp only [List.getElem_toArray, List.getElem_cons_zero, List.getElem_cons_succ, Act.put, List.setIfInBounds_toArray, List.set_cons_zero, List.set_cons_succ]
  refine mix_eff rfl rfl (by kernel_rfl) ?_
  unfold effAt
  go_simp
  simp only [effUpon, List.getElem_toArray, List.getElem_cons_zero, List.getElem_cons_succ, Act.put, List.setIfInBounds_toArray, List.set_cons_zero, List.set_cons_succ]
  refine (forms_3 _).mono ?_
  rintro e w5 ⟨rfl, hB5⟩
  have HB5 := Lib.hid (below_trans HB4.out ((Below.refl _ _).drew.trans hB5))
  have HB35 := Lib.hid ((Below.refl w3.heap.size w3).drew.trans hB5)
  have HU5 := Lib.hid (HU3.out.later HB35.out)
  refine ⟨_, rfl, HU5.out, ?_⟩
  clear hB5
  refine mix_pure rfl rfl (by kernel_rfl) ?_
  apply Exists.intro
  refine ⟨fun w' hw' => ?_, ?_⟩
  · have z0 := hw'.cell_some (i := 0) rfl
    have z1 := hw'.cell_some (i := 1) rfl
    have z2 := hw'.cell_some (i := 2) rfl
    have z3 := hw'.cell_some (i := 3) rfl
    have z4 := hw'.cell_some (i := 4) rfl
    have z5 := hw'.cell_some (i := 5) rfl
    have z6 := hw'.cell_some (i := 6) rfl
    have z7 := hw'.cell_some (i := 7) rfl
    have z8 := hw'.cell_some (i := 8) rfl
    go_simp
    with_reducible rfl
  simp only [List.getElem_toArray, List.getElem_cons_zero, List.getElem_cons_succ, Act.put, List.setIfInBounds_toArray, List.set_cons_zero, List.set_cons_succ]
  refine mix_eff rfl rfl (by kernel_rfl) ?_
  unfold effAt
  go_simp
  simp only [effUpon, List.getElem_toArray, List.getElem_cons_zero, List.getElem_cons_succ, Act.put, List.setIfInBounds_toArray, List.set_cons_zero, List.set_cons_succ]
  refine (layCancel_any' _ _ _ _ _ _ _ _ _ _ _ _ _ _ _).mono ?_
  rintro e w6 ⟨rfl, hB6⟩
  have HR6 : Hid (Bs w6 (.slice a3 M c3) L2) := Lib.hid (by rw [HLE.out]; exact Rd.later (Rd.later HR3.out HB35.out) hB6)
  have HB6 := Lib.hid (below_trans HB5.out hB6)
  have HU6 := Lib.hid (HU5.out.later hB6)
  refine ⟨_, rfl, HU6.out, ?_⟩
  clear hB6
  refine mix_eff rfl rfl (by kernel_rfl) ?_
  unfold effAt
  go_simp
  simp only [effUpon, List.getElem_toArray, List.getElem_cons_zero, List.getElem_cons_succ, Act.put, List.setIfInBounds_toArray, List.set_cons_zero, List.set_cons_succ]
  refine (HSL.out _ _ HB6.out HR6.out).mono ?_
  rintro e w7 ⟨v7, rfl, ho7, hB7⟩
  have HO7 := Lib.hid (own_mono ho7 HB6.out.size)
  have HB7 := Lib.hid (below_trans HB6.out hB7)
  refine ⟨_, rfl, HU6.out.later hB7, ?_⟩
  clear hB7 ho7
  refine mix_pure rfl rfl (by kernel_rfl) ?_
  apply Exists.intro
  refine ⟨fun w' hw' => ?_, ?_⟩
  · have z0 := hw'.cell_some (i := 0) rfl
    have z1 := hw'.cell_some (i := 1) rfl
    have z2 := hw'.cell_some (i := 2) rfl
    have z3 := hw'.cell_some (i := 3) rfl
    have z4 := hw'.cell_some (i := 4) rfl
    have z5 := hw'.cell_some (i := 5) rfl
    have z6 := hw'.cell_some (i := 6) rfl
    have z7 := hw'.cell_some (i := 7) rfl
    have z8 := hw'.cell_some (i := 8) rfl
    go_simp
    with_reducible rfl
  simp only [List.getElem_toArray, List.getElem_cons_zero, List.getElem_cons_succ, Act.put, List.setIfInBounds_toArray, List.set_cons_zero, List.set_cons_succ]
  refine mix_pure rfl rfl (by kernel_rfl) ?_
  apply Exists.intro
  refine ⟨fun w' hw' => ?_, ?_⟩
  · have z0 := hw'.cell_some (i := 0) rfl
    have z1 := hw'.cell_some (i := 1) rfl
    have z2 := hw'.cell_some (i := 2) rfl
    have z3 := hw'.cell_some (i := 3) rfl
    have z4 := hw'.cell_some (i := 4) rfl
    have z5 := hw'.cell_some (i := 5) rfl
    have z6 := hw'.cell_some (i := 6) rfl
    have z7 := hw'.cell_some (i := 7) rfl
    have z8 := hw'.cell_some (i := 8) rfl
    go_simp
    with_reducible rfl
  simp only [List.getElem_toArray, List.getElem_cons_zero, List.getElem_cons_succ, Act.put, List.setIfInBounds_toArray, List.set_cons_zero, List.set_cons_succ]
  refine mix_nil ?_
  go_wp2_with fail
  go_ret2
  exact ⟨_, rfl, HO7.out, HB7.out⟩
end Go.Proofs.YtghjffgaebnhiaaDoor
