/- ranges, alike; lent, stays: what the statements of chapter 13 ask of units and answers. -/
import Derived.Test.YtfaemjlemaclbaaGreatMIRanges
import Derived.Test.YtfaemjlemaclbaaGreatMRefGot
import Derived.Test.YtfaemjlemaclbaaGreatMAppAt
namespace Go.Proofs.YtfaemjlemaclbaaGreat
set_option linter.unusedVariables false
set_option linter.unusedSimpArgs false
open Go.RowKit
set_option maxHeartbeats 1000000 in
set_option maxRecDepth 100000 in
theorem ialike_yes (st cd : Int) (gv gv' bv bv' : Value) (l : List (Int × Int)) (b : List UInt8) (w : World) (h : Rgs w gv l) (h' : Rgs w gv' l) (hl : l.length ≤ 140737488355328) (hb : Bs w bv b) (hb' : Bs w bv' b) :
    Calls Tryz.prog 16 #[.agg #[.int .i64 st, .int .i64 cd, gv, bv], .agg #[.int .i64 st, .int .i64 cd, gv', bv']] w fun e w' => e = .returned (.bool true) ∧ Below w.heap.size w w' := by
  obtain ⟨ao, cap, rfl, -⟩ := id h
  obtain ⟨ao', cap', rfl, -⟩ := id h'
  obtain ⟨bo, bc, rfl, -⟩ := id hb
  obtain ⟨bo', bc', rfl, -⟩ := id hb'
  obtain ⟨W0, hW0⟩ : ∃ W0, W0 = (w.alloc (.cells #[.int .i64 st, .int .i64 cd, .slice ao l.length cap, .slice bo b.length bc] 45)).alloc (.cells #[.int .i64 st, .int .i64 cd, .slice ao' l.length cap', .slice bo' b.length bc'] 47) := ⟨_, rfl⟩
  have hB0 : Below w.heap.size w W0 := hW0 ▸ ((Below.refl _ _).alloc (Nat.le_refl _) _).alloc (by simp) _
  have hx0 : Blk W0 w.heap.size 45 [.int .i64 st, .int .i64 cd, .slice ao l.length cap, .slice bo b.length bc] := hW0 ▸ (Blk.new w _ _).alloc _
  have hy0 : Blk W0 (w.heap.size + 1) 47 [.int .i64 st, .int .i64 cd, .slice ao' l.length cap', .slice bo' b.length bc'] := by
    have := Blk.new (w.alloc (.cells #[.int .i64 st, .int .i64 cd, .slice ao l.length cap, .slice bo b.length bc] 45)) 47 [.int .i64 st, .int .i64 cd, .slice ao' l.length cap', .slice bo' b.length bc']
    rw [show (w.alloc (.cells #[.int .i64 st, .int .i64 cd, .slice ao l.length cap, .slice bo b.length bc] 45)).heap.size = w.heap.size + 1 by simp] at this
    exact hW0 ▸ this
  have x0 := hx0.cell_some (i := 0) rfl
  have x1 := hx0.cell_some (i := 1) rfl
  have x2 := hx0.cell_some (i := 2) rfl
  have x3 := hx0.cell_some (i := 3) rfl
  have y0 := hy0.cell_some (i := 0) rfl
  have y1 := hy0.cell_some (i := 1) rfl
  have y2 := hy0.cell_some (i := 2) rfl
  have y3 := hy0.cell_some (i := 3) rfl
  have hr := iranges_yes _ _ l W0 (h.later hB0) (h'.later hB0) hl
  have HR := Lib.hid hr; have HB0 := Lib.hid hB0
  have k1 := fun q => run_str8 (Rd.later hb hB0) (W := W0.drewN q) rfl
  have k2 := fun q => run_str8 (Rd.later hb' hB0) (W := W0.drewN q) rfl
  clear h h' hb hb' hB0 hx0 hy0 hr
  go_enter Tryz.func16, Tryz.ntmps16
  go_wp2_with fail
  rw [← hW0]
  clear hW0
  refine HR.out.mono ?_
  rintro e w1 ⟨rfl, q, rfl⟩
  go_wp2_with fail
  go_ret
  exact ⟨rfl, below_drewN HB0.out q⟩
def marks : List UInt8 := [11, 12, 13, 14, 15, 16, 17, 18]
/-- what a lent unit's lists are: of its own memory, marks behind them. -/
structure Lends (base : Nat) (w : World) (u : UD) (b1 c1 b2 c2 : Nat) : Prop where
  dat : w.ownsRow base 5 1 (.slice (some ⟨b1, 0, none⟩) (u.data.length + 8) c1) (u.data.length + 8) ((u.data ++ marks).map ub)
  got : w.ownsRow base 63 2 (.slice (some ⟨b2, 0, none⟩) (u.got.length + 1) c2) (u.got.length + 1) (rvs u.got ++ [.int .i64 (-7), .int .i64 (-7)])
theorem Lends.same {S : Nat → Prop} {base : Nat} {w w' : World} {u : UD} {b1 c1 b2 c2 : Nat} (h : Lends base w u b1 c1 b2 c2) (hs : Same S w w') (n1 : ¬ S b1) (n2 : ¬ S b2) : Lends base w' u b1 c1 b2 c2 :=
  ⟨own_same h.dat hs fun b e => by injection e with e; rw [← e]; exact n1, own_same h.got hs fun b e => by injection e with e; rw [← e]; exact n2⟩
theorem Lends.later {base : Nat} {w w' : World} {u : UD} {b1 c1 b2 c2 : Nat} (h : Lends base w u b1 c1 b2 c2) (hb : Below w.heap.size w w') : Lends base w' u b1 c1 b2 c2 := h.same (Same.of_below hb no) (fun h => h) (fun h => h)
theorem Lends.lt {base : Nat} {w : World} {u : UD} {b1 c1 b2 c2 : Nat} (h : Lends base w u b1 c1 b2 c2) : base ≤ b1 ∧ b1 < w.heap.size ∧ base ≤ b2 ∧ b2 < w.heap.size := by
  have h1 := h.dat.lt b1 rfl
  have h2 := h.got.lt b2 rfl
  exact ⟨h1.1, h1.2, h2.1, h2.2⟩
theorem Lends.cap {base : Nat} {w : World} {u : UD} {b1 c1 b2 c2 : Nat} (h : Lends base w u b1 c1 b2 c2) : u.data.length + 8 ≤ c1 ∧ c1 ≤ maxLen ∧ u.got.length + 1 ≤ c2 ∧ c2 ≤ maxLen := by
  obtain ⟨ao, cap, e, h1, h2, -⟩ := own_open h.dat
  injection e with e1 e2 e3
  subst e3
  obtain ⟨ao, cap, e, h3, h4, -⟩ := own_open h.got
  injection e with e1 e2 e3
  subst e3
  exact ⟨h1, h2, h3, h4⟩
theorem Lends.bs {base : Nat} {w : World} {u : UD} {b1 c1 b2 c2 : Nat} (h : Lends base w u b1 c1 b2 c2) : Bs w (.slice (some ⟨b1, 0, none⟩) u.data.length c1) u.data := by
  have := own_prefix (n := u.data.length) h.dat (by omega)
  rw [Nat.mul_one, List.map_append, List.take_left' (by simp)] at this
  exact Rd.of_own this
theorem Lends.rgs {base : Nat} {w : World} {u : UD} {b1 c1 b2 c2 : Nat} (h : Lends base w u b1 c1 b2 c2) : Rgs w (.slice (some ⟨b2, 0, none⟩) u.got.length c2) u.got := by
  have := own_prefix (n := u.got.length) h.got (by omega)
  rw [List.take_left' (rvs_len _)] at this
  exact Rd.of_own this
theorem El.rng : El Tryz.prog 33 63 (.agg #[.int .i64 0, .int .i64 0]) 2 16 := ⟨Tryz.underlying33, by kernel_rfl, rfl, by decide, by decide⟩
def LentPost (w : World) (u : UD) (e : Ending) (w' : World) : Prop := ∃ b1 c1 b2 c2, e = .returned (uv u (.slice (some ⟨b1, 0, none⟩) u.data.length c1) (.slice (some ⟨b2, 0, none⟩) u.got.length c2)) ∧ Lends w.heap.size w' u b1 c1 b2 c2 ∧ Below w.heap.size w w'
set_option maxHeartbeats 2000000 in
set_option maxRecDepth 100000 in
theorem lent_any (u : UD) (dv gv : Value) (w : World) (hd : Bs w dv u.data) (hg : Rgs w gv u.got) (hl1 : u.data.length ≤ 140737488351232) (hl2 : u.got.length ≤ 8796093022000) :
    Calls Tryz.prog 28 #[uv u dv gv] w fun e w' => LentPost w u e w' := by
  obtain ⟨kind, ep, ses, path, idx, cnt, data, code, got⟩ := u
  simp only at hd hg hl1 hl2
  obtain ⟨dp, dc, rfl, dn, dm, -⟩ := id hd
  obtain ⟨gp, gc, rfl, gn, gm, -⟩ := id hg
  simp only [uv]
  obtain ⟨W0, hW0⟩ : ∃ W0, W0 = (w.alloc (.cells #[.int .i64 kind, .int .u64 (ep.toNat : Int), .int .u64 (ses.toNat : Int), .int .i64 path, .int .i64 idx, .int .i64 cnt, .slice dp data.length dc, .int .i64 code, .slice gp got.length gc] 35)).alloc (.cells #[.int .i64 0, .int .u64 0, .int .u64 0, .int .i64 0, .int .i64 0, .int .i64 0, .slice none 0 0, .int .i64 0, .slice none 0 0] 35) := ⟨_, rfl⟩
  have hB0 : Below w.heap.size w W0 := hW0 ▸ ((Below.refl _ _).alloc (Nat.le_refl _) _).alloc (by simp) _
  have hu0 : Blk W0 w.heap.size 35 [.int .i64 kind, .int .u64 (ep.toNat : Int), .int .u64 (ses.toNat : Int), .int .i64 path, .int .i64 idx, .int .i64 cnt, .slice dp data.length dc, .int .i64 code, .slice gp got.length gc] := hW0 ▸ (Blk.new w _ _).alloc _
  have ha0 : Blk W0 (w.heap.size + 1) 35 [.int .i64 0, .int .u64 0, .int .u64 0, .int .i64 0, .int .i64 0, .int .i64 0, .slice none 0 0, .int .i64 0, .slice none 0 0] := by
    have := Blk.new (w.alloc (.cells #[.int .i64 kind, .int .u64 (ep.toNat : Int), .int .u64 (ses.toNat : Int), .int .i64 path, .int .i64 idx, .int .i64 cnt, .slice dp data.length dc, .int .i64 code, .slice gp got.length gc] 35)) 35 [.int .i64 0, .int .u64 0, .int .u64 0, .int .i64 0, .int .i64 0, .int .i64 0, .slice none 0 0, .int .i64 0, .slice none 0 0]
    rw [show (w.alloc (.cells #[.int .i64 kind, .int .u64 (ep.toNat : Int), .int .u64 (ses.toNat : Int), .int .i64 path, .int .i64 idx, .int .i64 cnt, .slice dp data.length dc, .int .i64 code, .slice gp got.length gc] 35)).heap.size = w.heap.size + 1 by simp] at this
    exact hW0 ▸ this
  have u6 := hu0.cell_some (i := 6) rfl
  obtain ⟨n, hn⟩ : ∃ n, n = data.length := ⟨_, rfl⟩
  obtain ⟨k, hk⟩ : ∃ k, k = got.length := ⟨_, rfl⟩
  have hrd : Rd W0 (.slice dp n dc) n (data.map ub) := by rw [hn]; exact Rd.later hd hB0
  have hrg : ∀ W, Below w.heap.size w W → Rd W (.slice gp k gc) k (rvs got) := fun W hB => by rw [hk]; exact hg.later hB
  have hlg : (rvs got).length = k * 2 := by rw [rvs_len, hk]
  have HRD := Lib.hid hrd; have HRG := Lib.hid hrg; have HLG := Lib.hid hlg; have HB0 := Lib.hid hB0; have HU0 := Lib.hid hu0; have HA0 := Lib.hid ha0
  have hz : w.heap.size + 1 < W0.heap.size := ha0.lt
  have hdl : (data.map ub).length = n * 1 := by simp [hn]
  have HDL := Lib.hid hdl
  rw [← hn] at dn hl1 u6 hW0
  rw [← hk] at gn hl2 hW0
  rw [← hn, ← hk] at HU0 ⊢
  have HN := Lib.hid hn; have HK := Lib.hid hk
  clear hd hg hB0 hu0 ha0 hrd hrg hlg hdl hn hk
  simp only [maxLen] at dm gm
  have prep2 : ∀ v1 w1 v2 w2, w1.ownsRow W0.heap.size 5 1 v1 (0 + n) ([] ++ data.map ub) → W0.grownBy w1 (Value.slice none 0 0).ownBlock → w2.ownsRow W0.heap.size 5 1 v2 (n + marks.length) (data.map ub ++ marks.map ub) → w1.grownBy w2 v1.ownBlock →
      ∃ b1 c1, v2 = .slice (some ⟨b1, 0, none⟩) (n + 8) c1 ∧ n + 8 ≤ c1 ∧ c1 ≤ 2 ^ 63 - 1 ∧ w2.cell? ⟨w.heap.size, 6, none⟩ = some (.slice dp n dc) ∧ w2.frozen? ⟨w.heap.size, 6, none⟩ = false ∧ w2.cell? ⟨w.heap.size, 8, none⟩ = some (.slice gp k gc) ∧ w.heap.size < w2.heap.size ∧ Hid (Below W0.heap.size W0 w2) ∧ Hid (w2.ownsRow W0.heap.size 5 1 (.slice (some ⟨b1, 0, none⟩) (n + 8) c1) (n + 8) ((data ++ marks).map ub)) := fun v1 w1 v2 w2 ho1 hg1 ho2 hg2 => by
    have hB1 := (Below.refl W0.heap.size W0).grown hg1 (Nat.le_refl _) (by simp [Value.ownBlock])
    have hB2 := hB1.grown hg2 hB1.size (fun q hq => (ho1.lt q hq).1)
    rw [← List.map_append, show marks.length = 8 from rfl] at ho2
    obtain ⟨a2, c1, rfl, hc1, hc1', hb1⟩ := own_open ho2
    obtain ⟨b1, rfl⟩ := hb1 (by omega)
    have hu2 := HU0.out.later hB2
    exact ⟨b1, c1, rfl, hc1, hc1', hu2.cell_some rfl, hu2.frozen 6, hu2.cell_some rfl, hu2.lt, Lib.hid hB2, Lib.hid ho2⟩
  have prep4 : ∀ b1 c1 w2 v3 w3 v4 w5, Hid (Below W0.heap.size W0 w2) → Hid (w2.ownsRow W0.heap.size 5 1 (.slice (some ⟨b1, 0, none⟩) (n + 8) c1) (n + 8) ((data ++ marks).map ub)) →
      w3.ownsRow w.heap.size 63 2 v3 (0 + k) ([] ++ rvs got) → (w2.setCell ⟨w.heap.size, 6, none⟩ (.slice (some ⟨b1, 0, none⟩) n c1)).grownBy w3 (Value.slice none 0 0).ownBlock → Newer (w2.setCell ⟨w.heap.size, 6, none⟩ (.slice (some ⟨b1, 0, none⟩) n c1)) (Value.slice none 0 0) v3 →
      w5.ownsRow w.heap.size 63 2 v4 (k + 1) (rvs got ++ [.int .i64 (-7), .int .i64 (-7)]) → (w3.alloc (.cells #[.int .i64 (-7), .int .i64 (-7)] 63)).grownBy w5 v3.ownBlock →
      ∃ b2 c2, v4 = .slice (some ⟨b2, 0, none⟩) (k + 1) c2 ∧ k + 1 ≤ c2 ∧ c2 ≤ 2 ^ 63 - 1 ∧ Blk w5 w.heap.size 35 [.int .i64 kind, .int .u64 (ep.toNat : Int), .int .u64 (ses.toNat : Int), .int .i64 path, .int .i64 idx, .int .i64 cnt, .slice (some ⟨b1, 0, none⟩) n c1, .int .i64 code, .slice gp k gc] ∧ Blk w5 (w.heap.size + 1) 35 [.int .i64 0, .int .u64 0, .int .u64 0, .int .i64 0, .int .i64 0, .int .i64 0, .slice none 0 0, .int .i64 0, .slice none 0 0] ∧ Below w.heap.size w w5 ∧
        w5.ownsRow w.heap.size 5 1 (.slice (some ⟨b1, 0, none⟩) (n + 8) c1) (n + 8) ((data ++ marks).map ub) ∧ w5.ownsRow w.heap.size 63 2 (.slice (some ⟨b2, 0, none⟩) (k + 1) c2) (k + 1) (rvs got ++ [.int .i64 (-7), .int .i64 (-7)]) := fun b1 c1 w2 v3 w3 v4 w5 HB2 HO2 ho3 hg3 hn3 ho5 hg5 => by
    obtain ⟨W2, hW2⟩ : ∃ W2, W2 = w2.setCell ⟨w.heap.size, 6, none⟩ (.slice (some ⟨b1, 0, none⟩) n c1) := ⟨_, rfl⟩
    rw [← hW2] at hg3 hn3
    have hs2 : Same (at1 w.heap.size) w2 W2 := hW2 ▸ (Same.refl (at1 w.heap.size) w2).setCell (p := ⟨w.heap.size, 6, none⟩) (fun _ => rfl) _
    have hu2 := (HU0.out.later HB2.out).set 6 (.slice (some ⟨b1, 0, none⟩) n c1)
    rw [← hW2] at hu2
    have ha2 := (HA0.out.later HB2.out).same hs2 (fun e => by have : w.heap.size + 1 = w.heap.size := e; omega)
    have hd2 := own_same HO2.out hs2 (fun b e hb => by have h1 := (HO2.out.lt b e).1; have : b = w.heap.size := hb; omega)
    have hbw : Below w.heap.size w W2 := (below_trans HB0.out HB2.out).trans (hs2.belowB fun i hi => ⟨Nat.lt_of_lt_of_le (Nat.lt_of_lt_of_le hi HB0.out.size) HB2.out.size, fun e => by have : i = w.heap.size := e; omega⟩)
    have hB3 : Below W2.heap.size W2 w3 := (Below.refl W2.heap.size W2).grown hg3 (Nat.le_refl _) (by simp [Value.ownBlock])
    have hB4 : Below w3.heap.size w3 (w3.alloc (.cells #[.int .i64 (-7), .int .i64 (-7)] 63)) := (Below.refl _ _).alloc (Nat.le_refl _) _
    have hB24 := below_trans hB3 hB4
    have hq3 : ∀ q, v3.ownBlock = some q → W2.heap.size ≤ q := fun q hq => by
      rcases hn3 with h | ⟨j, h, hj⟩
      · rw [h] at hq; cases hq
      · rw [h] at hq; injection hq with hq; omega
    have hz2 : w.heap.size + 1 < W2.heap.size := ha2.lt
    have hne : ∀ q, q < W2.heap.size → v3.ownBlock ≠ some q := fun q hq e => by have := hq3 q e; omega
    have hu4 := (hu2.later hB24).grown hg5 (hne _ (by omega))
    have ha4 := (ha2.later hB24).grown hg5 (hne _ (by omega))
    have hd4 := (own_later hd2 hB24).kept hg5 (by
      cases hv : v3.ownBlock with
      | none => exact .inr (by intro e; cases e)
      | some q =>
        refine .inr fun e => ?_
        have h1 := hq3 q hv
        have h2 := (hd2.lt q e).2
        omega)
    obtain ⟨a5, c2, rfl, hc2, hc2', hb5⟩ := own_open ho5
    obtain ⟨b2, rfl⟩ := hb5 (by omega)
    refine ⟨b2, c2, rfl, hc2, hc2', hu4, ha4, ?_, own_mono hd4 HB0.out.size, ho5⟩
    exact (hbw.trans (hB24.mono (Nat.le_of_lt (Nat.lt_of_succ_lt hz2)))).grown hg5 (by have := hB24.size; omega) (fun q hq => by have := hq3 q hq; omega)
  have PREP := Lib.hid prep2; have PREP4 := Lib.hid prep4
  clear prep2 prep4
  go_enter Tryz.func28, Tryz.ntmps28
  go_wp2_with (first
    | (at_builtin; rw [← hW0]; (refine wpList_app El.u8 rfl (.const (.slice none 0 0)) (.tmp 9) rfl (World.ownsRow_nil _ W0.heap.size _ _) rfl HRD.out rfl HDL.out (ub_one data) (by omega) (Nat.le_refl _) ?_); intro v1 w1 hown1 hgr1 hN1; clear hN1; have ho1' := hown1; rw [Nat.zero_add, List.nil_append] at ho1'; obtain ⟨a1, k1, rfl, -⟩ := own_open ho1'; have HO1 := Lib.hid hown1; have HO1' := Lib.hid ho1'; have HG1 := Lib.hid hgr1; have hz1 : W0.heap.size ≤ w1.heap.size := hgr1.size; clear hown1 ho1' hgr1)
    | (at_builtin; (refine wpList_appStr rfl (.tmp 10) (.const (.string (str marks))) rfl HO1'.out rfl (l := marks) rfl (by simp [marks]; omega) hz1 ?_); intro v2 w2 hown2 hgr2; have hzz := PREP.out _ _ _ _ HO1.out HG1.out hown2 hgr2; obtain ⟨b1, c1, rfl, hc1, hc1', u6, fu6, u8, hul, HB2, HO2⟩ := hzz; have ix1 : (n : Int) ≤ (c1 : Int) := (by omega); clear hown2 hgr2 HO1 HO1' HG1 hz1)
    | (at_builtin; (refine wpList_app El.rng rfl (.const (.slice none 0 0)) (.tmp 19) rfl (World.ownsRow_nil _ w.heap.size _ _) rfl (HRG.out _ ((below_trans HB0.out HB2.out).setCell (Nat.le_refl _) _)) rfl HLG.out (rvs_one got) (by omega) (by simp [World.setCell]; omega) ?_); intro v3 w3 hown3 hgr3 hN3; have HN3 := Lib.hid hN3; clear hN3; have ho3' := hown3; rw [Nat.zero_add, List.nil_append] at ho3'; obtain ⟨a3, k3, rfl, -⟩ := own_open ho3'; have HO3 := Lib.hid hown3; have HO3' := Lib.hid ho3'; have HG3 := Lib.hid hgr3; have hz3 : w.heap.size ≤ w3.heap.size := Nat.le_trans (by simp [World.setCell]; omega) hgr3.size; clear hown3 ho3' hgr3)
    | (at_builtin; (refine wpList_app El.rng rfl (.tmp 20) (.tmp 22) rfl (HO3'.out.alloc _) rfl (Rd.new _ _ [.int .i64 (-7), .int .i64 (-7)] 1 (by simp [maxLen])) rfl rfl (by intro x hx; simp at hx; subst hx; rfl) (by omega) (by simp; omega) ?_); intro v4 w5 hown5 hgr5 hN5; clear hN5; have hzz := PREP4.out _ _ _ _ _ _ _ HB2 HO2 HO3.out HG3.out HN3.out hown5 hgr5; obtain ⟨b2, c2, rfl, hc2, hc2', hu5, ha5, hbw5, hd5, hg5⟩ := hzz; have ix2 : (k : Int) ≤ (c2 : Int) := (by omega); have d0 := hu5.cell_some (i := 0) rfl; have d1 := hu5.cell_some (i := 1) rfl; have d2 := hu5.cell_some (i := 2) rfl; have d3 := hu5.cell_some (i := 3) rfl; have d4 := hu5.cell_some (i := 4) rfl; have d5 := hu5.cell_some (i := 5) rfl; have d6 := hu5.cell_some (i := 6) rfl; have d7 := hu5.cell_some (i := 7) rfl; have d8 := hu5.cell_some (i := 8) rfl; have fd8 := hu5.frozen 8; have a0 := ha5.cell_some (i := 0) rfl; have a1 := ha5.cell_some (i := 1) rfl; have a2 := ha5.cell_some (i := 2) rfl; have a3 := ha5.cell_some (i := 3) rfl; have a4 := ha5.cell_some (i := 4) rfl; have a5 := ha5.cell_some (i := 5) rfl; have a6 := ha5.cell_some (i := 6) rfl; have a7 := ha5.cell_some (i := 7) rfl; have a8 := ha5.cell_some (i := 8) rfl; have e0 := ha5.frozen 0; have e1 := ha5.frozen 1; have e2 := ha5.frozen 2; have e3 := ha5.frozen 3; have e4 := ha5.frozen 4; have e5 := ha5.frozen 5; have e6 := ha5.frozen 6; have e7 := ha5.frozen 7; have e8 := ha5.frozen 8; have HU5 := Lib.hid hu5; have HA5 := Lib.hid ha5; have HBW5 := Lib.hid hbw5; have HD5 := Lib.hid hd5; have HG5 := Lib.hid hg5; clear hown5 hgr5 HO3 HO3' HG3 HN3 hu5 ha5 hbw5 hd5 hg5 u6 fu6 u8)
    | fail)
  refine bodyPost_ret (v := .agg #[.int .i64 kind, .int .u64 (ep.toNat : Int), .int .u64 (ses.toNat : Int), .int .i64 path, .int .i64 idx, .int .i64 cnt, .slice (some ⟨b1, 0, none⟩) n c1, .int .i64 code, .slice (some ⟨b2, 0, none⟩) k c2]) (results_cell_row rfl _ _ (w.heap.size + 1) _ _ _ _ rfl ((((((((((HA5.out.far (p := ⟨w.heap.size, 8, none⟩) (fun e => by have : w.heap.size + 1 = w.heap.size := e; omega) (.slice (some ⟨b2, 0, none⟩) k c2)).set 0 (.int .i64 kind)).set 1 (.int .u64 (ep.toNat : Int))).set 2 (.int .u64 (ses.toNat : Int))).set 3 (.int .i64 path)).set 4 (.int .i64 idx)).set 5 (.int .i64 cnt)).set 6 (.slice (some ⟨b1, 0, none⟩) n c1)).set 7 (.int .i64 code)).set 8 (.slice (some ⟨b2, 0, none⟩) k c2)) Tryz.underlying35 rfl (by kernel_rfl)) rfl ?_
  obtain ⟨W6, hW6⟩ : ∃ W6, W6 = w5.setCell ⟨w.heap.size, 8, none⟩ (.slice (some ⟨b2, 0, none⟩) k c2) := ⟨_, rfl⟩
  have hS6 : Same (at1 w.heap.size) w5 W6 := hW6 ▸ (Same.refl (at1 w.heap.size) w5).setCell (p := ⟨w.heap.size, 8, none⟩) (fun _ => rfl) _
  rw [← hW6]
  have hL5 : Lends w.heap.size w5 ⟨kind, ep, ses, path, idx, cnt, data, code, got⟩ b1 c1 b2 c2 := ⟨by show w5.ownsRow _ _ 1 (.slice _ (data.length + 8) c1) (data.length + 8) _; rw [← HN.out]; exact HD5.out, by show w5.ownsRow _ _ 2 (.slice _ (got.length + 1) c2) (got.length + 1) _; rw [← HK.out]; exact HG5.out⟩
  have m1 : b1 ≠ w.heap.size := fun e => own_blk_ne HD5.out HU5.out (by decide) (by rw [← e]; rfl)
  have m2 : b2 ≠ w.heap.size := fun e => own_blk_ne HG5.out HU5.out (by decide) (by rw [← e]; rfl)
  have m3 : b1 ≠ w.heap.size + 1 := fun e => own_blk_ne HD5.out HA5.out (by decide) (by rw [← e]; rfl)
  have m4 : b2 ≠ w.heap.size + 1 := fun e => own_blk_ne HG5.out HA5.out (by decide) (by rw [← e]; rfl)
  have hS7 : Same (at1 (w.heap.size + 1)) W6 _ := ((((((((((Same.refl (at1 (w.heap.size + 1)) W6).setCell (p := ⟨w.heap.size + 1, 0, none⟩) (fun _ => rfl) (.int .i64 kind)).setCell (p := ⟨w.heap.size + 1, 1, none⟩) (fun _ => rfl) (.int .u64 (ep.toNat : Int))).setCell (p := ⟨w.heap.size + 1, 2, none⟩) (fun _ => rfl) (.int .u64 (ses.toNat : Int))).setCell (p := ⟨w.heap.size + 1, 3, none⟩) (fun _ => rfl) (.int .i64 path)).setCell (p := ⟨w.heap.size + 1, 4, none⟩) (fun _ => rfl) (.int .i64 idx)).setCell (p := ⟨w.heap.size + 1, 5, none⟩) (fun _ => rfl) (.int .i64 cnt)).setCell (p := ⟨w.heap.size + 1, 6, none⟩) (fun _ => rfl) (.slice (some ⟨b1, 0, none⟩) n c1)).setCell (p := ⟨w.heap.size + 1, 7, none⟩) (fun _ => rfl) (.int .i64 code)).setCell (p := ⟨w.heap.size + 1, 8, none⟩) (fun _ => rfl) (.slice (some ⟨b2, 0, none⟩) k c2))
  refine ⟨b1, c1, b2, c2, ?_, (hL5.same hS6 (fun e => m1 e) (fun e => m2 e)).same hS7 (fun e => m3 e) (fun e => m4 e), (HBW5.out.trans (hS6.belowB fun i hi => ⟨Nat.lt_of_lt_of_le hi HBW5.out.size, fun e => ?_⟩)).trans (hS7.belowB fun i hi => ⟨Nat.lt_of_lt_of_le (Nat.lt_of_lt_of_le hi HBW5.out.size) hS6.size, fun e => ?_⟩)⟩
  · simp only [uv]
    rw [← HN.out, ← HK.out]
  · have : i = w.heap.size := e
    omega
  · have : i = w.heap.size + 1 := e
    omega
end Go.Proofs.YtfaemjlemaclbaaGreat
