/- plays: a Take. Printed by wip/gen_iplays.py. -/
import Derived.Test.YtfaemjlemaclbaaGreatMIPlays
import Derived.Test.YtfaemjlemaclbaaGreatMRefGot
namespace Go.Proofs.YtfaemjlemaclbaaGreat
set_option linter.unusedVariables false
set_option linter.unusedSimpArgs false
open Go.RowKit Go.Maps
/-- each cell of it is a byte. -/
def Bytes8 (cs : List Value) : Prop := ∀ (i : Nat) (v : Value), cs[i]? = some v → ∃ z : Int, v = .int .u8 z
theorem bs_same {S : Nat → Prop} {w w' : World} {v : Value} {l : List UInt8} (h : Bs w v l) (hb : Same S w w') (hS : l ≠ [] → ∀ b, v.ownBlock = some b → ¬ S b) : Bs w' v l := by
  by_cases he : l = []
  · subst he
    obtain ⟨ao, cap, h1, h2, h3, -⟩ := h
    exact ⟨ao, cap, h1, h2, h3, fun h => absurd rfl h⟩
  · exact Rd.same h hb (hS he)
theorem rgs_same {S : Nat → Prop} {w w' : World} {v : Value} {l : List (Int × Int)} (h : Rgs w v l) (hb : Same S w w') (hS : l ≠ [] → ∀ b, v.ownBlock = some b → ¬ S b) : Rgs w' v l := by
  by_cases he : l = []
  · subst he
    obtain ⟨ao, cap, h1, h2, h3, -⟩ := h
    exact ⟨ao, cap, h1, h2, h3, fun h => absurd rfl h⟩
  · exact Rd.same h hb (hS he)
theorem bytes8_map (l : List UInt8) : Bytes8 (l.map ub) := fun i v h => by
  rw [List.getElem?_map, Option.map_eq_some_iff] at h
  obtain ⟨a, _, rfl⟩ := h
  exact ⟨_, rfl⟩
theorem Bytes8.set {cs : List Value} (h : Bytes8 cs) (j : Nat) (z : Int) : Bytes8 (cs.set j (.int .u8 z)) := fun i v hv => by
  rw [List.getElem?_set] at hv
  split at hv
  · split at hv
    · injection hv with hv
      exact ⟨z, hv.symm⟩
    · cases hv
  · exact h i v hv
section
variable {w : World} {x d n : Nat} {S : Nat → Prop} {m : IM}
set_option maxHeartbeats 4000000 in
set_option maxRecDepth 100000 in
theorem iplays_take (h : IDuo w x d S n m) (o : OpI) (dv gv : Value) (hd : Bs w dv o.u.data) (hg : Rgs w gv o.u.got) (hdn : o.u.data ≠ [] → ∀ b, dv.ownBlock = some b → b < w.heap.size ∧ ¬ S b) (hgn : o.u.got ≠ [] → ∀ b, gv.ownBlock = some b → b < w.heap.size ∧ ¬ S b) (hl1 : o.u.data.length ≤ 140737488351232) (hl2 : o.u.got.length ≤ 8796093022000) (hn : n < 4611686018427387904) (hk : o.kind = 1) :
    Calls Tryz.prog 11 #[.pointer (some ⟨x, 0, none⟩), .pointer (some ⟨d, 0, none⟩), opv o dv gv] w (IPlays w x d n S (m.play o)) := by
  have hp : m.play o = (m.take o.u).1 := by unfold IM.play; rw [hk]; rfl
  rw [hp]
  clear hp
  obtain ⟨okind, ⟨ukind, uep, uses, path, idx, cnt, data, ucode, got⟩, oep, onum, ocode⟩ := o
  simp only at hd hg hdn hgn hl1 hl2 hk ⊢
  subst hk
  obtain ⟨dp, dc, rfl, dn, dm, -⟩ := id hd
  obtain ⟨gp, gc, rfl, gn, gm, -⟩ := id hg
  simp only [opv]
  have hlt := fun b => h.lt (b := b)
  have hinv := h.inv
  obtain ⟨Si, Sr, h1, h2, h3, h4⟩ := h
  obtain ⟨W0, hW0⟩ : ∃ W0, W0 = ((w.alloc (.cells #[.int .i64 1, .int .i64 ukind, .int .u64 (uep.toNat : Int), .int .u64 (uses.toNat : Int), .int .i64 path, .int .i64 idx, .int .i64 cnt, .slice dp data.length dc, .int .i64 ucode, .slice gp got.length gc, .int .u64 (oep.toNat : Int), .int .u64 (onum.toNat : Int), .int .i64 ocode] 37)).alloc (.cells #[.int .u64 (oep.toNat : Int), .int .u64 (onum.toNat : Int)] 66)).alloc (.cells #[.int .u64 (oep.toNat : Int), .int .u64 (onum.toNat : Int)] 68) := ⟨_, rfl⟩
  have hB0 : Below w.heap.size w W0 := hW0 ▸ (((Below.refl _ _).alloc (Nat.le_refl _) _).alloc (by simp) _).alloc (by simp; omega) _
  have ho0 : Blk W0 w.heap.size 37 [.int .i64 1, .int .i64 ukind, .int .u64 (uep.toNat : Int), .int .u64 (uses.toNat : Int), .int .i64 path, .int .i64 idx, .int .i64 cnt, .slice dp data.length dc, .int .i64 ucode, .slice gp got.length gc, .int .u64 (oep.toNat : Int), .int .u64 (onum.toNat : Int), .int .i64 ocode] := hW0 ▸ ((Blk.new w _ _).alloc _).alloc _
  have hs0 : Blk W0 (w.heap.size + 1) 66 [.int .u64 (oep.toNat : Int), .int .u64 (onum.toNat : Int)] := by
    have := (Blk.new (w.alloc (.cells #[.int .i64 1, .int .i64 ukind, .int .u64 (uep.toNat : Int), .int .u64 (uses.toNat : Int), .int .i64 path, .int .i64 idx, .int .i64 cnt, .slice dp data.length dc, .int .i64 ucode, .slice gp got.length gc, .int .u64 (oep.toNat : Int), .int .u64 (onum.toNat : Int), .int .i64 ocode] 37)) 66 [.int .u64 (oep.toNat : Int), .int .u64 (onum.toNat : Int)]).alloc (.cells #[.int .u64 (oep.toNat : Int), .int .u64 (onum.toNat : Int)] 68)
    rw [show (w.alloc (.cells #[.int .i64 1, .int .i64 ukind, .int .u64 (uep.toNat : Int), .int .u64 (uses.toNat : Int), .int .i64 path, .int .i64 idx, .int .i64 cnt, .slice dp data.length dc, .int .i64 ucode, .slice gp got.length gc, .int .u64 (oep.toNat : Int), .int .u64 (onum.toNat : Int), .int .i64 ocode] 37)).heap.size = w.heap.size + 1 by simp] at this
    exact hW0 ▸ this
  have ht0 : Blk W0 (w.heap.size + 2) 68 [.int .u64 (oep.toNat : Int), .int .u64 (onum.toNat : Int)] := by
    have := Blk.new ((w.alloc (.cells #[.int .i64 1, .int .i64 ukind, .int .u64 (uep.toNat : Int), .int .u64 (uses.toNat : Int), .int .i64 path, .int .i64 idx, .int .i64 cnt, .slice dp data.length dc, .int .i64 ucode, .slice gp got.length gc, .int .u64 (oep.toNat : Int), .int .u64 (onum.toNat : Int), .int .i64 ocode] 37)).alloc (.cells #[.int .u64 (oep.toNat : Int), .int .u64 (onum.toNat : Int)] 66)) 68 [.int .u64 (oep.toNat : Int), .int .u64 (onum.toNat : Int)]
    rw [show ((w.alloc (.cells #[.int .i64 1, .int .i64 ukind, .int .u64 (uep.toNat : Int), .int .u64 (uses.toNat : Int), .int .i64 path, .int .i64 idx, .int .i64 cnt, .slice dp data.length dc, .int .i64 ucode, .slice gp got.length gc, .int .u64 (oep.toNat : Int), .int .u64 (onum.toNat : Int), .int .i64 ocode] 37)).alloc (.cells #[.int .u64 (oep.toNat : Int), .int .u64 (onum.toNat : Int)] 66)).heap.size = w.heap.size + 2 by simp] at this
    exact hW0 ▸ this
  have hz0 : w.heap.size + 2 < W0.heap.size := ht0.lt
  have hun : UD.got ⟨ukind, uep, uses, path, idx, cnt, data, ucode, got⟩ = got := rfl
  have hle := lent_any ⟨ukind, uep, uses, path, idx, cnt, data, ucode, got⟩ _ _ W0 (Rd.later hd hB0) (hg.later hB0) hl1 hl2
  simp only [uv] at hle
  have HLE := Lib.hid hle
  have o0 := ho0.cell_some (i := 0) rfl
  have o1 := ho0.cell_some (i := 1) rfl
  have o2 := ho0.cell_some (i := 2) rfl
  have o3 := ho0.cell_some (i := 3) rfl
  have o4 := ho0.cell_some (i := 4) rfl
  have o5 := ho0.cell_some (i := 5) rfl
  have o6 := ho0.cell_some (i := 6) rfl
  have o7 := ho0.cell_some (i := 7) rfl
  have o8 := ho0.cell_some (i := 8) rfl
  have o9 := ho0.cell_some (i := 9) rfl
  have o10 := ho0.cell_some (i := 10) rfl
  have o11 := ho0.cell_some (i := 11) rfl
  have o12 := ho0.cell_some (i := 12) rfl
  have HI := Lib.hid (h1.later hB0); have HR := Lib.hid (h2.later hB0); have H3 := Lib.hid h3; have H4 := Lib.hid h4; have HLT := Lib.hid hlt; have HINV := Lib.hid hinv; have HB := Lib.hid hB0; have HO := Lib.hid ho0; have HD := Lib.hid hd; have HG := Lib.hid hg; have HDN := Lib.hid hdn; have HGN := Lib.hid hgn
  obtain ⟨ans, hans⟩ : ∃ a, a = (m.take ⟨ukind, uep, uses, path, idx, cnt, data, ucode, got⟩).2 := ⟨_, rfl⟩
  obtain ⟨m', hm'⟩ : ∃ m', m' = (m.take ⟨ukind, uep, uses, path, idx, cnt, data, ucode, got⟩).1 := ⟨_, rfl⟩
  rw [← hm']
  have HANS := Lib.hid hans; have HM' := Lib.hid hm'
  clear h1 h2 h3 h4 hlt hinv hB0 ho0 hs0 ht0 hd hg hdn hgn hle hun hans hm'
  go_enter Tryz.func11, Tryz.ntmps11
  go_wp2_with fail
  rw [← hW0]
  clear hW0
  refine HLE.out.mono ?_
  rintro e W1 hpost
  obtain ⟨b1, c1, b2, c2, he, hL1, hB1⟩ := hpost
  simp only [uv] at he
  subst he
  have hlt1 := hL1.lt
  have hcp := hL1.cap
  obtain ⟨W2, hW2⟩ : ∃ W2, W2 = W1.alloc (.cells #[.int .i64 ukind, .int .u64 (uep.toNat : Int), .int .u64 (uses.toNat : Int), .int .i64 path, .int .i64 idx, .int .i64 cnt, .slice (some ⟨b1, 0, none⟩) data.length c1, .int .i64 ucode, .slice (some ⟨b2, 0, none⟩) got.length c2] 35) := ⟨_, rfl⟩
  have hB2 : Below W1.heap.size W1 W2 := hW2 ▸ (Below.refl _ _).alloc (Nat.le_refl _) _
  have hU2 : Blk W2 W1.heap.size 35 [.int .i64 ukind, .int .u64 (uep.toNat : Int), .int .u64 (uses.toNat : Int), .int .i64 path, .int .i64 idx, .int .i64 cnt, .slice (some ⟨b1, 0, none⟩) data.length c1, .int .i64 ucode, .slice (some ⟨b2, 0, none⟩) got.length c2] := hW2 ▸ Blk.new W1 _ _
  have hz1 := hB1.size
  have hz2 : W1.heap.size < W2.heap.size := hU2.lt
  have hBw := below_trans HB.out (below_trans hB1 hB2)
  have hO2 := HO.out.later (below_trans hB1 hB2)
  have hi2 := HI.out.later (below_trans hB1 hB2)
  have hr2 := HR.out.later (below_trans hB1 hB2)
  have hL2 := hL1.later hB2
  have hdW := Rd.later HD.out hBw
  have hgW := HG.out.later hBw
  have hbd : ∀ W, Below W2.heap.size W2 W → Below W2.heap.size W2 W := fun W h => h
  have o0 := hO2.cell_some (i := 0) rfl
  have o1 := hO2.cell_some (i := 1) rfl
  have o2 := hO2.cell_some (i := 2) rfl
  have o3 := hO2.cell_some (i := 3) rfl
  have o4 := hO2.cell_some (i := 4) rfl
  have o5 := hO2.cell_some (i := 5) rfl
  have o6 := hO2.cell_some (i := 6) rfl
  have o7 := hO2.cell_some (i := 7) rfl
  have o8 := hO2.cell_some (i := 8) rfl
  have o9 := hO2.cell_some (i := 9) rfl
  have o10 := hO2.cell_some (i := 10) rfl
  have o11 := hO2.cell_some (i := 11) rfl
  have o12 := hO2.cell_some (i := 12) rfl
  have u0 := hU2.cell_some (i := 0) rfl
  have u1 := hU2.cell_some (i := 1) rfl
  have u2 := hU2.cell_some (i := 2) rfl
  have u3 := hU2.cell_some (i := 3) rfl
  have u4 := hU2.cell_some (i := 4) rfl
  have u5 := hU2.cell_some (i := 5) rfl
  have u6 := hU2.cell_some (i := 6) rfl
  have u7 := hU2.cell_some (i := 7) rfl
  have u8 := hU2.cell_some (i := 8) rfl
  have hBd : Below W2.heap.size W2 W2.drew := (Below.refl _ _).drew
  have hSb1 : ¬ S b1 := fun e => by have := HLT.out _ e; have := hlt1.1; omega
  have hSb2 : ¬ S b2 := fun e => by have := HLT.out _ e; have := hlt1.2.2.1; omega
  have hT1 := in_take (hi2.later hBd) ⟨ukind, uep, uses, path, idx, cnt, data, ucode, got⟩ (some ⟨b1, 0, none⟩) (some ⟨b2, 0, none⟩) c1 c2 (Rd.later hL2.bs hBd) (fun b e hb => by injection e with e; subst e; exact hSb1 ((H4.out _).1 (.inl hb))) hn
  simp only [uv] at hT1
  rw [← HANS.out, ← HM'.out] at hT1
  have hT2 := fun W F (h : RIn W d F m) (hb : Bs W (.slice dp data.length dc) data) (hk : data ≠ [] → ∀ k, (Value.slice dp data.length dc).ownBlock = some k → k < W.heap.size ∧ ¬ F k) => ri_take h HINV.out ⟨ukind, uep, uses, path, idx, cnt, data, ucode, got⟩ dp gp dc gc hb hk
  simp only [uv] at hT2
  rw [← HANS.out, ← HM'.out] at hT2
  have hT3 := fun W (hb : Bs W (.slice dp data.length dc) data) (hg : Rgs W (.slice gp got.length gc) got) (hL : Lends W0.heap.size W ⟨ukind, uep, uses, path, idx, cnt, data, ucode, got⟩ b1 c1 b2 c2) => stays_any ⟨ukind, uep, uses, path, idx, cnt, data, ucode, got⟩ _ _ W hb hg hL hl1 hl2
  simp only [uv] at hT3
  have HT1 := Lib.hid hT1; have HT2 := Lib.hid hT2; have HT3 := Lib.hid hT3
  have HI2 := Lib.hid (hi2.later hBd); have HR2 := Lib.hid (hr2.later hBd); have HO2 := Lib.hid (hO2.later hBd); have HU2 := Lib.hid (hU2.later hBd); have HL2 := Lib.hid (hL2.later hBd); have HDW := Lib.hid (Rd.later hdW hBd); have HGW := Lib.hid (hgW.later hBd); have HBW := Lib.hid (below_trans hBw hBd); have HS1 := Lib.hid hSb1; have HS2 := Lib.hid hSb2; have HL1 := Lib.hid hlt1
  have hlen : Hid (ans.got.length ≤ 140737488355328) := Lib.hid (by rw [HANS.out]; exact ans_len HINV.out _)
  clear hL1 hB1 hB2 hU2 hBw hO2 hi2 hr2 hL2 hdW hgW hT1 hT2 hT3 hBd hSb1 hSb2 hlt1 hbd
  go_wp2_with fail
  rw [← hW2]
  clear hW2
  go_region_law (first
    | (go_simp; go_at_call 14; refine HT1.out.mono ?_; rintro e w3 ⟨gv, bv, rfl, hg3, hb3, Si', hi3, ti3, hf3⟩; have hq3 := ti3.same; have R3 := Lib.hid (ti3.rin H3.out HR2.out); have hO3 := HO2.out.same hq3 (fun e => by have := HLT.out _ ((H4.out _).1 (.inl e)); omega); have hU3 := HU2.out.same hq3 (fun e => by have := HLT.out _ ((H4.out _).1 (.inl e)); omega); have hL3 := HL2.out.same hq3 (fun e => HS1.out ((H4.out _).1 (.inl e))) (fun e => HS2.out ((H4.out _).1 (.inl e))); have hD3 : Bs w3 _ data := bs_same HDW.out hq3 (fun hne b e hb => (HDN.out hne b e).2 ((H4.out _).1 (.inl hb))); have hG3 : Rgs w3 _ got := rgs_same HGW.out hq3 (fun hne b e hb => (HGN.out hne b e).2 ((H4.out _).1 (.inl hb))); have o1 := hO3.cell_some (i := 1) rfl; have o2 := hO3.cell_some (i := 2) rfl; have o3 := hO3.cell_some (i := 3) rfl; have o4 := hO3.cell_some (i := 4) rfl; have o5 := hO3.cell_some (i := 5) rfl; have o6 := hO3.cell_some (i := 6) rfl; have o7 := hO3.cell_some (i := 7) rfl; have o8 := hO3.cell_some (i := 8) rfl; have o9 := hO3.cell_some (i := 9) rfl; have u0 := hU3.cell_some (i := 0) rfl; have u1 := hU3.cell_some (i := 1) rfl; have u2 := hU3.cell_some (i := 2) rfl; have u3 := hU3.cell_some (i := 3) rfl; have u4 := hU3.cell_some (i := 4) rfl; have u5 := hU3.cell_some (i := 5) rfl; have u6 := hU3.cell_some (i := 6) rfl; have u7 := hU3.cell_some (i := 7) rfl; have u8 := hU3.cell_some (i := 8) rfl; have I3 := Lib.hid hi3; have TI3 := Lib.hid ti3; have HO3 := Lib.hid hO3; have HU3 := Lib.hid hU3; have HL3 := Lib.hid hL3; have HD3 := Lib.hid hD3; have HG3 := Lib.hid hG3; have HGV := Lib.hid hg3; have HBV := Lib.hid hb3; obtain ⟨ga, gcc, rfl, -⟩ := own_open hg3; obtain ⟨ba, bcc, rfl, -⟩ := own_open hb3; clear hg3 hb3 hi3 ti3 hf3 hq3 hO3 hU3 hL3 hD3 hG3)
    | (go_simp; go_at_call 15; refine (HT2.out _ _ R3.out.1 HD3.out (fun hne k e => ⟨Nat.lt_of_lt_of_le (HDN.out hne k e).1 (Nat.le_trans HBW.out.size TI3.out.same.size), fun hk => (HDN.out hne k e).2 ((H4.out _).1 (.inr hk))⟩)).mono ?_; rintro e w4 ⟨gw, bw, rfl, hg4, hb4, Sr', hr4, tr4⟩; have hq4 := tr4.same; have HF4 := Lib.hid (iduo_mk H4.out H3.out HLT.out HBW.out TI3.out tr4 I3.out hr4); have hgv4 := own_same HGV.out hq4 (fun b e hb => by have h1 := (HGV.out.lt b e).1; have h2 := HR2.out.lt hb; omega); have hbv4 := own_same HBV.out hq4 (fun b e hb => by have h1 := (HBV.out.lt b e).1; have h2 := HR2.out.lt hb; omega); have hU4 := HU3.out.same hq4 (fun e => by have := HLT.out _ ((H4.out _).1 (.inr e)); omega); have hO4 := HO3.out.same hq4 (fun e => by have := HLT.out _ ((H4.out _).1 (.inr e)); omega); have hL4 := HL3.out.same hq4 (fun e => HS1.out ((H4.out _).1 (.inr e))) (fun e => HS2.out ((H4.out _).1 (.inr e))); have hD4 : Bs w4 _ data := bs_same HD3.out hq4 (fun hne b e hb => (HDN.out hne b e).2 ((H4.out _).1 (.inr hb))); have hG4 : Rgs w4 _ got := rgs_same HG3.out hq4 (fun hne b e hb => (HGN.out hne b e).2 ((H4.out _).1 (.inr hb))); have o1 := hO4.cell_some (i := 1) rfl; have o2 := hO4.cell_some (i := 2) rfl; have o3 := hO4.cell_some (i := 3) rfl; have o4 := hO4.cell_some (i := 4) rfl; have o5 := hO4.cell_some (i := 5) rfl; have o6 := hO4.cell_some (i := 6) rfl; have o7 := hO4.cell_some (i := 7) rfl; have o8 := hO4.cell_some (i := 8) rfl; have o9 := hO4.cell_some (i := 9) rfl; have u0 := hU4.cell_some (i := 0) rfl; have u1 := hU4.cell_some (i := 1) rfl; have u2 := hU4.cell_some (i := 2) rfl; have u3 := hU4.cell_some (i := 3) rfl; have u4 := hU4.cell_some (i := 4) rfl; have u5 := hU4.cell_some (i := 5) rfl; have u6 := hU4.cell_some (i := 6) rfl; have u7 := hU4.cell_some (i := 7) rfl; have u8 := hU4.cell_some (i := 8) rfl; have HAL := Lib.hid (ialike_yes ans.st ans.code _ _ _ _ ans.got ans.blk w4 (Rgs.of_own hgv4) (Rgs.of_own hg4) hlen.out (Rd.of_own hbv4) (Rd.of_own hb4)); have HU4 := Lib.hid hU4; have HO4 := Lib.hid hO4; have HL4 := Lib.hid hL4; have HD4 := Lib.hid hD4; have HG4 := Lib.hid hG4; obtain ⟨ga2, gcc2, rfl, -⟩ := own_open hg4; obtain ⟨ba2, bcc2, rfl, -⟩ := own_open hb4; clear hg4 hb4 hr4 tr4 hq4 hgv4 hbv4 hU4 hO4 hL4 hD4 hG4)
    | (go_simp; go_at_call 16; refine HAL.out.mono ?_; rintro e w5 ⟨rfl, hB5⟩; have hU5 := HU4.out.later hB5; have hO5 := HO4.out.later hB5; have o1 := hO5.cell_some (i := 1) rfl; have o2 := hO5.cell_some (i := 2) rfl; have o3 := hO5.cell_some (i := 3) rfl; have o4 := hO5.cell_some (i := 4) rfl; have o5 := hO5.cell_some (i := 5) rfl; have o6 := hO5.cell_some (i := 6) rfl; have o7 := hO5.cell_some (i := 7) rfl; have o8 := hO5.cell_some (i := 8) rfl; have o9 := hO5.cell_some (i := 9) rfl; have u0 := hU5.cell_some (i := 0) rfl; have u1 := hU5.cell_some (i := 1) rfl; have u2 := hU5.cell_some (i := 2) rfl; have u3 := hU5.cell_some (i := 3) rfl; have u4 := hU5.cell_some (i := 4) rfl; have u5 := hU5.cell_some (i := 5) rfl; have u6 := hU5.cell_some (i := 6) rfl; have u7 := hU5.cell_some (i := 7) rfl; have u8 := hU5.cell_some (i := 8) rfl; have HL5 := Lib.hid (HL4.out.later hB5); have HD5 := Lib.hid (Rd.later HD4.out hB5); have HG5 := Lib.hid (HG4.out.later hB5); have HU5 := Lib.hid hU5; have HB5 := Lib.hid hB5; clear hU5 hO5 hB5)
    | (go_simp; go_at_call 29; refine (HT3.out _ HD5.out HG5.out HL5.out).mono ?_; rintro e w6 ⟨rfl, hB6⟩; have hU6 := HU5.out.later hB6; have u6 := hU6.cell_some (i := 6) rfl; have HU6 := Lib.hid hU6; have HL6 := Lib.hid (HL5.out.later hB6); have HB6 := Lib.hid (below_trans HB5.out hB6); clear hU6 hB6))
  all_goals
    obtain ⟨S', hf, tf, hfoot⟩ := HF4.out
    have hb1S : ¬ S' b1 := fun e => by
      rcases hfoot b1 e with h | h
      · exact HS1.out h
      · have h1 := HL1.out.2.1
        have h2 : W2.heap.size ≤ b1 := h
        omega
    have hub : W1.heap.size ≠ b1 := fun e => own_blk_ne HL6.out.dat HU6.out (by decide) (by rw [e]; rfl)
    have HF := Lib.hid (hf.later HB6.out); have HT := Lib.hid (tf.trans (Turn.of_below HB6.out S')); have HBS := Lib.hid hb1S; have HUB := Lib.hid hub; have HHD := Lib.hid HL6.out.dat
    have hb1w : w.heap.size ≤ b1 := by have := HL1.out.1; omega
    obtain ⟨N, hN⟩ : ∃ N, N = data.length := ⟨_, rfl⟩
    have hcp1 : N + 8 ≤ c1 := by rw [hN]; exact hcp.1
    have hcp2 : c1 ≤ 9223372036854775807 := hcp.2.1
    have hdat0 : w6.ownsRow W0.heap.size 5 1 (.slice (some ⟨b1, 0, none⟩) (N + 8) c1) (N + 8) ((data ++ marks).map ub) := by rw [hN]; exact HHD.out
    have HDAT := Lib.hid hdat0
    have hN8 : ((data ++ marks).map ub).length = N + 8 := by simp [hN, marks]
    have HN8 := Lib.hid hN8
    rw [← hN] at u6 hl1 dn ⊢
    have HU6' : Hid (w6.cell? ⟨W1.heap.size, 6, none⟩ = some (.slice (some ⟨b1, 0, none⟩) N c1)) := Lib.hid u6
    clear hf tf hfoot hb1S hub hN hdat0 hN8 hcp
    go_wp2_with fail
    go_loopw [11] (fun i wr => ∃ (j : Nat) (cs : List Value), j ≤ N ∧ i = .int .i64 (j : Int) ∧ cs.length = N + 8 ∧ Hid (Bytes8 cs) ∧ Hid (wr.ownsRow W0.heap.size 5 1 (.slice (some ⟨b1, 0, none⟩) (N + 8) c1) (N + 8) cs) ∧ Hid (Same (at1 b1) w6 wr)) (fun i _ => N - (intOf i).toNat)
    case atStart => exact ⟨0, _, Nat.zero_le _, rfl, HN8.out, Lib.hid (bytes8_map _), HDAT, Lib.hid (Same.refl _ _)⟩
    case round =>
      obtain ⟨j, cs, hj, rfl, hcl, HBY, HOW, HSM⟩ := hrel
      have u6 := HSM.out.cell_some HU6'.out (fun e => HUB.out e)
      by_cases hlt : j < N
      · obtain ⟨v, hv⟩ : ∃ v, cs[j]? = some v := ⟨_, List.getElem?_eq_getElem (by omega)⟩
        obtain ⟨z, rfl⟩ := HBY.out j v hv
        obtain ⟨g, cap, rest, he, -, -, -, hbk, -⟩ := own_blk HOW.out (by omega)
        injection he with he1 he2 he3
        injection he1 with he1
        injection he1 with he1
        subst he1
        have c := hbk.cell_some (i := j) (v := .int .u8 z) (by rw [List.getElem?_append_left (by omega)]; exact hv)
        have fr := hbk.frozen j
        have hbl := hbk.lt
        have ix : (j : Int) < (N : Int) := by omega
        clear hv hbk he2 he3
        go_wp2_with fail
        go_region_law (fail)
        all_goals
          go_wp2_with fail
          go_roundw
          case rel => exact ⟨j + 1, _, by omega, by go_num, by rw [List.length_set]; exact hcl, Lib.hid (HBY.out.set j _), Lib.hid ((own_later HOW.out (Below.refl _ _).drew).stored j _).1, Lib.hid (HSM.out.drew.setCell (p := ⟨b1, j, none⟩) (fun _ => rfl) _)⟩
          case measure => simp [intOf]; omega
      · obtain rfl : j = N := by omega
        go_wp2_with fail
        go_ret
        refine ⟨rfl, S', HF.out.same HSM.out fun b hb e => HBS.out (by rw [← show b = b1 from e]; exact hb), HT.out.same.trans HSM.out fun i hi e => ?_, HT.out.foot⟩
        have : i = b1 := e
        omega
theorem iplays_any (h : IDuo w x d S n m) (o : OpI) (dv gv : Value) (hd : Bs w dv o.u.data) (hg : Rgs w gv o.u.got) (hdn : o.u.data ≠ [] → ∀ b, dv.ownBlock = some b → b < w.heap.size ∧ ¬ S b) (hgn : o.u.got ≠ [] → ∀ b, gv.ownBlock = some b → b < w.heap.size ∧ ¬ S b) (hl1 : o.u.data.length ≤ 140737488351232) (hl2 : o.u.got.length ≤ 8796093022000) (hn : n < 4611686018427387904) :
    Calls Tryz.prog 11 #[.pointer (some ⟨x, 0, none⟩), .pointer (some ⟨d, 0, none⟩), opv o dv gv] w (IPlays w x d n S (m.play o)) := by
  by_cases k1 : o.kind = 1
  · exact iplays_take h o dv gv hd hg hdn hgn hl1 hl2 hn k1
  by_cases k2 : o.kind = 2
  · exact iplays_dec h o dv gv hd hg hdn hgn hl1 hl2 hn k2
  by_cases k3 : o.kind = 3
  · exact iplays_drop h o dv gv hd hg hdn hgn hl1 hl2 hn k3
  · exact iplays_else h o dv gv hd hg hdn hgn hl1 hl2 hn k1 k2 k3
end
end Go.Proofs.YtfaemjlemaclbaaGreat
