/- plays: one call on an inbox and on the reference's; the answers are the same. Printed by wip/gen_iplays.py. -/
import Derived.Test.YtfaemjlemaclbaaGreatMIDuo
import Derived.Test.YtfaemjlemaclbaaGreatMRefGot
import Derived.Test.YtfaemjlemaclbaaGreatMIStays
import Derived.Deep.RegionLaw
namespace Go.Proofs.YtfaemjlemaclbaaGreat
set_option linter.unusedVariables false
set_option linter.unusedSimpArgs false
open Go.RowKit Go.Maps
def IPlays (w : World) (x d n : Nat) (S : Nat → Prop) (m' : IM) (e : Ending) (w' : World) : Prop := e = .returned (.bool true) ∧ ∃ S', IDuo w' x d S' (n + 1) m' ∧ Turn S S' w w'
section
variable {w w1 w2 w3 : World} {x d n : Nat} {S Si Sr Si' Sr' : Nat → Prop} {m m' : IM}
theorem Turn.rin (t : Turn Si Si' w1 w2) (hd : ∀ b, Si b → ¬ Sr b) (h : RIn w1 d Sr m) : RIn w2 d Sr m ∧ ∀ b, Si' b → ¬ Sr b :=
  ⟨h.same t.same fun b hb e => hd b e hb, fun b hb e => by
    rcases t.foot b hb with h' | h'
    · exact hd b h' e
    · have := h.lt e; omega⟩
theorem Turn.pin (t : Turn Sr Sr' w1 w2) (hd : ∀ b, Si b → ¬ Sr b) (h : In w1 x Si n m) : In w2 x Si n m ∧ ∀ b, Si b → ¬ Sr' b :=
  ⟨h.same t.same fun b hb e => hd b hb e, fun b hb e => by
    rcases t.foot b e with h' | h'
    · exact hd b hb h'
    · have := h.lt hb; omega⟩
theorem iduo_mk (hS : ∀ b, Si b ∨ Sr b ↔ S b) (hd : ∀ b, Si b → ¬ Sr b) (hl : ∀ b, S b → b < w.heap.size) (hB : Below w.heap.size w w1) (t1 : Turn Si Si' w1 w2) (t2 : Turn Sr Sr' w2 w3) (h1 : In w2 x Si' n m') (h2 : RIn w3 d Sr' m') :
    ∃ S', IDuo w3 x d S' n m' ∧ Turn S S' w w3 ∧ ∀ b, S' b → S b ∨ w1.heap.size ≤ b := by
  have d1 : ∀ b, Si' b → ¬ Sr b := fun b hb e => by
    rcases t1.foot b hb with h' | h'
    · exact hd b h' e
    · have := hl b ((hS b).1 (.inr e)); have := hB.size; omega
  obtain ⟨h1', d2⟩ := t2.pin d1 h1
  refine ⟨fun b => Si' b ∨ Sr' b, ⟨Si', Sr', h1', h2, d2, fun b => Iff.rfl⟩, ⟨?_, fun b hb => ?_⟩, fun b hb => ?_⟩
  · refine ((Same.of_below hB S).trans t1.same fun i _ e => (hS i).1 (.inl e)).trans t2.same fun i _ e => (hS i).1 (.inr e)
  · have z1 := hB.size
    have z2 := t1.same.size
    rcases hb with hb | hb
    · rcases t1.foot b hb with e | e
      · exact .inl ((hS b).1 (.inl e))
      · right; omega
    · rcases t2.foot b hb with e | e
      · exact .inl ((hS b).1 (.inr e))
      · right; omega
  · have z2 := t1.same.size
    rcases hb with hb | hb
    · exact (t1.foot b hb).imp (fun e => (hS b).1 (.inl e)) id
    · rcases t2.foot b hb with e | e
      · exact .inl ((hS b).1 (.inr e))
      · exact .inr (Nat.le_trans z2 e)
end
section
variable {w : World} {x d n : Nat} {S : Nat → Prop} {m : IM}
set_option maxHeartbeats 4000000 in
set_option maxRecDepth 100000 in
theorem iplays_dec (h : IDuo w x d S n m) (o : OpI) (dv gv : Value) (hd : Bs w dv o.u.data) (hg : Rgs w gv o.u.got) (hdn : o.u.data ≠ [] → ∀ b, dv.ownBlock = some b → b < w.heap.size ∧ ¬ S b) (hgn : o.u.got ≠ [] → ∀ b, gv.ownBlock = some b → b < w.heap.size ∧ ¬ S b) (hl1 : o.u.data.length ≤ 140737488351232) (hl2 : o.u.got.length ≤ 8796093022000) (hn : n < 4611686018427387904) (hk : o.kind = 2) :
    Calls Tryz.prog 11 #[.pointer (some ⟨x, 0, none⟩), .pointer (some ⟨d, 0, none⟩), opv o dv gv] w (IPlays w x d n S (m.play o)) := by
  have hp : m.play o = (m.dec (o.ep, o.num) o.code).1 := by unfold IM.play; rw [hk]; rfl
  rw [hp]
  clear hp
  obtain ⟨okind, ⟨ukind, uep, uses, path, idx, cnt, data, ucode, got⟩, oep, onum, ocode⟩ := o
  simp only at hd hg hdn hgn hl1 hl2 hk ⊢
  subst hk
  obtain ⟨dp, dc, rfl, dn, dm, -⟩ := id hd
  obtain ⟨gp, gc, rfl, gn, gm, -⟩ := id hg
  simp only [opv]
  have hlt := fun b => h.lt (b := b)
  have hinv := h.inv
  obtain ⟨Si, Sr, h1, h2, h3, h4⟩ := h
  obtain ⟨W0, hW0⟩ : ∃ W0, W0 = ((w.alloc (.cells #[.int .i64 2, .int .i64 ukind, .int .u64 (uep.toNat : Int), .int .u64 (uses.toNat : Int), .int .i64 path, .int .i64 idx, .int .i64 cnt, .slice dp data.length dc, .int .i64 ucode, .slice gp got.length gc, .int .u64 (oep.toNat : Int), .int .u64 (onum.toNat : Int), .int .i64 ocode] 37)).alloc (.cells #[.int .u64 (oep.toNat : Int), .int .u64 (onum.toNat : Int)] 66)).alloc (.cells #[.int .u64 (oep.toNat : Int), .int .u64 (onum.toNat : Int)] 68) := ⟨_, rfl⟩
  have hB0 : Below w.heap.size w W0 := hW0 ▸ (((Below.refl _ _).alloc (Nat.le_refl _) _).alloc (by simp) _).alloc (by simp; omega) _
  have ho0 : Blk W0 w.heap.size 37 [.int .i64 2, .int .i64 ukind, .int .u64 (uep.toNat : Int), .int .u64 (uses.toNat : Int), .int .i64 path, .int .i64 idx, .int .i64 cnt, .slice dp data.length dc, .int .i64 ucode, .slice gp got.length gc, .int .u64 (oep.toNat : Int), .int .u64 (onum.toNat : Int), .int .i64 ocode] := hW0 ▸ ((Blk.new w _ _).alloc _).alloc _
  have hs0 : Blk W0 (w.heap.size + 1) 66 [.int .u64 (oep.toNat : Int), .int .u64 (onum.toNat : Int)] := by
    have := (Blk.new (w.alloc (.cells #[.int .i64 2, .int .i64 ukind, .int .u64 (uep.toNat : Int), .int .u64 (uses.toNat : Int), .int .i64 path, .int .i64 idx, .int .i64 cnt, .slice dp data.length dc, .int .i64 ucode, .slice gp got.length gc, .int .u64 (oep.toNat : Int), .int .u64 (onum.toNat : Int), .int .i64 ocode] 37)) 66 [.int .u64 (oep.toNat : Int), .int .u64 (onum.toNat : Int)]).alloc (.cells #[.int .u64 (oep.toNat : Int), .int .u64 (onum.toNat : Int)] 68)
    rw [show (w.alloc (.cells #[.int .i64 2, .int .i64 ukind, .int .u64 (uep.toNat : Int), .int .u64 (uses.toNat : Int), .int .i64 path, .int .i64 idx, .int .i64 cnt, .slice dp data.length dc, .int .i64 ucode, .slice gp got.length gc, .int .u64 (oep.toNat : Int), .int .u64 (onum.toNat : Int), .int .i64 ocode] 37)).heap.size = w.heap.size + 1 by simp] at this
    exact hW0 ▸ this
  have ht0 : Blk W0 (w.heap.size + 2) 68 [.int .u64 (oep.toNat : Int), .int .u64 (onum.toNat : Int)] := by
    have := Blk.new ((w.alloc (.cells #[.int .i64 2, .int .i64 ukind, .int .u64 (uep.toNat : Int), .int .u64 (uses.toNat : Int), .int .i64 path, .int .i64 idx, .int .i64 cnt, .slice dp data.length dc, .int .i64 ucode, .slice gp got.length gc, .int .u64 (oep.toNat : Int), .int .u64 (onum.toNat : Int), .int .i64 ocode] 37)).alloc (.cells #[.int .u64 (oep.toNat : Int), .int .u64 (onum.toNat : Int)] 66)) 68 [.int .u64 (oep.toNat : Int), .int .u64 (onum.toNat : Int)]
    rw [show ((w.alloc (.cells #[.int .i64 2, .int .i64 ukind, .int .u64 (uep.toNat : Int), .int .u64 (uses.toNat : Int), .int .i64 path, .int .i64 idx, .int .i64 cnt, .slice dp data.length dc, .int .i64 ucode, .slice gp got.length gc, .int .u64 (oep.toNat : Int), .int .u64 (onum.toNat : Int), .int .i64 ocode] 37)).alloc (.cells #[.int .u64 (oep.toNat : Int), .int .u64 (onum.toNat : Int)] 66)).heap.size = w.heap.size + 2 by simp] at this
    exact hW0 ▸ this
  have hz0 : w.heap.size + 2 < W0.heap.size := ht0.lt
  have o12 := ho0.cell_some (i := 12) rfl
  have s0 := hs0.cell_some (i := 0) rfl
  have s1 := hs0.cell_some (i := 1) rfl
  have t0 := ht0.cell_some (i := 0) rfl
  have t1 := ht0.cell_some (i := 1) rfl
  have HI := Lib.hid (h1.later (hB0.drew : Below w.heap.size w W0.drew)); have HR := Lib.hid (h2.later (hB0.drew : Below w.heap.size w W0.drew)); have H3 := Lib.hid h3; have H4 := Lib.hid h4; have HLT := Lib.hid hlt; have HINV := Lib.hid hinv; have HB := Lib.hid (hB0.drew : Below w.heap.size w W0.drew); have HO := Lib.hid (ho0.drew : Blk W0.drew _ _ _); have HTT := Lib.hid (ht0.drew : Blk W0.drew _ _ _)
  obtain ⟨q, hq⟩ : ∃ q, q = (m.dec (oep, onum) ocode).2 := ⟨_, rfl⟩
  have HQ := Lib.hid hq
  have hT1 := in_dec HI.out (oep, onum) ocode hn
  simp only at hT1
  rw [← hq] at hT1
  have hT2 := fun W F (h : RIn W d F m) => ri_dec h hinv (oep, onum) ocode
  simp only at hT2
  rw [← hq] at hT2
  have HT1 := Lib.hid hT1; have HT2 := Lib.hid hT2
  clear h1 h2 h3 h4 hlt hinv hB0 ho0 hs0 ht0 hd hg hdn hgn hq hT1 hT2
  go_enter Tryz.func11, Tryz.ntmps11
  go_wp2_with fail
  rw [← hW0]
  clear hW0
  go_region_law (first
    | (go_simp; go_at_call 26; refine HT1.out.mono ?_; rintro e w2 ⟨rfl, Si', hi2, ti2⟩; have ho2 := HO.out.same ti2.same (fun e => by have := HLT.out _ ((H4.out _).1 (.inl e)); omega); have ht2 := HTT.out.same ti2.same (fun e => by have := HLT.out _ ((H4.out _).1 (.inl e)); omega); have o12 := ho2.cell_some (i := 12) rfl; have t0 := ht2.cell_some (i := 0) rfl; have t1 := ht2.cell_some (i := 1) rfl; have R2 := Lib.hid (ti2.rin H3.out HR.out).1; have I2 := Lib.hid hi2; have TI2 := Lib.hid ti2; clear hi2 ti2 ho2 ht2)
    | (go_simp; go_at_call 30; refine (HT2.out _ _ R2.out).mono ?_; rintro e w3 ⟨rfl, Sr', hr3, tr3⟩; have HF := Lib.hid (iduo_mk H4.out H3.out HLT.out HB.out TI2.out tr3 I2.out hr3); clear hr3 tr3))
  all_goals
    go_wp2_with fail
    go_ret
    refine ⟨rfl, ?_⟩
    obtain ⟨S', f1, f2, -⟩ := HF.out
    exact ⟨S', f1, f2⟩
set_option maxHeartbeats 4000000 in
set_option maxRecDepth 100000 in
theorem iplays_drop (h : IDuo w x d S n m) (o : OpI) (dv gv : Value) (hd : Bs w dv o.u.data) (hg : Rgs w gv o.u.got) (hdn : o.u.data ≠ [] → ∀ b, dv.ownBlock = some b → b < w.heap.size ∧ ¬ S b) (hgn : o.u.got ≠ [] → ∀ b, gv.ownBlock = some b → b < w.heap.size ∧ ¬ S b) (hl1 : o.u.data.length ≤ 140737488351232) (hl2 : o.u.got.length ≤ 8796093022000) (hn : n < 4611686018427387904) (hk : o.kind = 3) :
    Calls Tryz.prog 11 #[.pointer (some ⟨x, 0, none⟩), .pointer (some ⟨d, 0, none⟩), opv o dv gv] w (IPlays w x d n S (m.play o)) := by
  have hp : m.play o = (m.drop (o.ep, o.num)).1 := by unfold IM.play; rw [hk]; rfl
  rw [hp]
  clear hp
  obtain ⟨okind, ⟨ukind, uep, uses, path, idx, cnt, data, ucode, got⟩, oep, onum, ocode⟩ := o
  simp only at hd hg hdn hgn hl1 hl2 hk ⊢
  subst hk
  obtain ⟨dp, dc, rfl, dn, dm, -⟩ := id hd
  obtain ⟨gp, gc, rfl, gn, gm, -⟩ := id hg
  simp only [opv]
  have hlt := fun b => h.lt (b := b)
  have hinv := h.inv
  obtain ⟨Si, Sr, h1, h2, h3, h4⟩ := h
  obtain ⟨W0, hW0⟩ : ∃ W0, W0 = ((w.alloc (.cells #[.int .i64 3, .int .i64 ukind, .int .u64 (uep.toNat : Int), .int .u64 (uses.toNat : Int), .int .i64 path, .int .i64 idx, .int .i64 cnt, .slice dp data.length dc, .int .i64 ucode, .slice gp got.length gc, .int .u64 (oep.toNat : Int), .int .u64 (onum.toNat : Int), .int .i64 ocode] 37)).alloc (.cells #[.int .u64 (oep.toNat : Int), .int .u64 (onum.toNat : Int)] 66)).alloc (.cells #[.int .u64 (oep.toNat : Int), .int .u64 (onum.toNat : Int)] 68) := ⟨_, rfl⟩
  have hB0 : Below w.heap.size w W0 := hW0 ▸ (((Below.refl _ _).alloc (Nat.le_refl _) _).alloc (by simp) _).alloc (by simp; omega) _
  have ho0 : Blk W0 w.heap.size 37 [.int .i64 3, .int .i64 ukind, .int .u64 (uep.toNat : Int), .int .u64 (uses.toNat : Int), .int .i64 path, .int .i64 idx, .int .i64 cnt, .slice dp data.length dc, .int .i64 ucode, .slice gp got.length gc, .int .u64 (oep.toNat : Int), .int .u64 (onum.toNat : Int), .int .i64 ocode] := hW0 ▸ ((Blk.new w _ _).alloc _).alloc _
  have hs0 : Blk W0 (w.heap.size + 1) 66 [.int .u64 (oep.toNat : Int), .int .u64 (onum.toNat : Int)] := by
    have := (Blk.new (w.alloc (.cells #[.int .i64 3, .int .i64 ukind, .int .u64 (uep.toNat : Int), .int .u64 (uses.toNat : Int), .int .i64 path, .int .i64 idx, .int .i64 cnt, .slice dp data.length dc, .int .i64 ucode, .slice gp got.length gc, .int .u64 (oep.toNat : Int), .int .u64 (onum.toNat : Int), .int .i64 ocode] 37)) 66 [.int .u64 (oep.toNat : Int), .int .u64 (onum.toNat : Int)]).alloc (.cells #[.int .u64 (oep.toNat : Int), .int .u64 (onum.toNat : Int)] 68)
    rw [show (w.alloc (.cells #[.int .i64 3, .int .i64 ukind, .int .u64 (uep.toNat : Int), .int .u64 (uses.toNat : Int), .int .i64 path, .int .i64 idx, .int .i64 cnt, .slice dp data.length dc, .int .i64 ucode, .slice gp got.length gc, .int .u64 (oep.toNat : Int), .int .u64 (onum.toNat : Int), .int .i64 ocode] 37)).heap.size = w.heap.size + 1 by simp] at this
    exact hW0 ▸ this
  have ht0 : Blk W0 (w.heap.size + 2) 68 [.int .u64 (oep.toNat : Int), .int .u64 (onum.toNat : Int)] := by
    have := Blk.new ((w.alloc (.cells #[.int .i64 3, .int .i64 ukind, .int .u64 (uep.toNat : Int), .int .u64 (uses.toNat : Int), .int .i64 path, .int .i64 idx, .int .i64 cnt, .slice dp data.length dc, .int .i64 ucode, .slice gp got.length gc, .int .u64 (oep.toNat : Int), .int .u64 (onum.toNat : Int), .int .i64 ocode] 37)).alloc (.cells #[.int .u64 (oep.toNat : Int), .int .u64 (onum.toNat : Int)] 66)) 68 [.int .u64 (oep.toNat : Int), .int .u64 (onum.toNat : Int)]
    rw [show ((w.alloc (.cells #[.int .i64 3, .int .i64 ukind, .int .u64 (uep.toNat : Int), .int .u64 (uses.toNat : Int), .int .i64 path, .int .i64 idx, .int .i64 cnt, .slice dp data.length dc, .int .i64 ucode, .slice gp got.length gc, .int .u64 (oep.toNat : Int), .int .u64 (onum.toNat : Int), .int .i64 ocode] 37)).alloc (.cells #[.int .u64 (oep.toNat : Int), .int .u64 (onum.toNat : Int)] 66)).heap.size = w.heap.size + 2 by simp] at this
    exact hW0 ▸ this
  have hz0 : w.heap.size + 2 < W0.heap.size := ht0.lt
  have o12 := ho0.cell_some (i := 12) rfl
  have s0 := hs0.cell_some (i := 0) rfl
  have s1 := hs0.cell_some (i := 1) rfl
  have t0 := ht0.cell_some (i := 0) rfl
  have t1 := ht0.cell_some (i := 1) rfl
  have HI := Lib.hid (h1.later (hB0.drew : Below w.heap.size w W0.drew)); have HR := Lib.hid (h2.later (hB0.drew : Below w.heap.size w W0.drew)); have H3 := Lib.hid h3; have H4 := Lib.hid h4; have HLT := Lib.hid hlt; have HINV := Lib.hid hinv; have HB := Lib.hid (hB0.drew : Below w.heap.size w W0.drew); have HO := Lib.hid (ho0.drew : Blk W0.drew _ _ _); have HTT := Lib.hid (ht0.drew : Blk W0.drew _ _ _)
  obtain ⟨q, hq⟩ : ∃ q, q = (m.drop (oep, onum)).2 := ⟨_, rfl⟩
  have HQ := Lib.hid hq
  have hT1 := in_drop HI.out (oep, onum)
  simp only at hT1
  rw [← hq] at hT1
  have hT2 := fun W F (h : RIn W d F m) => ri_drop h hinv (oep, onum)
  simp only at hT2
  rw [← hq] at hT2
  have HT1 := Lib.hid hT1; have HT2 := Lib.hid hT2
  clear h1 h2 h3 h4 hlt hinv hB0 ho0 hs0 ht0 hd hg hdn hgn hq hT1 hT2
  go_enter Tryz.func11, Tryz.ntmps11
  go_wp2_with fail
  rw [← hW0]
  clear hW0
  go_region_law (first
    | (go_simp; go_at_call 31; refine HT1.out.mono ?_; rintro e w2 ⟨rfl, Si', hi2, ti2⟩; have ho2 := HO.out.same ti2.same (fun e => by have := HLT.out _ ((H4.out _).1 (.inl e)); omega); have ht2 := HTT.out.same ti2.same (fun e => by have := HLT.out _ ((H4.out _).1 (.inl e)); omega); have o12 := ho2.cell_some (i := 12) rfl; have t0 := ht2.cell_some (i := 0) rfl; have t1 := ht2.cell_some (i := 1) rfl; have R2 := Lib.hid (ti2.rin H3.out HR.out).1; have I2 := Lib.hid hi2; have TI2 := Lib.hid ti2; clear hi2 ti2 ho2 ht2)
    | (go_simp; go_at_call 32; refine (HT2.out _ _ R2.out).mono ?_; rintro e w3 ⟨rfl, Sr', hr3, tr3⟩; have HF := Lib.hid (iduo_mk H4.out H3.out HLT.out HB.out TI2.out tr3 I2.out hr3); clear hr3 tr3))
  all_goals
    go_wp2_with fail
    go_ret
    refine ⟨rfl, ?_⟩
    obtain ⟨S', f1, f2, -⟩ := HF.out
    exact ⟨S', f1.mono (Nat.le_succ n), f2⟩
set_option maxHeartbeats 4000000 in
set_option maxRecDepth 100000 in
theorem iplays_else (h : IDuo w x d S n m) (o : OpI) (dv gv : Value) (hd : Bs w dv o.u.data) (hg : Rgs w gv o.u.got) (hdn : o.u.data ≠ [] → ∀ b, dv.ownBlock = some b → b < w.heap.size ∧ ¬ S b) (hgn : o.u.got ≠ [] → ∀ b, gv.ownBlock = some b → b < w.heap.size ∧ ¬ S b) (hl1 : o.u.data.length ≤ 140737488351232) (hl2 : o.u.got.length ≤ 8796093022000) (hn : n < 4611686018427387904) (k1 : o.kind ≠ 1) (k2 : o.kind ≠ 2) (k3 : o.kind ≠ 3) :
    Calls Tryz.prog 11 #[.pointer (some ⟨x, 0, none⟩), .pointer (some ⟨d, 0, none⟩), opv o dv gv] w (IPlays w x d n S (m.play o)) := by
  have hp : m.play o = m := by unfold IM.play; rw [if_neg k1, if_neg k2, if_neg k3]
  rw [hp]
  clear hp
  obtain ⟨okind, ⟨ukind, uep, uses, path, idx, cnt, data, ucode, got⟩, oep, onum, ocode⟩ := o
  simp only at k1 k2 k3
  simp only [opv]
  have b1 : (okind == 1) = false := by simpa using k1
  have b2 : (okind == 2) = false := by simpa using k2
  have b3 : (okind == 3) = false := by simpa using k3
  have H := Lib.hid h
  clear h k1 k2 k3 hd hg hdn hgn
  go_enter Tryz.func11, Tryz.ntmps11
  go_wp2_with fail
  go_ret
  have hB : Below w.heap.size w (((w.alloc (.cells #[.int .i64 okind, .int .i64 ukind, .int .u64 (uep.toNat : Int), .int .u64 (uses.toNat : Int), .int .i64 path, .int .i64 idx, .int .i64 cnt, dv, .int .i64 ucode, gv, .int .u64 (oep.toNat : Int), .int .u64 (onum.toNat : Int), .int .i64 ocode] 37)).alloc (.cells #[.int .u64 (oep.toNat : Int), .int .u64 (onum.toNat : Int)] 66)).alloc (.cells #[.int .u64 (oep.toNat : Int), .int .u64 (onum.toNat : Int)] 68)) := (((Below.refl _ _).alloc (Nat.le_refl _) _).alloc (by simp) _).alloc (by simp; omega) _
  exact ⟨rfl, S, (H.out.later hB).mono (Nat.le_succ n), Turn.of_below hB S⟩
end
end Go.Proofs.YtfaemjlemaclbaaGreat
