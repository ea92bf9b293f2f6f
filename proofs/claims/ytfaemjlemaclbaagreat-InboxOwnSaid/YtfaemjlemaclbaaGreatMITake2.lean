/- Take: a session that is decided. Printed by wip/gen_itake.py. -/
import Derived.Test.YtfaemjlemaclbaaGreatMITake
import Derived.Test.YtfaemjlemaclbaaGreatMRefGot
namespace Go.Proofs.YtfaemjlemaclbaaGreat
set_option linter.unusedVariables false
set_option linter.unusedSimpArgs false
open Go.RowKit Go.Maps
section
variable {w : World} {x bo bd t : Nat} {O : List OE} {C : List CE} {m : IM}
variable {w' : World}
theorem IAt.alien (h : IAt w x bo bd t O C m) {g : Nat} {ty : TypeId} {cs : List Value} (hg : Blk w g ty cs) (n1 : 87 ≠ ty) (n2 : 101 ≠ ty) (n3 : 93 ≠ ty) (n4 : 124 ≠ ty) :
    ∀ b, IF x bo bd O C b → b ≠ g := by
  rintro b (rfl | rfl | rfl | ⟨o, ho, rfl | rfl⟩ | ⟨c, hc, rfl⟩)
  · exact h.blk.ne hg n1
  · exact (h.mo.ne hg).symm
  · exact (h.md.ne hg).symm
  · exact (h.ko.blk o ho).ne hg n2
  · exact (h.ko.box o ho).blk.ne hg n4
  · exact (h.kc.blk c hc).ne hg n3
/-- what a call on the inbox leaves. -/
def Took (w w' : World) (x bo bd t' : Nat) (O : List OE) (C : List CE) (m' : IM) : Prop :=
  ∃ O' C', IAt w' x bo bd t' O' C' m' ∧ Same (IF x bo bd O C) w w' ∧ ∀ b, IF x bo bd O' C' b → IF x bo bd O C b ∨ w.heap.size ≤ b
theorem IAt.rebox (h : IAt w x bo bd t O C m) {o : OE} (ho : o ∈ O) (hX : o.box.at w' o.gb) (hs : Same (at1 o.gb) w w') : IAt w' x bo bd t O C m := by
  have n2 := h.ok_ne ho
  refine ⟨h.blk.same hs fun e => n2.2.2.2.1 e.symm, h.mo.same hs fun e => n2.2.2.2.2.1 e.symm, h.md.same hs fun e => n2.2.2.2.2.2.1 e.symm, h.ne, ⟨fun a ha => (h.ko.blk a ha).same hs (h.oo_ne ho ha), fun a ha => ?_, h.ko.srt, h.ko.top, h.ko.nk, h.ko.ng⟩, h.kc.same hs fun c hc => ((h.ck_ne hc).2.2.2 o ho).2, h.eo, h.ec, h.inv⟩
  by_cases e : a.gb = o.gb
  · obtain ⟨i, hi, rfl⟩ := List.mem_iff_getElem.1 ha
    obtain ⟨j, hj, rfl⟩ := List.mem_iff_getElem.1 ho
    have hij : i = j := by
      rcases Nat.lt_trichotomy i j with h' | h' | h'
      · exact absurd e (List.pairwise_iff_getElem.1 h.ko.ng i j hi hj h')
      · exact h'
      · exact absurd e.symm (List.pairwise_iff_getElem.1 h.ko.ng j i hj hi h')
    subst hij
    exact hX
  · exact BoxAt.same (h.ko.box a ha) hs e
theorem IInv.turnO {m : IM} (h : IInv m) {s : Sess} {b b' : BoxS} (hm : (s, b) ∈ m.O) (hb : Known b') : IInv { m with O := wo m.O s ++ [(s, b')] } := by
  refine ⟨nodup_snoc (wo_nodup h.ko s) (fun y => wo_not m.O s y), h.kc, fun p hp => ?_, h.ec, ?_, h.lc, fun p hp => ?_, h.mo1, h.mo2, h.ms1, h.ms2⟩
  · rcases List.mem_append.1 hp with e | e
    · exact h.eo p ((wo_sub s).subset e)
    · simp at e; subst e; exact (show s.1 = m.ep from h.eo (s, b) hm)
  · have := wo_len h.ko hm
    have := h.lo
    show (wo m.O s ++ [(s, b')]).length ≤ m.mo
    simp only [List.length_append, List.length_singleton]
    omega
  · rcases List.mem_append.1 hp with e | e
    · exact h.box p ((wo_sub s).subset e)
    · simp at e; subst e; exact hb
/-- .. when the answer's cells are written behind it. -/
theorem took_ans {w W : World} {x bo bd t' : Nat} {O O' : List OE} {C C' : List CE} {m' : IM} {cs : List Value} {g : Nat} (h : IAt W x bo bd t' O' C' m') (hs : Same (IF x bo bd O C) w W) (hf : ∀ b, IF x bo bd O' C' b → IF x bo bd O C b ∨ w.heap.size ≤ b)
    (hg : Blk W g 45 cs) (hgw : w.heap.size ≤ g) (a b c d : Value) : Took w ((((W.setCell ⟨g, 0, none⟩ a).setCell ⟨g, 1, none⟩ b).setCell ⟨g, 2, none⟩ c).setCell ⟨g, 3, none⟩ d) x bo bd t' O C m' := by
  have hS8 : Same (at1 g) W ((((W.setCell ⟨g, 0, none⟩ a).setCell ⟨g, 1, none⟩ b).setCell ⟨g, 2, none⟩ c).setCell ⟨g, 3, none⟩ d) :=
    ((((Same.refl (at1 g) W).setCell (p := ⟨g, 0, none⟩) (fun _ => rfl) a).setCell (p := ⟨g, 1, none⟩) (fun _ => rfl) b).setCell (p := ⟨g, 2, none⟩) (fun _ => rfl) c).setCell (p := ⟨g, 3, none⟩) (fun _ => rfl) d
  refine ⟨O', C', h.same hS8 fun k hk e => h.alien hg (by decide) (by decide) (by decide) (by decide) k hk e, hs.trans hS8 fun i hi e => ?_, hf⟩
  have : i = g := e
  omega
set_option maxHeartbeats 2000000 in
set_option maxRecDepth 100000 in
theorem take_shut (h : IAt w x bo bd t O C m) (u : UD) (dp gp : Option Addr) (dc gc : Nat) (hk : u.kind = 1) (hdat : u.isData) (hs : ¬ u.ep.toNat < m.ep.toNat) {cd : Int} (hc : lk (m.rise u.ep).C (u.ep, u.ses) = some cd) (ht : t < 4611686018427387904) :
    Calls Tryz.prog 14 #[.pointer (some ⟨x, 0, none⟩), uv u (.slice dp u.data.length dc) (.slice gp u.got.length gc)] w fun e w' => e = .returned (.agg #[.int .i64 5, .int .i64 cd, .slice none 0 0, .slice none 0 0]) ∧ Took w w' x bo bd (t + 1) O C ((m.rise u.ep).touch (u.ep, u.ses) cd) := by
  obtain ⟨kind, ep, ses, path, idx, cnt, data, code, got⟩ := u
  simp only at hk
  subst hk
  have hlt : decide (ep.toNat < m.ep.toNat) = false := by simpa using hs
  have hv := fun W => valid_data ⟨1, ep, ses, path, idx, cnt, data, code, got⟩ dp gp dc gc W rfl
  rw [if_pos hdat] at hv
  simp only [uv] at hv
  simp only [uv]
  obtain ⟨W0, hW0⟩ : ∃ W0, W0 = (w.alloc (.cells #[.int .i64 1, .int .u64 (ep.toNat : Int), .int .u64 (ses.toNat : Int), .int .i64 path, .int .i64 idx, .int .i64 cnt, .slice dp data.length dc, .int .i64 code, .slice gp got.length gc] 35)).alloc (.cells #[.int .i64 0, .int .i64 0, .slice none 0 0, .slice none 0 0] 45) := ⟨_, rfl⟩
  have hB0 : Below w.heap.size w W0 := hW0 ▸ ((Below.refl _ _).alloc (Nat.le_refl _) _).alloc (by simp) _
  have hu0 : Blk W0 w.heap.size 35 [.int .i64 1, .int .u64 (ep.toNat : Int), .int .u64 (ses.toNat : Int), .int .i64 path, .int .i64 idx, .int .i64 cnt, .slice dp data.length dc, .int .i64 code, .slice gp got.length gc] := hW0 ▸ (Blk.new w _ _).alloc _
  have ha0 : Blk W0 (w.heap.size + 1) 45 [.int .i64 0, .int .i64 0, .slice none 0 0, .slice none 0 0] := by
    have := Blk.new (w.alloc (.cells #[.int .i64 1, .int .u64 (ep.toNat : Int), .int .u64 (ses.toNat : Int), .int .i64 path, .int .i64 idx, .int .i64 cnt, .slice dp data.length dc, .int .i64 code, .slice gp got.length gc] 35)) 45 [.int .i64 0, .int .i64 0, .slice none 0 0, .slice none 0 0]
    rw [show (w.alloc (.cells #[.int .i64 1, .int .u64 (ep.toNat : Int), .int .u64 (ses.toNat : Int), .int .i64 path, .int .i64 idx, .int .i64 cnt, .slice dp data.length dc, .int .i64 code, .slice gp got.length gc] 35)).heap.size = w.heap.size + 1 by simp] at this
    exact hW0 ▸ this
  have h0 := h.later hB0
  have c0 := h0.blk.cell_some (i := 0) rfl
  have c1 := h0.blk.cell_some (i := 1) rfl
  have c2 := h0.blk.cell_some (i := 2) rfl
  have c3 := h0.blk.cell_some (i := 3) rfl
  have c4 := h0.blk.cell_some (i := 4) rfl
  have c5 := h0.blk.cell_some (i := 5) rfl
  have d0 := hu0.cell_some (i := 0) rfl
  have d1 := hu0.cell_some (i := 1) rfl
  have d2 := hu0.cell_some (i := 2) rfl
  have d3 := hu0.cell_some (i := 3) rfl
  have d4 := hu0.cell_some (i := 4) rfl
  have d5 := hu0.cell_some (i := 5) rfl
  have d6 := hu0.cell_some (i := 6) rfl
  have d7 := hu0.cell_some (i := 7) rfl
  have d8 := hu0.cell_some (i := 8) rfl
  have HB0 := Lib.hid hB0; have H0 := Lib.hid h0; have HU0 := Lib.hid hu0; have HA0 := Lib.hid ha0; have HIW := Lib.hid h
  clear h h0 hB0 hu0 ha0
  go_enter Tryz.func14, Tryz.ntmps14
  go_wp2_with fail
  rw [← hW0]
  clear hW0
  refine (none_any _ _ _ c3).mono ?_
  rintro e w1 ⟨rfl, hw⟩
  rw [hw]
  clear hw w1
  go_wp2_with fail
  refine (hv _).mono ?_
  rintro e W1 ⟨rfl, hB1⟩
  have c2' := below_cell hB1 c2 (World.block_lt_of_cell? _ _ c2)
  have d1' := below_cell hB1 d1 (World.block_lt_of_cell? _ _ d1)
  have HB1 := Lib.hid hB1
  clear hB1
  go_wp2_with fail
  refine region_class (C := fun w' => w'.cell? ⟨x, 2, none⟩ = some (.int .u64 (m.ep.toNat : Int)) ∧ w'.cell? ⟨w.heap.size, 1, none⟩ = some (.int .u64 (ep.toNat : Int)) ∧ Hid (Below W0.heap.size W0 w')) (by kernel_rfl) (by kernel_rfl) ⟨c2', d1', Lib.hid HB1.out.drew⟩ ?_
  repeat
    (first
     | go_big_quiet_skip
     | (go_big_quiet_want
        rename_i K hK
        apply Exists.intro
        refine ⟨fun w' hw' => ?_, hK _ ?_⟩
        · obtain ⟨c2', d1', hB⟩ := hw'
          go_simp
          first
          | with_reducible rfl
        clear hK K
        simp only [Act.put, List.setIfInBounds_toArray, List.set_cons_zero, List.set_cons_succ]))
  refine wpQuiet_nil ?_
  rintro w5 ⟨c2', d1', hB⟩
  have h5 := H0.out.later hB.out
  have hu5 := HU0.out.later hB.out
  have ha5 := HA0.out.later hB.out
  have hlx : x < w.heap.size := HIW.out.lt (.inl rfl)
  have hlo : bo < w.heap.size := HIW.out.lt (.inr (.inl rfl))
  have hld : bd < w.heap.size := HIW.out.lt (.inr (.inr (.inl rfl)))
  have HB5 := Lib.hid (below_trans HB0.out hB.out)
  have H5 := Lib.hid h5; have HU5 := Lib.hid hu5; have HA5 := Lib.hid ha5
  clear h5 hu5 ha5 hB
  go_wp2_with fail
  refine (rise_any H5.out ep).mono ?_
  rintro e W2 ⟨rfl, O1, C1, hI2, hsO, hsC, hS2⟩
  have hu2 := HU5.out.same hS2 (by rintro (e | e | e) <;> omega)
  have ha2 := HA5.out.same hS2 (by rintro (e | e | e) <;> omega)
  have hB3 : Below W2.heap.size W2 (W2.alloc (.cells #[.int .u64 (ep.toNat : Int), .int .u64 (ses.toNat : Int)] 66)) := (Below.refl _ _).alloc (Nat.le_refl _) _
  have hs3 := Blk.new W2 66 [.int .u64 (ep.toNat : Int), .int .u64 (ses.toNat : Int)]
  have h3 := hI2.later hB3
  have hu3 := hu2.later hB3
  have ha3 := ha2.later hB3
  have d0 := hu2.cell_some (i := 0) rfl
  have d1 := hu2.cell_some (i := 1) rfl
  have d2 := hu2.cell_some (i := 2) rfl
  have d3 := hu2.cell_some (i := 3) rfl
  have d4 := hu2.cell_some (i := 4) rfl
  have d5 := hu2.cell_some (i := 5) rfl
  have d6 := hu2.cell_some (i := 6) rfl
  have d7 := hu2.cell_some (i := 7) rfl
  have d8 := hu2.cell_some (i := 8) rfl
  have g0 := h3.blk.cell_some (i := 0) rfl
  have g1 := h3.blk.cell_some (i := 1) rfl
  have g2 := h3.blk.cell_some (i := 2) rfl
  have g3 := h3.blk.cell_some (i := 3) rfl
  have g4 := h3.blk.cell_some (i := 4) rfl
  have g5 := h3.blk.cell_some (i := 5) rfl
  have s0 := hs3.cell_some (i := 0) rfl
  have s1 := hs3.cell_some (i := 1) rfl
  have hwz : w.heap.size ≤ W2.heap.size := Nat.le_trans HB5.out.size hS2.size
  have HsO := Lib.hid hsO; have HsC := Lib.hid hsC; have HS2 := Lib.hid hS2; have H2 := Lib.hid hI2; have H3 := Lib.hid h3; have HU3 := Lib.hid hu3; have HA3 := Lib.hid ha3; have HS3 := Lib.hid hs3; have HB3 := Lib.hid hB3
  clear hI2 hsO hsC hS2 hu2 ha2 h3 hu3 ha3 hs3 hB3 c0 c1 c2 c3 c4 c5 c2' d1' hv hlt
  obtain ⟨c, hcm, hcs, hcc⟩ := H3.out.memC hc
  have look := fun W hB => H3.out.lookC hcm W hB
  rw [hcs] at look
  simp only [sv] at look
  have HL := Lib.hid look
  have HCM := Lib.hid hcm
  have HCS := Lib.hid hcs; have HCC := Lib.hid hcc
  clear look hcm hcs hcc hc hs hdat
  go_wp2_with fail
  refine region_class (C := fun w' => w'.cell? ⟨x, 4, none⟩ = some (.map (some bd)) ∧ w'.cell? ⟨W2.heap.size, 0, none⟩ = some (.int .u64 (ep.toNat : Int)) ∧ w'.cell? ⟨W2.heap.size, 1, none⟩ = some (.int .u64 (ses.toNat : Int)) ∧ Hid (Below (W2.alloc (.cells #[.int .u64 (ep.toNat : Int), .int .u64 (ses.toNat : Int)] 66)).heap.size (W2.alloc (.cells #[.int .u64 (ep.toNat : Int), .int .u64 (ses.toNat : Int)] 66)) w')) (by kernel_rfl) (by kernel_rfl) ⟨g4, s0, s1, Lib.hid (Below.refl _ _).drew⟩ ?_
  repeat
    (first
     | go_big_quiet_skip
     | (go_big_quiet_want
        rename_i K hK
        apply Exists.intro
        refine ⟨fun w' hw' => ?_, hK _ ?_⟩
        · obtain ⟨g4, s0, s1, hB⟩ := hw'
          have l1 := HL.out w' hB.out
          go_simp
          first
          | with_reducible rfl
        clear hK K
        simp only [Act.put, List.setIfInBounds_toArray, List.set_cons_zero, List.set_cons_succ]))
  refine wpQuiet_nil ?_
  rintro w5 ⟨g4, s0, s1, hB⟩
  have h6 := H3.out.later hB.out
  have hk6 := h6.kc.blk c HCM.out
  have ha6 := HA3.out.later hB.out
  have hxc : x ≠ c.kb := (h6.ck_ne HCM.out).1.symm
  have hac : c.kb ≠ w.heap.size + 1 := hk6.ne ha6 (by decide)
  have hax : x ≠ w.heap.size + 1 := by omega
  have H6 := Lib.hid h6; have HK6 := Lib.hid hk6; have HA6 := Lib.hid ha6; have HB6 := Lib.hid hB.out
  clear h6 hk6 ha6 hB g0 g1 g2 g3 g4 g5 s0 s1 d0 d1 d2 d3 d4 d5 d6 d7 d8
  go_wp2_with fail
  refine (touch_any x c.kb t 93 _ _ _ _ _ _ _ _ H6.out.blk HK6.out hxc ht).mono ?_
  rintro e W7 ⟨rfl, hx7, hk7, hS7⟩
  have k0 := hk7.cell_some (i := 0) rfl
  rw [HCC.out] at k0
  have ha7 := HA6.out.same hS7 (by rintro (e | e); exact hax e.symm; exact hac e.symm)
  have a0 := ha7.cell_some (i := 0) rfl
  have f0 := ha7.frozen 0
  have a1 := ha7.cell_some (i := 1) rfl
  have f1 := ha7.frozen 1
  have a2 := ha7.cell_some (i := 2) rfl
  have f2 := ha7.frozen 2
  have a3 := ha7.cell_some (i := 3) rfl
  have f3 := ha7.frozen 3
  have h7 := H6.out.touchC HCM.out hx7 hk7 hS7
  rw [HCS.out, HCC.out] at h7
  have hfoot : ∀ b, IF x bo bd O1 (cwo C1 (ep, ses) ++ [⟨(ep, ses), c.kb, t + 1, cd⟩]) b → IF x bo bd O C b := fun b hb => by
    rcases hb with e | e | e | ⟨o, ho, e⟩ | ⟨c', hc, e⟩
    · exact .inl e
    · exact .inr (.inl e)
    · exact .inr (.inr (.inl e))
    · exact .inr (.inr (.inr (.inl ⟨o, HsO.out.subset ho, e⟩)))
    · rcases List.mem_append.1 hc with h | h
      · exact .inr (.inr (.inr (.inr ⟨c', HsC.out.subset ((cwo_sub C1 _).subset h), e⟩)))
      · simp at h
        subst h
        exact .inr (.inr (.inr (.inr ⟨c, HsC.out.subset HCM.out, e⟩)))
  have hSw : Same (IF x bo bd O C) w W7 := ((((Same.of_below HB5.out (IF x bo bd O C)).trans HS2.out fun i hi e => by
    rcases e with e | e | e
    · exact .inl e
    · exact .inr (.inl e)
    · exact .inr (.inr (.inl e))).trans (Same.of_below HB3.out no) fun i hi e => e.elim).trans (Same.of_below HB6.out no) fun i hi e => e.elim).trans hS7 fun i hi e => by
    rcases e with e | e
    · exact .inl e
    · exact .inr (.inr (.inr (.inr ⟨c, HsC.out.subset HCM.out, e⟩)))
  have HSW := Lib.hid hSw; have HF := Lib.hid hfoot; have H7 := Lib.hid h7; have HA7 := Lib.hid ha7
  clear hx7 hk7 hS7 ha7 h7 hfoot hSw
  go_wp2_with fail
  refine bodyPost_ret (v := .agg #[.int .i64 5, .int .i64 cd, .slice none 0 0, .slice none 0 0]) (results_cell_row rfl _ _ (w.heap.size + 1) _ _ _ _ rfl ((((HA7.out.set 0 (.int .i64 5)).set 1 (.int .i64 cd)).set 2 (.slice none 0 0)).set 3 (.slice none 0 0)) Tryz.underlying45 rfl (by kernel_rfl)) rfl ?_
  have hS8 : Same (at1 (w.heap.size + 1)) W7 _ := ((((Same.refl (at1 (w.heap.size + 1)) W7).setCell (p := ⟨w.heap.size + 1, 0, none⟩) (fun _ => rfl) (.int .i64 5)).setCell (p := ⟨w.heap.size + 1, 1, none⟩) (fun _ => rfl) (.int .i64 cd)).setCell (p := ⟨w.heap.size + 1, 2, none⟩) (fun _ => rfl) (.slice none 0 0)).setCell (p := ⟨w.heap.size + 1, 3, none⟩) (fun _ => rfl) (.slice none 0 0)
  refine ⟨rfl, _, _, H7.out.same hS8 fun b hb e => ?_, HSW.out.trans hS8 fun i hi e => ?_, fun b hb => .inl (HF.out b hb)⟩
  · have h1 := HIW.out.lt (HF.out b hb)
    have : b = w.heap.size + 1 := e
    omega
  · have : i = w.heap.size + 1 := e
    omega
end
end Go.Proofs.YtfaemjlemaclbaaGreat
