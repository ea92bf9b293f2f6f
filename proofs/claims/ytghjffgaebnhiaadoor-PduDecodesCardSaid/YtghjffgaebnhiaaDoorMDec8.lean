/- pdu.Decode. -/
import Derived.Test.YtghjffgaebnhiaaDoorMDec7
import Derived.Test.YtghjffgaebnhiaaDoorMValidA
import Derived.Test.YtghjffgaebnhiaaDoorMKept
namespace Go.Proofs.YtghjffgaebnhiaaDoor
set_option linter.unusedVariables false
set_option linter.unusedSimpArgs false
open Go.RowKit
theorem results_cr {P : Program} {fn : Func} {p u : Tmp} {ty : TypeId} (h : fn.results = #[.cell p ty, .tmp u]) (tmps : Array Value) (w : World) (g : Nat) (t : TypeId) (cs : Array Value) (fr : Nat × Nat) (d : TypeDesc)
    (hp : tmps.getD p undef = .pointer (some ⟨g, 0, none⟩)) (hg : w.heap[g]? = some (.cells cs t fr))
    (hu : P.underlying ty = some d) (hd : (match d with | .struct _ | .array _ _ => true | _ => false) = true) (hi : (P.info? ty).map (·.size) = some cs.size) :
    (results fn tmps).run P w = .ok (.tuple #[.agg cs, tmps.getD u undef]) w := by
  rw [results_cell_tmp h, hp]
  simp [asAddr, run_loadVar_row w g t ty cs fr d hg hu hd hi]
def decP (b : List UInt8) : UD × Nat := if (unsealP b).2 ≠ 0 then (zeroU, (unsealP b).2) else decB (unsealP b).1
def DecPost (p : UD × Nat) (w : World) (e : Ending) (w' : World) : Prop :=
  ∃ dv gv, e = .returned (.tuple #[uv p.1 dv gv, .int .i64 (p.2 : Int)]) ∧ w'.ownsRow w.heap.size 5 1 dv p.1.data.length (p.1.data.map ub) ∧ w'.ownsRow w.heap.size 57 2 gv p.1.got.length (rvs p.1.got) ∧ Below w.heap.size w w'
set_option maxHeartbeats 1000000 in
set_option maxRecDepth 100000 in
theorem readCancel_any (a b : Value) (w : World) :
    Calls Tryd.prog 79 #[a, b] w fun e w' => e = .returned (.tuple #[]) ∧ w' = w := by
  go_enter Tryd.func79, Tryd.ntmps79
  go_wp2_with fail
  go_end0
  exact ⟨rfl, rfl⟩
def stores9 (w : World) (r : Nat) (a b c d e f g h i : Value) : World := ((((((((w.setCell ⟨r, 0, none⟩ a).setCell ⟨r, 1, none⟩ b).setCell ⟨r, 2, none⟩ c).setCell ⟨r, 3, none⟩ d).setCell ⟨r, 4, none⟩ e).setCell ⟨r, 5, none⟩ f).setCell ⟨r, 6, none⟩ g).setCell ⟨r, 7, none⟩ h).setCell ⟨r, 8, none⟩ i
theorem stores9_same (w : World) (r : Nat) (a b c d e f g h i : Value) : Same (at1 r) w (stores9 w r a b c d e f g h i) :=
  (((((((((Same.refl (at1 r) w).setCell (p := ⟨r, 0, none⟩) (fun _ => rfl) a).setCell (p := ⟨r, 1, none⟩) (fun _ => rfl) b).setCell (p := ⟨r, 2, none⟩) (fun _ => rfl) c).setCell (p := ⟨r, 3, none⟩) (fun _ => rfl) d).setCell (p := ⟨r, 4, none⟩) (fun _ => rfl) e).setCell (p := ⟨r, 5, none⟩) (fun _ => rfl) f).setCell (p := ⟨r, 6, none⟩) (fun _ => rfl) g).setCell (p := ⟨r, 7, none⟩) (fun _ => rfl) h).setCell (p := ⟨r, 8, none⟩) (fun _ => rfl) i
theorem stores9_blk {w : World} {r : Nat} {t : TypeId} {cs : List Value} (hb : Blk w r t cs) (hl : cs.length = 9) (a b c d e f g h i : Value) : Blk (stores9 w r a b c d e f g h i) r t [a, b, c, d, e, f, g, h, i] := by
  have := ((((((((hb.set 0 a).set 1 b).set 2 c).set 3 d).set 4 e).set 5 f).set 6 g).set 7 h).set 8 i
  match cs, hl with
  | [_, _, _, _, _, _, _, _, _], _ => exact this
abbrev zcells : List Value := [.int .i64 0, .int .u64 0, .int .u64 0, .int .i64 0, .int .i64 0, .int .i64 0, .slice none 0 0, .int .i64 0, .slice none 0 0]
abbrev zarr : Array Value := #[.int .i64 0, .int .u64 0, .int .u64 0, .int .i64 0, .int .i64 0, .int .i64 0, .slice none 0 0, .int .i64 0, .slice none 0 0]
theorem below_same {w a b : World} {S : Nat → Prop} (h : Below w.heap.size w a) (hs : Same S a b) (hS : ∀ i, i < w.heap.size → ¬ S i) : Below w.heap.size w b := h.trans (hs.belowB fun i hi => ⟨Nat.lt_of_lt_of_le hi h.size, hS i hi⟩)
/-- the answer where there is a fault. -/
theorem dec_bad {w W : World} {f : Nat} (hs : Below w.heap.size w W) : DecPost (zeroU, f) w (.returned (.tuple #[.agg zarr, .int .i64 (f : Int)])) W :=
  ⟨.slice none 0 0, .slice none 0 0, rfl, World.ownsRow_nil _ _ _ _, World.ownsRow_nil _ _ _ _, hs⟩
set_option maxHeartbeats 8000000 in
set_option maxRecDepth 100000 in
theorem decode_any (v : Value) (b : List UInt8) (w : World) (hb : Bs w v b) (ht : Tab w) (hl : b.length ≤ 140737488355328) :
    Calls Tryd.prog 16 #[v] w (DecPost (decP b) w) := by
  obtain ⟨P, hP⟩ : ∃ P, P = decP b := ⟨_, rfl⟩
  rw [← hP]
  obtain ⟨ao, cap, rfl, -⟩ := id hb
  obtain ⟨W0, hW0⟩ : ∃ W0, W0 = w.alloc (.cells zarr 26) := ⟨_, rfl⟩
  have hB0 : Below w.heap.size w W0 := hW0 ▸ (Below.refl _ _).alloc (Nat.le_refl _) _
  have hR0 : Blk W0 w.heap.size 26 zcells := hW0 ▸ Blk.new w _ zcells
  have hun := unseal_any _ b W0 (Rd.later hb hB0) (ht.later hB0) hl
  obtain ⟨n, hn⟩ : ∃ n, n = b.length := ⟨_, rfl⟩
  have hle : (unsealP b).1.length ≤ 140737488355328 := by
    have : (unsealP b).1.length ≤ b.length := by
      unfold unsealP
      split
      · exact Nat.zero_le _
      · split
        · simp only [List.length_take]; omega
        · exact Nat.zero_le _
    omega
  rw [← hn] at hun ⊢
  unfold decP at hP
  generalize unsealP b = up at *
  obtain ⟨l, e⟩ := up
  simp only at hun hle hP
  have HUN := Lib.hid hun; have HP := Lib.hid hP; have HB0 := Lib.hid hB0; have HR0 := Lib.hid hR0; have HLE := Lib.hid hle
  clear hun hP hB0 hR0 hb ht hl hn hle
  go_enter Tryd.func16, Tryd.ntmps16
  go_wp2_with fail
  rw [← hW0]
  have HW0 := Lib.hid hW0
  clear hW0
  refine HUN.out.mono ?_
  rintro e' w1 ⟨v1, rfl, ho1, hB1⟩
  have HR1 := Lib.hid (HR0.out.later hB1)
  have HBW := Lib.hid (below_trans HB0.out hB1)
  have hl1 : Bs w1 v1 l := Rd.of_own ho1
  obtain ⟨a1, c1, rfl, -⟩ := own_open ho1
  have HO1 := Lib.hid ho1; have HL1 := Lib.hid hl1
  clear ho1 hB1 hl1
  by_cases he : e = 0
  · subst he
    have hpd : P = decB l := by rw [HP.out, if_neg (by simp)]
    have hnew := rnew_any _ l w1 HL1.out HLE.out
    obtain ⟨N1, hN1⟩ : ∃ N1, N1 = l.length := ⟨_, rfl⟩
    rw [← hN1] at HO1 HL1 hnew ⊢
    have HNEW := Lib.hid hnew; have HPD := Lib.hid hpd; have HN1 := Lib.hid hN1
    clear hpd hnew hN1
    go_wp2_with fail
    refine HNEW.out.mono ?_
    rintro e' w2 ⟨g, gv, rfl, hg, hcells, hbs, hfl, hB2⟩
    have hrg : g ≠ w.heap.size := by have := HR1.out.lt; omega
    have hR2 := HR1.out.later hB2
    have hrd : Rdr w2 g gv l ⟨0, 0⟩ := ⟨hcells, hbs, fun e => by have := hfl g e; omega, Nat.zero_le _, HLE.out⟩
    have hgl : g < w2.heap.size := Blk.lt hcells
    unfold decB parseU at HPD
    have hc1 := numb_any g gv l ⟨0, 0⟩ 1 3 w2 hrd (by decide) (by decide)
    have hk1 := numbS_lt (l := l) (a := 1) (b := 3) (s := ⟨0, 0⟩)
    have hk2 := fun hh => (numbS_ok (l := l) (a := 1) (b := 3) (s := ⟨0, 0⟩) (Nat.zero_le _) hh)
    generalize numbS l 1 3 ⟨0, 0⟩ = p1 at *
    obtain ⟨k, s1⟩ := p1
    simp only at hk1 hk2
    unfold parse2 at HPD
    simp only at HPD
    have hc2 := fun (w' : World) (hh : Rdr w' g gv l s1) => numb_any g gv l s1 1 maxN w' hh (by decide) (by decide)
    have hlt2 := numbS_lt (l := l) (a := 1) (b := maxN) (s := s1)
    have hok2 := fun ha hh => (numbS_ok (l := l) (a := 1) (b := maxN) (s := s1) ha hh).1
    generalize numbS l 1 maxN s1 = p2 at *
    obtain ⟨ep, s2⟩ := p2
    simp only at hlt2 hok2
    unfold parse3 at HPD
    simp only at HPD
    have hc3 := fun (w' : World) (hh : Rdr w' g gv l s2) => numb_any g gv l s2 1 maxN w' hh (by decide) (by decide)
    have hlt3 := numbS_lt (l := l) (a := 1) (b := maxN) (s := s2)
    have hok3 := fun ha hh => (numbS_ok (l := l) (a := 1) (b := maxN) (s := s2) ha hh).1
    generalize numbS l 1 maxN s2 = p3 at *
    obtain ⟨ses, s3⟩ := p3
    simp only at hlt3 hok3
    have hc2' : ∀ w', Rdr w' g gv l s1 → Calls Tryd.prog 48 #[.pointer (some ⟨g, 0, none⟩), .int .u64 1, .int .u64 281474976710655] w' (RNumPost g gv l (ep, s2) w') := hc2
    have hc3' : ∀ w', Rdr w' g gv l s2 → Calls Tryd.prog 48 #[.pointer (some ⟨g, 0, none⟩), .int .u64 1, .int .u64 281474976710655] w' (RNumPost g gv l (ses, s3) w') := hc3
    have wk : wrap64 (k : Int) = (k : Int) := by unfold wrap64; omega
    have HC1 := Lib.hid hc1; have HC2 := Lib.hid hc2'; have HC3 := Lib.hid hc3'; have HR2 := Lib.hid hR2; have HB2 := Lib.hid (below_trans HBW.out hB2); have HFL := Lib.hid hfl
    have HLT2 := Lib.hid hlt2; have HLT3 := Lib.hid hlt3; have HOK2 := Lib.hid hok2; have HOK3 := Lib.hid hok3; have HK2 := Lib.hid hk2; have HGL := Lib.hid hgl; have HG := Lib.hid hg; have HRG := Lib.hid hrg
    clear hc1 hc2 hc3 hc2' hc3' hR2 hB2 hfl hlt2 hlt3 hok2 hok3 hk2 hgl hrd hcells hbs hg hrg hk1
    go_wp2_with fail
    refine HC1.out.mono ?_
    rintro e' w3 ⟨rfl, hr3, hs3⟩
    simp only at hr3 ⊢
    have HR3 := Lib.hid (HR2.out.same hs3 (fun e => HRG.out e.symm)); have HRD3 := Lib.hid hr3; have HS3 := Lib.hid hs3
    clear hr3 hs3 HC1
    obtain ⟨W4, hW4⟩ : ∃ W4, W4 = w3.alloc (.cells #[.int .i64 (k : Int), .int .u64 0, .int .u64 0, .int .i64 0, .int .i64 0, .int .i64 0, .slice none 0 0, .int .i64 0, .slice none 0 0] 26) := ⟨_, rfl⟩
    obtain ⟨q, hq⟩ : ∃ q, q = w3.heap.size := ⟨_, rfl⟩
    have hal : Below w3.heap.size w3 W4 := hW4 ▸ (Below.refl _ _).alloc (Nat.le_refl _) _
    have hq4 : Blk W4 q 26 [.int .i64 (k : Int), .int .u64 0, .int .u64 0, .int .i64 0, .int .i64 0, .int .i64 0, .slice none 0 0, .int .i64 0, .slice none 0 0] := hq ▸ hW4 ▸ Blk.new w3 _ _
    have hgw3 : g < w3.heap.size := Nat.lt_of_lt_of_le HGL.out HS3.out.size
    have hwg : w.heap.size ≤ g := Nat.le_trans HBW.out.size HG.out
    have hqg : q ≠ g := by omega
    have hqr : q ≠ w.heap.size := by have := HR3.out.lt; omega
    have hvq : gv.ownBlock ≠ some q := fun e => by have := HFL.out q e; omega
    have hb3 : Below w.heap.size w w3 := below_same HB2.out HS3.out (fun i hi e => by have e' : i = g := e; omega)
    have HB4 := Lib.hid (below_trans hb3 hal); have HR4 := Lib.hid (HR3.out.later hal); have HRD4 := Lib.hid (HRD3.out.later hal)
    have HQ4 := Lib.hid hq4; have HQG := Lib.hid hqg; have HQR := Lib.hid hqr; have HVQ := Lib.hid hvq; have HQQ := Lib.hid hq; have HWG := Lib.hid hwg; have HW4 := Lib.hid hW4
    have hwq : w.heap.size < q := by have := HR3.out.lt; omega
    have HWQ := Lib.hid hwq
    clear hal hq4 hqg hqr hvq hb3 hq hgw3 hwg hW4 hwq
    go_wp2_with fail
    rw [← HW4.out, ← HQQ.out]
    refine (HC2.out _ HRD4.out).mono ?_
    rintro e' w5 ⟨rfl, hr5, hs5⟩
    simp only at hr5 ⊢
    have hq5 := HQ4.out.same hs5 HQG.out
    have z1 := hq5.cell_some (i := 1) rfl
    have f1 := hq5.frozen 1
    have hq5b := hq5.set 1 (.int .u64 (ep : Int))
    simp only [List.set_cons_zero, List.set_cons_succ] at hq5b
    have hr5b := hr5.store HQG.out HVQ.out 1 (.int .u64 (ep : Int))
    have hR5 := (HR4.out.same hs5 (fun e => HRG.out e.symm)).far (p := ⟨q, 1, none⟩) (fun e => HQR.out e.symm) (.int .u64 (ep : Int))
    have hb5 : Below w.heap.size w (w5.setCell ⟨q, 1, none⟩ (.int .u64 (ep : Int))) := below_same (below_same HB4.out hs5 (fun i hi e => by have e' : i = g := e; have := HWG.out; omega)) (at1_set w5 q 1 _) (fun i hi e => by have e' : i = q := e; have := HWQ.out; omega)
    have HQ5 := Lib.hid hq5b; have HRD5 := Lib.hid hr5b; have HR5 := Lib.hid hR5; have HB5 := Lib.hid hb5
    clear hq5 hq5b hr5 hr5b hR5 hb5 hs5
    go_wp2_with fail
    try rw [← HQQ.out]
    refine (HC3.out _ HRD5.out).mono ?_
    rintro e' w6 ⟨rfl, hr6, hs6⟩
    simp only at hr6 ⊢
    have hq6 := HQ5.out.same hs6 HQG.out
    have z2 := hq6.cell_some (i := 2) rfl
    have f2 := hq6.frozen 2
    have hq6b := hq6.set 2 (.int .u64 (ses : Int))
    simp only [List.set_cons_zero, List.set_cons_succ] at hq6b
    have hr6b := hr6.store HQG.out HVQ.out 2 (.int .u64 (ses : Int))
    have hR6 := (HR5.out.same hs6 (fun e => HRG.out e.symm)).far (p := ⟨q, 2, none⟩) (fun e => HQR.out e.symm) (.int .u64 (ses : Int))
    have hb6 : Below w.heap.size w (w6.setCell ⟨q, 2, none⟩ (.int .u64 (ses : Int))) := below_same (below_same HB5.out hs6 (fun i hi e => by have e' : i = g := e; have := HWG.out; omega)) (at1_set w6 q 2 _) (fun i hi e => by have e' : i = q := e; have := HWQ.out; omega)
    generalize hW7 : w6.setCell ⟨q, 2, none⟩ (.int .u64 (ses : Int)) = W7 at hq6b hr6b hR6 hb6
    have HW7 := Lib.hid hW7
    have hep : ((headU k ep ses).ep.toNat : Int) = (ep : Int) := by have := HLT2.out; rw [show (headU k ep ses).ep.toNat = ep from ofNat_toNat (by omega)]
    have hses : ((headU k ep ses).ses.toNat : Int) = (ses : Int) := by have := HLT3.out; rw [show (headU k ep ses).ses.toNat = ses from ofNat_toNat (by omega)]
    have hu7 : UAt W7 q (headU k ep ses) (.slice none 0 0) (.slice none 0 0) W7.heap.size := ⟨by rw [hep, hses]; exact hq6b, World.ownsRow_nil _ _ _ _, World.ownsRow_nil _ _ _ _⟩
    have herr := rerr_any g gv s3.at_ s3.f W7 hr6b.cells
    have HQ7 := Lib.hid hq6b; have HRD7 := Lib.hid hr6b; have HR7 := Lib.hid hR6; have HB7 := Lib.hid hb6; have HU7 := Lib.hid hu7; have HER := Lib.hid herr
    clear hq6 hq6b hr6 hr6b hR6 hb6 hs6 hu7 herr hep hses hW7
    unfold parse4 at HPD
    simp only at HPD
    go_wp2_with fail
    rw [HW7.out]
    refine HER.out.mono ?_
    rintro e' w8 ⟨rfl, rfl⟩
    clear HER z1 f1 z2 f2
    by_cases hf : s3.f = 0
    · have hs2f := HOK3.out HRD5.out.le hf
      have hs1f := HOK2.out HRD4.out.le hs2f
      obtain ⟨-, hka, hkb, -⟩ := HK2.out hs1f
      rw [if_neg (show ¬ s3.f ≠ 0 by omega)] at HPD
      have i1 : ((s3.f : Int) == 0) = true := by simp; omega
      clear hs2f hs1f
      have hk3 : k = 1 ∨ k = 2 ∨ k = 3 := by omega
      clear hka hkb
      rcases hk3 with rfl | rfl | rfl
      · have hfld : ∀ W, (Instr.field 69 (.agg #[.func (.func 71) #[] #[], .func (.func 72) #[] #[], .func (.func 73) #[] #[]]) 2).run Tryd.prog W = .ok (.func (.func 73) #[] #[]) W := fun W => by kernel_rfl
        have hread : ∀ W8, Rdr W8 g gv l s3 → UAt W8 q (headU 1 ep ses) (.slice none 0 0) (.slice none 0 0) W8.heap.size → (∀ b, gv.ownBlock = some b → b < W8.heap.size) → Calls Tryd.prog 73 #[.pointer (some ⟨g, 0, none⟩), .pointer (some ⟨q, 0, none⟩)] W8 (ReadPost g q W8.heap.size gv l (dataS l (headU 1 ep ses) s3) W8) := fun W8 hr hu hvl => readData_any g q W8.heap.size gv l s3 (headU 1 ep ses) W8 hr hu HQG.out HVQ.out (Nat.le_refl _)
        have hbody : bodyS l (headU 1 ep ses) s3 = dataS l (headU 1 ep ses) s3 := by unfold bodyS; exact if_pos rfl
        rw [hbody] at HPD
        clear hbody
        generalize dataS l (headU 1 ep ses) s3 = bs at *
        obtain ⟨u9, s9⟩ := bs
        simp only at HPD
        obtain ⟨ukind, uep, uses, upath, uidx, ucnt, udata, ucode, ugot⟩ := u9
        have z0 : w8.cell? ⟨q, 0, none⟩ = some (.int .i64 1) := HQ7.out.cell_some (i := 0) rfl
        have HRE := Lib.hid hread
        have hfw : ∀ b, gv.ownBlock = some b → b < w8.heap.size := fun b hb => by have := HFL.out b hb; have := Blk.lt HRD7.out.cells; omega
        have HFW := Lib.hid hfw
        clear hread hfw
        go_wp2_with fail
        refine (forms_1 _).mono ?_
        rintro e' w9 ⟨rfl, hB9⟩
        have hu9 : UAt w9 q (headU 1 ep ses) (.slice none 0 0) (.slice none 0 0) w9.heap.size := ⟨HU7.out.blk.later hB9, World.ownsRow_nil _ _ _ _, World.ownsRow_nil _ _ _ _⟩
        have HRE9 := Lib.hid (HRE.out w9 (HRD7.out.later hB9) hu9 (fun b hb => Nat.lt_of_lt_of_le (HFW.out b hb) hB9.size))
        have HR9 := Lib.hid (HR7.out.later hB9); have HB9 := Lib.hid (below_trans HB7.out hB9)
        clear hB9 hu9 HRE z0
        go_wp2_with fail
        refine HRE9.out.mono ?_
        rintro e' wa ⟨dv, rv, rfl, hra, hua, hsa⟩
        simp only at hra hua
        have HRa := Lib.hid (HR9.out.same hsa (fun e => by rcases e with e | e; exact HRG.out e.symm; exact HQR.out e.symm))
        have HBa := Lib.hid (below_same HB9.out hsa (fun i hi e => by rcases e with e | e; (have e' : i = g := e; have := HWG.out; omega); (have e' : i = q := e; have := HWQ.out; omega)))
        have HUa := Lib.hid hua
        have hend := rend_any g gv l s9 wa hra
        generalize endS l s9 = E at hend HPD
        have HEND := Lib.hid hend
        have HRDa := Lib.hid hra
        clear hra hua hsa hend
        go_wp2_with fail
        refine HEND.out.mono ?_
        rintro e' wb ⟨rfl, hs9⟩
        by_cases hE : E = 0
        · have j1 : ((E : Int) != 0) = false := by simp; omega
          have j2 : (E : Int) = 0 := by omega
          rw [if_neg (show ¬ E ≠ 0 by omega)] at HPD
          have hqb := HUa.out.blk.same hs9 HQG.out
          have hdb : wb.ownsRow w.heap.size 5 1 dv udata.length (udata.map ub) := own_mono (own_same HUa.out.dat hs9 (fun b hb e => by
            have e' : b = g := e
            subst e'
            exact own_blk_ne HUa.out.dat HRDa.out.cells (by decide) hb)) HB9.out.size
          have hgb : wb.ownsRow w.heap.size 57 2 rv ugot.length (rvs ugot) := own_mono (own_same HUa.out.got hs9 (fun b hb e => by
            have e' : b = g := e
            subst e'
            exact own_blk_ne HUa.out.got HRDa.out.cells (by decide) hb)) HB9.out.size
          have hRn := HRa.out.same hs9 (fun e => HRG.out e.symm)
          have hdr := own_same hdb (stores9_same wb w.heap.size (.int .i64 ukind) (.int .u64 (uep.toNat : Int)) (.int .u64 (uses.toNat : Int)) (.int .i64 upath) (.int .i64 uidx) (.int .i64 ucnt) dv (.int .i64 ucode) rv) (fun b hb e => by
            have e' : b = w.heap.size := e
            subst e'
            exact own_blk_ne hdb hRn (by decide) hb)
          have hgr := own_same hgb (stores9_same wb w.heap.size (.int .i64 ukind) (.int .u64 (uep.toNat : Int)) (.int .u64 (uses.toNat : Int)) (.int .i64 upath) (.int .i64 uidx) (.int .i64 ucnt) dv (.int .i64 ucode) rv) (fun b hb e => by
            have e' : b = w.heap.size := e
            subst e'
            exact own_blk_ne hgb hRn (by decide) hb)
          have HBN := Lib.hid (below_same (below_same HBa.out hs9 (fun i hi e => by have e' : i = g := e; have := HWG.out; omega)) (stores9_same wb w.heap.size (.int .i64 ukind) (.int .u64 (uep.toNat : Int)) (.int .u64 (uses.toNat : Int)) (.int .i64 upath) (.int .i64 uidx) (.int .i64 ucnt) dv (.int .i64 ucode) rv) (fun i hi e => by have e' : i = w.heap.size := e; omega))
          have HQB := Lib.hid hqb; have HRN := Lib.hid hRn; have HDR := Lib.hid hdr; have HGR := Lib.hid hgr
          obtain ⟨da, dc, rfl, -⟩ := own_open hdb
          obtain ⟨ra, rc, rfl, -⟩ := own_open hgb
          obtain ⟨m1, hm1⟩ : ∃ m1, m1 = uep.toNat := ⟨_, rfl⟩
          obtain ⟨m2, hm2⟩ : ∃ m2, m2 = uses.toNat := ⟨_, rfl⟩
          simp only [← hm1, ← hm2] at HQB HDR HGR HBN
          have HM1 := Lib.hid hm1; have HM2 := Lib.hid hm2
          clear hqb hdb hgb hRn hdr hgr hs9 hm1 hm2
          have q0 := HQB.out.cell_some (i := 0) rfl
          have q1 := HQB.out.cell_some (i := 1) rfl
          have q2 := HQB.out.cell_some (i := 2) rfl
          have q3 := HQB.out.cell_some (i := 3) rfl
          have q4 := HQB.out.cell_some (i := 4) rfl
          have q5 := HQB.out.cell_some (i := 5) rfl
          have q6 := HQB.out.cell_some (i := 6) rfl
          have q7 := HQB.out.cell_some (i := 7) rfl
          have q8 := HQB.out.cell_some (i := 8) rfl
          have y0 := HRN.out.cell_some (i := 0) rfl
          have y1 := HRN.out.cell_some (i := 1) rfl
          have y2 := HRN.out.cell_some (i := 2) rfl
          have y3 := HRN.out.cell_some (i := 3) rfl
          have y4 := HRN.out.cell_some (i := 4) rfl
          have y5 := HRN.out.cell_some (i := 5) rfl
          have y6 := HRN.out.cell_some (i := 6) rfl
          have y7 := HRN.out.cell_some (i := 7) rfl
          have y8 := HRN.out.cell_some (i := 8) rfl
          have x0 := HRN.out.frozen 0
          have x1 := HRN.out.frozen 1
          have x2 := HRN.out.frozen 2
          have x3 := HRN.out.frozen 3
          have x4 := HRN.out.frozen 4
          have x5 := HRN.out.frozen 5
          have x6 := HRN.out.frozen 6
          have x7 := HRN.out.frozen 7
          have x8 := HRN.out.frozen 8
          go_wp2_with fail
          refine bodyPost_ret (results_cr rfl _ _ (w.heap.size) _ _ _ _ rfl (stores9_blk HRN.out rfl (.int .i64 ukind) (.int .u64 (m1 : Int)) (.int .u64 (m2 : Int)) (.int .i64 upath) (.int .i64 uidx) (.int .i64 ucnt) (.slice da udata.length dc) (.int .i64 ucode) (.slice ra ugot.length rc)) Tryd.underlying26 rfl (by kernel_rfl)) rfl ?_
          rw [HPD]
          exact ⟨_, _, by rw [uv, ← HM1.out, ← HM2.out]; rfl, HDR.out, HGR.out, HBN.out⟩
        · have j1 : ((E : Int) != 0) = true := by simp; omega
          have j2 : ¬ (E : Int) = 0 := by omega
          rw [if_pos hE] at HPD
          have hRn := HRa.out.same hs9 (fun e => HRG.out e.symm)
          have HRN := Lib.hid hRn
          have HBN := Lib.hid (below_same HBa.out hs9 (fun i hi e => by have e' : i = g := e; have := HWG.out; omega))
          clear hRn hs9
          have y0 := HRN.out.cell_some (i := 0) rfl
          have y1 := HRN.out.cell_some (i := 1) rfl
          have y2 := HRN.out.cell_some (i := 2) rfl
          have y3 := HRN.out.cell_some (i := 3) rfl
          have y4 := HRN.out.cell_some (i := 4) rfl
          have y5 := HRN.out.cell_some (i := 5) rfl
          have y6 := HRN.out.cell_some (i := 6) rfl
          have y7 := HRN.out.cell_some (i := 7) rfl
          have y8 := HRN.out.cell_some (i := 8) rfl
          have x0 := HRN.out.frozen 0
          have x1 := HRN.out.frozen 1
          have x2 := HRN.out.frozen 2
          have x3 := HRN.out.frozen 3
          have x4 := HRN.out.frozen 4
          have x5 := HRN.out.frozen 5
          have x6 := HRN.out.frozen 6
          have x7 := HRN.out.frozen 7
          have x8 := HRN.out.frozen 8
          go_wp2_with fail
          refine bodyPost_ret (results_cr rfl _ _ (w.heap.size) _ _ _ _ rfl (stores9_blk HRN.out rfl (.int .i64 0) (.int .u64 0) (.int .u64 0) (.int .i64 0) (.int .i64 0) (.int .i64 0) (.slice none 0 0) (.int .i64 0) (.slice none 0 0)) Tryd.underlying26 rfl (by kernel_rfl)) rfl ?_
          rw [HPD]
          exact dec_bad (below_same HBN.out (stores9_same wb w.heap.size (.int .i64 0) (.int .u64 0) (.int .u64 0) (.int .i64 0) (.int .i64 0) (.int .i64 0) (.slice none 0 0) (.int .i64 0) (.slice none 0 0)) (fun i hi e => by have e' : i = w.heap.size := e; omega))
      · have hfld : ∀ W, (Instr.field 69 (.agg #[.func (.func 74) #[] #[], .func (.func 75) #[] #[], .func (.func 76) #[] #[]]) 2).run Tryd.prog W = .ok (.func (.func 76) #[] #[]) W := fun W => by kernel_rfl
        have hread : ∀ W8, Rdr W8 g gv l s3 → UAt W8 q (headU 2 ep ses) (.slice none 0 0) (.slice none 0 0) W8.heap.size → (∀ b, gv.ownBlock = some b → b < W8.heap.size) → Calls Tryd.prog 76 #[.pointer (some ⟨g, 0, none⟩), .pointer (some ⟨q, 0, none⟩)] W8 (ReadPost g q W8.heap.size gv l (reportS l (headU 2 ep ses) s3) W8) := fun W8 hr hu hvl => readReport_any g q gv l s3 (headU 2 ep ses) W8 hr hu HQG.out HVQ.out hvl
        have hbody : bodyS l (headU 2 ep ses) s3 = reportS l (headU 2 ep ses) s3 := by unfold bodyS; rw [if_neg (by show ¬ ((2 : Nat) : Int) = 1; decide)]; exact if_pos rfl
        rw [hbody] at HPD
        clear hbody
        generalize reportS l (headU 2 ep ses) s3 = bs at *
        obtain ⟨u9, s9⟩ := bs
        simp only at HPD
        obtain ⟨ukind, uep, uses, upath, uidx, ucnt, udata, ucode, ugot⟩ := u9
        have z0 : w8.cell? ⟨q, 0, none⟩ = some (.int .i64 2) := HQ7.out.cell_some (i := 0) rfl
        have HRE := Lib.hid hread
        have hfw : ∀ b, gv.ownBlock = some b → b < w8.heap.size := fun b hb => by have := HFL.out b hb; have := Blk.lt HRD7.out.cells; omega
        have HFW := Lib.hid hfw
        clear hread hfw
        go_wp2_with fail
        refine (forms_2 _).mono ?_
        rintro e' w9 ⟨rfl, hB9⟩
        have hu9 : UAt w9 q (headU 2 ep ses) (.slice none 0 0) (.slice none 0 0) w9.heap.size := ⟨HU7.out.blk.later hB9, World.ownsRow_nil _ _ _ _, World.ownsRow_nil _ _ _ _⟩
        have HRE9 := Lib.hid (HRE.out w9 (HRD7.out.later hB9) hu9 (fun b hb => Nat.lt_of_lt_of_le (HFW.out b hb) hB9.size))
        have HR9 := Lib.hid (HR7.out.later hB9); have HB9 := Lib.hid (below_trans HB7.out hB9)
        clear hB9 hu9 HRE z0
        go_wp2_with fail
        refine HRE9.out.mono ?_
        rintro e' wa ⟨dv, rv, rfl, hra, hua, hsa⟩
        simp only at hra hua
        have HRa := Lib.hid (HR9.out.same hsa (fun e => by rcases e with e | e; exact HRG.out e.symm; exact HQR.out e.symm))
        have HBa := Lib.hid (below_same HB9.out hsa (fun i hi e => by rcases e with e | e; (have e' : i = g := e; have := HWG.out; omega); (have e' : i = q := e; have := HWQ.out; omega)))
        have HUa := Lib.hid hua
        have hend := rend_any g gv l s9 wa hra
        generalize endS l s9 = E at hend HPD
        have HEND := Lib.hid hend
        have HRDa := Lib.hid hra
        clear hra hua hsa hend
        go_wp2_with fail
        refine HEND.out.mono ?_
        rintro e' wb ⟨rfl, hs9⟩
        by_cases hE : E = 0
        · have j1 : ((E : Int) != 0) = false := by simp; omega
          have j2 : (E : Int) = 0 := by omega
          rw [if_neg (show ¬ E ≠ 0 by omega)] at HPD
          have hqb := HUa.out.blk.same hs9 HQG.out
          have hdb : wb.ownsRow w.heap.size 5 1 dv udata.length (udata.map ub) := own_mono (own_same HUa.out.dat hs9 (fun b hb e => by
            have e' : b = g := e
            subst e'
            exact own_blk_ne HUa.out.dat HRDa.out.cells (by decide) hb)) HB9.out.size
          have hgb : wb.ownsRow w.heap.size 57 2 rv ugot.length (rvs ugot) := own_mono (own_same HUa.out.got hs9 (fun b hb e => by
            have e' : b = g := e
            subst e'
            exact own_blk_ne HUa.out.got HRDa.out.cells (by decide) hb)) HB9.out.size
          have hRn := HRa.out.same hs9 (fun e => HRG.out e.symm)
          have hdr := own_same hdb (stores9_same wb w.heap.size (.int .i64 ukind) (.int .u64 (uep.toNat : Int)) (.int .u64 (uses.toNat : Int)) (.int .i64 upath) (.int .i64 uidx) (.int .i64 ucnt) dv (.int .i64 ucode) rv) (fun b hb e => by
            have e' : b = w.heap.size := e
            subst e'
            exact own_blk_ne hdb hRn (by decide) hb)
          have hgr := own_same hgb (stores9_same wb w.heap.size (.int .i64 ukind) (.int .u64 (uep.toNat : Int)) (.int .u64 (uses.toNat : Int)) (.int .i64 upath) (.int .i64 uidx) (.int .i64 ucnt) dv (.int .i64 ucode) rv) (fun b hb e => by
            have e' : b = w.heap.size := e
            subst e'
            exact own_blk_ne hgb hRn (by decide) hb)
          have HBN := Lib.hid (below_same (below_same HBa.out hs9 (fun i hi e => by have e' : i = g := e; have := HWG.out; omega)) (stores9_same wb w.heap.size (.int .i64 ukind) (.int .u64 (uep.toNat : Int)) (.int .u64 (uses.toNat : Int)) (.int .i64 upath) (.int .i64 uidx) (.int .i64 ucnt) dv (.int .i64 ucode) rv) (fun i hi e => by have e' : i = w.heap.size := e; omega))
          have HQB := Lib.hid hqb; have HRN := Lib.hid hRn; have HDR := Lib.hid hdr; have HGR := Lib.hid hgr
          obtain ⟨da, dc, rfl, -⟩ := own_open hdb
          obtain ⟨ra, rc, rfl, -⟩ := own_open hgb
          obtain ⟨m1, hm1⟩ : ∃ m1, m1 = uep.toNat := ⟨_, rfl⟩
          obtain ⟨m2, hm2⟩ : ∃ m2, m2 = uses.toNat := ⟨_, rfl⟩
          simp only [← hm1, ← hm2] at HQB HDR HGR HBN
          have HM1 := Lib.hid hm1; have HM2 := Lib.hid hm2
          clear hqb hdb hgb hRn hdr hgr hs9 hm1 hm2
          have q0 := HQB.out.cell_some (i := 0) rfl
          have q1 := HQB.out.cell_some (i := 1) rfl
          have q2 := HQB.out.cell_some (i := 2) rfl
          have q3 := HQB.out.cell_some (i := 3) rfl
          have q4 := HQB.out.cell_some (i := 4) rfl
          have q5 := HQB.out.cell_some (i := 5) rfl
          have q6 := HQB.out.cell_some (i := 6) rfl
          have q7 := HQB.out.cell_some (i := 7) rfl
          have q8 := HQB.out.cell_some (i := 8) rfl
          have y0 := HRN.out.cell_some (i := 0) rfl
          have y1 := HRN.out.cell_some (i := 1) rfl
          have y2 := HRN.out.cell_some (i := 2) rfl
          have y3 := HRN.out.cell_some (i := 3) rfl
          have y4 := HRN.out.cell_some (i := 4) rfl
          have y5 := HRN.out.cell_some (i := 5) rfl
          have y6 := HRN.out.cell_some (i := 6) rfl
          have y7 := HRN.out.cell_some (i := 7) rfl
          have y8 := HRN.out.cell_some (i := 8) rfl
          have x0 := HRN.out.frozen 0
          have x1 := HRN.out.frozen 1
          have x2 := HRN.out.frozen 2
          have x3 := HRN.out.frozen 3
          have x4 := HRN.out.frozen 4
          have x5 := HRN.out.frozen 5
          have x6 := HRN.out.frozen 6
          have x7 := HRN.out.frozen 7
          have x8 := HRN.out.frozen 8
          go_wp2_with fail
          refine bodyPost_ret (results_cr rfl _ _ (w.heap.size) _ _ _ _ rfl (stores9_blk HRN.out rfl (.int .i64 ukind) (.int .u64 (m1 : Int)) (.int .u64 (m2 : Int)) (.int .i64 upath) (.int .i64 uidx) (.int .i64 ucnt) (.slice da udata.length dc) (.int .i64 ucode) (.slice ra ugot.length rc)) Tryd.underlying26 rfl (by kernel_rfl)) rfl ?_
          rw [HPD]
          exact ⟨_, _, by rw [uv, ← HM1.out, ← HM2.out]; rfl, HDR.out, HGR.out, HBN.out⟩
        · have j1 : ((E : Int) != 0) = true := by simp; omega
          have j2 : ¬ (E : Int) = 0 := by omega
          rw [if_pos hE] at HPD
          have hRn := HRa.out.same hs9 (fun e => HRG.out e.symm)
          have HRN := Lib.hid hRn
          have HBN := Lib.hid (below_same HBa.out hs9 (fun i hi e => by have e' : i = g := e; have := HWG.out; omega))
          clear hRn hs9
          have y0 := HRN.out.cell_some (i := 0) rfl
          have y1 := HRN.out.cell_some (i := 1) rfl
          have y2 := HRN.out.cell_some (i := 2) rfl
          have y3 := HRN.out.cell_some (i := 3) rfl
          have y4 := HRN.out.cell_some (i := 4) rfl
          have y5 := HRN.out.cell_some (i := 5) rfl
          have y6 := HRN.out.cell_some (i := 6) rfl
          have y7 := HRN.out.cell_some (i := 7) rfl
          have y8 := HRN.out.cell_some (i := 8) rfl
          have x0 := HRN.out.frozen 0
          have x1 := HRN.out.frozen 1
          have x2 := HRN.out.frozen 2
          have x3 := HRN.out.frozen 3
          have x4 := HRN.out.frozen 4
          have x5 := HRN.out.frozen 5
          have x6 := HRN.out.frozen 6
          have x7 := HRN.out.frozen 7
          have x8 := HRN.out.frozen 8
          go_wp2_with fail
          refine bodyPost_ret (results_cr rfl _ _ (w.heap.size) _ _ _ _ rfl (stores9_blk HRN.out rfl (.int .i64 0) (.int .u64 0) (.int .u64 0) (.int .i64 0) (.int .i64 0) (.int .i64 0) (.slice none 0 0) (.int .i64 0) (.slice none 0 0)) Tryd.underlying26 rfl (by kernel_rfl)) rfl ?_
          rw [HPD]
          exact dec_bad (below_same HBN.out (stores9_same wb w.heap.size (.int .i64 0) (.int .u64 0) (.int .u64 0) (.int .i64 0) (.int .i64 0) (.int .i64 0) (.slice none 0 0) (.int .i64 0) (.slice none 0 0)) (fun i hi e => by have e' : i = w.heap.size := e; omega))
      · have hfld : ∀ W, (Instr.field 69 (.agg #[.func (.func 77) #[] #[], .func (.func 78) #[] #[], .func (.func 79) #[] #[]]) 2).run Tryd.prog W = .ok (.func (.func 79) #[] #[]) W := fun W => by kernel_rfl
        have hread : ∀ W8, Rdr W8 g gv l s3 → UAt W8 q (headU 3 ep ses) (.slice none 0 0) (.slice none 0 0) W8.heap.size → (∀ b, gv.ownBlock = some b → b < W8.heap.size) → Calls Tryd.prog 79 #[.pointer (some ⟨g, 0, none⟩), .pointer (some ⟨q, 0, none⟩)] W8 (ReadPost g q W8.heap.size gv l ((headU 3 ep ses, s3)) W8) := fun W8 hr hu hvl => (readCancel_any _ _ W8).mono (by rintro e w' ⟨rfl, rfl⟩; exact ⟨_, _, rfl, hr, hu, Same.refl _ _⟩)
        have hbody : bodyS l (headU 3 ep ses) s3 = (headU 3 ep ses, s3) := by unfold bodyS; rw [if_neg (by show ¬ ((3 : Nat) : Int) = 1; decide)]; exact if_neg (by show ¬ ((3 : Nat) : Int) = 2; decide)
        rw [hbody] at HPD
        clear hbody
        generalize (headU 3 ep ses, s3) = bs at *
        obtain ⟨u9, s9⟩ := bs
        simp only at HPD
        obtain ⟨ukind, uep, uses, upath, uidx, ucnt, udata, ucode, ugot⟩ := u9
        have z0 : w8.cell? ⟨q, 0, none⟩ = some (.int .i64 3) := HQ7.out.cell_some (i := 0) rfl
        have HRE := Lib.hid hread
        have hfw : ∀ b, gv.ownBlock = some b → b < w8.heap.size := fun b hb => by have := HFL.out b hb; have := Blk.lt HRD7.out.cells; omega
        have HFW := Lib.hid hfw
        clear hread hfw
        go_wp2_with fail
        refine (forms_3 _).mono ?_
        rintro e' w9 ⟨rfl, hB9⟩
        have hu9 : UAt w9 q (headU 3 ep ses) (.slice none 0 0) (.slice none 0 0) w9.heap.size := ⟨HU7.out.blk.later hB9, World.ownsRow_nil _ _ _ _, World.ownsRow_nil _ _ _ _⟩
        have HRE9 := Lib.hid (HRE.out w9 (HRD7.out.later hB9) hu9 (fun b hb => Nat.lt_of_lt_of_le (HFW.out b hb) hB9.size))
        have HR9 := Lib.hid (HR7.out.later hB9); have HB9 := Lib.hid (below_trans HB7.out hB9)
        clear hB9 hu9 HRE z0
        go_wp2_with fail
        refine HRE9.out.mono ?_
        rintro e' wa ⟨dv, rv, rfl, hra, hua, hsa⟩
        simp only at hra hua
        have HRa := Lib.hid (HR9.out.same hsa (fun e => by rcases e with e | e; exact HRG.out e.symm; exact HQR.out e.symm))
        have HBa := Lib.hid (below_same HB9.out hsa (fun i hi e => by rcases e with e | e; (have e' : i = g := e; have := HWG.out; omega); (have e' : i = q := e; have := HWQ.out; omega)))
        have HUa := Lib.hid hua
        have hend := rend_any g gv l s9 wa hra
        generalize endS l s9 = E at hend HPD
        have HEND := Lib.hid hend
        have HRDa := Lib.hid hra
        clear hra hua hsa hend
        go_wp2_with fail
        refine HEND.out.mono ?_
        rintro e' wb ⟨rfl, hs9⟩
        by_cases hE : E = 0
        · have j1 : ((E : Int) != 0) = false := by simp; omega
          have j2 : (E : Int) = 0 := by omega
          rw [if_neg (show ¬ E ≠ 0 by omega)] at HPD
          have hqb := HUa.out.blk.same hs9 HQG.out
          have hdb : wb.ownsRow w.heap.size 5 1 dv udata.length (udata.map ub) := own_mono (own_same HUa.out.dat hs9 (fun b hb e => by
            have e' : b = g := e
            subst e'
            exact own_blk_ne HUa.out.dat HRDa.out.cells (by decide) hb)) HB9.out.size
          have hgb : wb.ownsRow w.heap.size 57 2 rv ugot.length (rvs ugot) := own_mono (own_same HUa.out.got hs9 (fun b hb e => by
            have e' : b = g := e
            subst e'
            exact own_blk_ne HUa.out.got HRDa.out.cells (by decide) hb)) HB9.out.size
          have hRn := HRa.out.same hs9 (fun e => HRG.out e.symm)
          have hdr := own_same hdb (stores9_same wb w.heap.size (.int .i64 ukind) (.int .u64 (uep.toNat : Int)) (.int .u64 (uses.toNat : Int)) (.int .i64 upath) (.int .i64 uidx) (.int .i64 ucnt) dv (.int .i64 ucode) rv) (fun b hb e => by
            have e' : b = w.heap.size := e
            subst e'
            exact own_blk_ne hdb hRn (by decide) hb)
          have hgr := own_same hgb (stores9_same wb w.heap.size (.int .i64 ukind) (.int .u64 (uep.toNat : Int)) (.int .u64 (uses.toNat : Int)) (.int .i64 upath) (.int .i64 uidx) (.int .i64 ucnt) dv (.int .i64 ucode) rv) (fun b hb e => by
            have e' : b = w.heap.size := e
            subst e'
            exact own_blk_ne hgb hRn (by decide) hb)
          have HBN := Lib.hid (below_same (below_same HBa.out hs9 (fun i hi e => by have e' : i = g := e; have := HWG.out; omega)) (stores9_same wb w.heap.size (.int .i64 ukind) (.int .u64 (uep.toNat : Int)) (.int .u64 (uses.toNat : Int)) (.int .i64 upath) (.int .i64 uidx) (.int .i64 ucnt) dv (.int .i64 ucode) rv) (fun i hi e => by have e' : i = w.heap.size := e; omega))
          have HQB := Lib.hid hqb; have HRN := Lib.hid hRn; have HDR := Lib.hid hdr; have HGR := Lib.hid hgr
          obtain ⟨da, dc, rfl, -⟩ := own_open hdb
          obtain ⟨ra, rc, rfl, -⟩ := own_open hgb
          obtain ⟨m1, hm1⟩ : ∃ m1, m1 = uep.toNat := ⟨_, rfl⟩
          obtain ⟨m2, hm2⟩ : ∃ m2, m2 = uses.toNat := ⟨_, rfl⟩
          simp only [← hm1, ← hm2] at HQB HDR HGR HBN
          have HM1 := Lib.hid hm1; have HM2 := Lib.hid hm2
          clear hqb hdb hgb hRn hdr hgr hs9 hm1 hm2
          have q0 := HQB.out.cell_some (i := 0) rfl
          have q1 := HQB.out.cell_some (i := 1) rfl
          have q2 := HQB.out.cell_some (i := 2) rfl
          have q3 := HQB.out.cell_some (i := 3) rfl
          have q4 := HQB.out.cell_some (i := 4) rfl
          have q5 := HQB.out.cell_some (i := 5) rfl
          have q6 := HQB.out.cell_some (i := 6) rfl
          have q7 := HQB.out.cell_some (i := 7) rfl
          have q8 := HQB.out.cell_some (i := 8) rfl
          have y0 := HRN.out.cell_some (i := 0) rfl
          have y1 := HRN.out.cell_some (i := 1) rfl
          have y2 := HRN.out.cell_some (i := 2) rfl
          have y3 := HRN.out.cell_some (i := 3) rfl
          have y4 := HRN.out.cell_some (i := 4) rfl
          have y5 := HRN.out.cell_some (i := 5) rfl
          have y6 := HRN.out.cell_some (i := 6) rfl
          have y7 := HRN.out.cell_some (i := 7) rfl
          have y8 := HRN.out.cell_some (i := 8) rfl
          have x0 := HRN.out.frozen 0
          have x1 := HRN.out.frozen 1
          have x2 := HRN.out.frozen 2
          have x3 := HRN.out.frozen 3
          have x4 := HRN.out.frozen 4
          have x5 := HRN.out.frozen 5
          have x6 := HRN.out.frozen 6
          have x7 := HRN.out.frozen 7
          have x8 := HRN.out.frozen 8
          go_wp2_with fail
          refine bodyPost_ret (results_cr rfl _ _ (w.heap.size) _ _ _ _ rfl (stores9_blk HRN.out rfl (.int .i64 ukind) (.int .u64 (m1 : Int)) (.int .u64 (m2 : Int)) (.int .i64 upath) (.int .i64 uidx) (.int .i64 ucnt) (.slice da udata.length dc) (.int .i64 ucode) (.slice ra ugot.length rc)) Tryd.underlying26 rfl (by kernel_rfl)) rfl ?_
          rw [HPD]
          exact ⟨_, _, by rw [uv, ← HM1.out, ← HM2.out]; rfl, HDR.out, HGR.out, HBN.out⟩
        · have j1 : ((E : Int) != 0) = true := by simp; omega
          have j2 : ¬ (E : Int) = 0 := by omega
          rw [if_pos hE] at HPD
          have hRn := HRa.out.same hs9 (fun e => HRG.out e.symm)
          have HRN := Lib.hid hRn
          have HBN := Lib.hid (below_same HBa.out hs9 (fun i hi e => by have e' : i = g := e; have := HWG.out; omega))
          clear hRn hs9
          have y0 := HRN.out.cell_some (i := 0) rfl
          have y1 := HRN.out.cell_some (i := 1) rfl
          have y2 := HRN.out.cell_some (i := 2) rfl
          have y3 := HRN.out.cell_some (i := 3) rfl
          have y4 := HRN.out.cell_some (i := 4) rfl
          have y5 := HRN.out.cell_some (i := 5) rfl
          have y6 := HRN.out.cell_some (i := 6) rfl
          have y7 := HRN.out.cell_some (i := 7) rfl
          have y8 := HRN.out.cell_some (i := 8) rfl
          have x0 := HRN.out.frozen 0
          have x1 := HRN.out.frozen 1
          have x2 := HRN.out.frozen 2
          have x3 := HRN.out.frozen 3
          have x4 := HRN.out.frozen 4
          have x5 := HRN.out.frozen 5
          have x6 := HRN.out.frozen 6
          have x7 := HRN.out.frozen 7
          have x8 := HRN.out.frozen 8
          go_wp2_with fail
          refine bodyPost_ret (results_cr rfl _ _ (w.heap.size) _ _ _ _ rfl (stores9_blk HRN.out rfl (.int .i64 0) (.int .u64 0) (.int .u64 0) (.int .i64 0) (.int .i64 0) (.int .i64 0) (.slice none 0 0) (.int .i64 0) (.slice none 0 0)) Tryd.underlying26 rfl (by kernel_rfl)) rfl ?_
          rw [HPD]
          exact dec_bad (below_same HBN.out (stores9_same wb w.heap.size (.int .i64 0) (.int .u64 0) (.int .u64 0) (.int .i64 0) (.int .i64 0) (.int .i64 0) (.slice none 0 0) (.int .i64 0) (.slice none 0 0)) (fun i hi e => by have e' : i = w.heap.size := e; omega))
    · have hst : endS l s3 = s3.f := by unfold endS; rw [if_neg (fun h => hf h.1)]
      rw [if_pos hf] at HPD
      simp only [hst, if_pos hf] at HPD
      have hend := rend_any g gv l s3 w8 HRD7.out
      rw [hst] at hend
      have HEND := Lib.hid hend
      have i1 : ((s3.f : Int) == 0) = false := by simp; omega
      have i2 : ¬ (s3.f : Int) = 0 := by omega
      have i3 : ((s3.f : Int) != 0) = true := by simp; omega
      clear hend hst
      generalize s3.f = F at *
      go_wp2_with fail
      refine HEND.out.mono ?_
      rintro e' w9 ⟨rfl, hs9⟩
      have hRn := HR7.out.same hs9 (fun e => HRG.out e.symm)
      have HRN := Lib.hid hRn
      have HBN := Lib.hid (below_same HB7.out hs9 (fun i hi e => by have e' : i = g := e; have := HWG.out; omega))
      clear hRn hs9
      have y0 := HRN.out.cell_some (i := 0) rfl
      have y1 := HRN.out.cell_some (i := 1) rfl
      have y2 := HRN.out.cell_some (i := 2) rfl
      have y3 := HRN.out.cell_some (i := 3) rfl
      have y4 := HRN.out.cell_some (i := 4) rfl
      have y5 := HRN.out.cell_some (i := 5) rfl
      have y6 := HRN.out.cell_some (i := 6) rfl
      have y7 := HRN.out.cell_some (i := 7) rfl
      have y8 := HRN.out.cell_some (i := 8) rfl
      have x0 := HRN.out.frozen 0
      have x1 := HRN.out.frozen 1
      have x2 := HRN.out.frozen 2
      have x3 := HRN.out.frozen 3
      have x4 := HRN.out.frozen 4
      have x5 := HRN.out.frozen 5
      have x6 := HRN.out.frozen 6
      have x7 := HRN.out.frozen 7
      have x8 := HRN.out.frozen 8
      go_wp2_with fail
      refine bodyPost_ret (results_cr rfl _ _ (w.heap.size) _ _ _ _ rfl (stores9_blk HRN.out rfl (.int .i64 0) (.int .u64 0) (.int .u64 0) (.int .i64 0) (.int .i64 0) (.int .i64 0) (.slice none 0 0) (.int .i64 0) (.slice none 0 0)) Tryd.underlying26 rfl (by kernel_rfl)) rfl ?_
      rw [HPD]
      exact dec_bad (below_same HBN.out (stores9_same w9 w.heap.size (.int .i64 0) (.int .u64 0) (.int .u64 0) (.int .i64 0) (.int .i64 0) (.int .i64 0) (.slice none 0 0) (.int .i64 0) (.slice none 0 0)) (fun i hi e => by have e' : i = w.heap.size := e; omega))
  · have i1 : ((e : Int) != 0) = true := by simp; omega
    have i2 : ¬ (e : Int) = 0 := by omega
    have HPP : Hid (P = (zeroU, e)) := Lib.hid (by rw [HP.out, if_pos he])
    have z0 := HR1.out.cell_some (i := 0) rfl
    have z1 := HR1.out.cell_some (i := 1) rfl
    have z2 := HR1.out.cell_some (i := 2) rfl
    have z3 := HR1.out.cell_some (i := 3) rfl
    have z4 := HR1.out.cell_some (i := 4) rfl
    have z5 := HR1.out.cell_some (i := 5) rfl
    have z6 := HR1.out.cell_some (i := 6) rfl
    have z7 := HR1.out.cell_some (i := 7) rfl
    have z8 := HR1.out.cell_some (i := 8) rfl
    have f0 := HR1.out.frozen 0
    have f1 := HR1.out.frozen 1
    have f2 := HR1.out.frozen 2
    have f3 := HR1.out.frozen 3
    have f4 := HR1.out.frozen 4
    have f5 := HR1.out.frozen 5
    have f6 := HR1.out.frozen 6
    have f7 := HR1.out.frozen 7
    have f8 := HR1.out.frozen 8
    go_wp2_with fail
    refine bodyPost_ret (results_cr rfl _ _ (w.heap.size) _ _ _ _ rfl (stores9_blk HR1.out rfl (.int .i64 0) (.int .u64 0) (.int .u64 0) (.int .i64 0) (.int .i64 0) (.int .i64 0) (.slice none 0 0) (.int .i64 0) (.slice none 0 0)) Tryd.underlying26 rfl (by kernel_rfl)) rfl ?_
    rw [HPP.out]
    exact dec_bad (HBW.out.trans ((stores9_same w1 w.heap.size (.int .i64 0) (.int .u64 0) (.int .u64 0) (.int .i64 0) (.int .i64 0) (.int .i64 0) (.slice none 0 0) (.int .i64 0) (.slice none 0 0)).belowB fun i hi => ⟨Nat.lt_of_lt_of_le hi HBW.out.size, fun e => by have : i = w.heap.size := e; omega⟩))
end Go.Proofs.YtghjffgaebnhiaaDoor
