/- ask: one call on a box and on its reference; the answers are the same. -/
import Derived.Test.YtgnbnkoanoalhaaPair
import Derived.Test.YtgnbnkoanoalhaaLend
import Derived.Test.YtgnbnkoanoalhaaSame
import Derived.Test.YtgnbnkoanoalhaaRanges
import Derived.Test.YtgnbnkoanoalhaaScript
import Derived.Deep.RegionLaw
namespace Go.Proofs.Ytgnbnkoanoalhaa
set_option linter.unusedVariables false
set_option linter.unusedSimpArgs false
open Go.RowKit
theorem PS.got_len {s : PS} (h : s.ok) : s.got.length ≤ 64 := by
  cases s with
  | nil => simp [PS.got]
  | zero => simp [PS.got]
  | box b => exact Nat.le_trans (leastR_len _) (Nat.le_trans (gotL_len _ _) (Known.good h).fine.hi)
def AskPost (w : World) (g r base : Nat) (Z : Nat → Prop) (pb pr : Value) (s s' : PS) (e : Ending) (w' : World) : Prop :=
  e = .returned (.bool true) ∧ PBox w' g pb s' ∧ PRef w' r base Z pr s' ∧ Same (s.foot g r) w w'

set_option maxHeartbeats 4000000 in
set_option maxRecDepth 100000 in
theorem ask_put (g r base : Nat) (Z : Nat → Prop) (pb pr x : Value) (s : PS) (ix : Int) (sg : List UInt8) (w : World) (hok : s.ok) (hb : PBox w g pb s) (hr : PRef w r base Z pr s) (hZ : ∀ k, Z k → k < w.heap.size)
    (w0 : World) (hw0 : Below w0.heap.size w0 w) (hx : Bs w0 x sg) (hl : sg.length ≤ 140737488351232) (hg0 : ∀ k, s.foot g r k → w0.heap.size ≤ k) :
    Calls Try.prog 27 #[pb, pr, .agg #[.int .i64 1, .int .i64 ix, x]] w (AskPost w g r base Z pb pr s (s.put ix sg)) := by
  obtain ⟨xp, xc, rfl, -⟩ := id hx
  obtain ⟨wa, hwa⟩ : ∃ wa, wa = w.alloc (.cells #[.int .i64 1, .int .i64 ix, .slice xp sg.length xc] 42) := ⟨_, rfl⟩
  have hBa : Below w.heap.size w wa := hwa ▸ (Below.refl _ _).alloc (Nat.le_refl _) _
  have hOa : Blk wa w.heap.size 42 [.int .i64 1, .int .i64 ix, .slice xp sg.length xc] := hwa ▸ Blk.new w _ _
  have hz := hBa.size
  have a0 := hOa.cell_some (i := 0) rfl
  have a2 := hOa.cell_some (i := 2) rfl
  have hsw := hw0.size
  have hxa := hx.later (below_trans hw0 hBa)
  have HX := Lib.hid hx; have HOK := Lib.hid hok; have HB := Lib.hid hb; have HR := Lib.hid hr; have HZ := Lib.hid hZ; have HG := Lib.hid hg0
  clear hx hok hb hr hZ hg0
  go_enter Try.func27, Try.ntmps27
  go_wp2_with fail
  rw [← hwa]
  clear hwa
  refine (lend_any _ sg 0x78 _ hl hxa).mono ?_
  rintro e w1 ⟨v1, rfl, ⟨gl, c, rfl, hlent⟩, hB1⟩
  obtain ⟨g', c', rest, heq, hgb, hc4, hcm, hblk, hrest⟩ := own_blk hlent (by omega)
  injection heq with e1 e2 e3
  injection e1 with e1
  injection e1 with e1
  subst e1; subst e3
  have hBs1 : Bs w1 (.slice (some ⟨gl, 0, none⟩) sg.length c) sg := Rd.mk (by omega) hcm fun j u hu => by
    rw [Nat.zero_add]
    refine hblk.cell_some ?_
    rw [List.getElem?_append_left (by have := (List.getElem?_eq_some_iff.1 hu).1; simp at this ⊢; omega), List.map_append, List.getElem?_append_left (List.getElem?_eq_some_iff.1 hu).1]
    exact hu
  have hBw1 : Below w.heap.size w w1 := below_trans hBa hB1
  have hO1 := hOa.later hB1
  have b1 := hO1.cell_some (i := 1) rfl
  have hgl := hblk.lt
  have hz1 := hB1.size
  clear hlent a2
  go_wp2_with fail
  refine (putB (HB.out.later hBw1) HOK.out hBs1).mono ?_
  rintro e w2 ⟨rfl, hb2, hS2⟩
  have hS2w : Same (s.foot g r) w w2 := (Same.of_below hBw1 _).trans hS2 (fun _ _ h => .inl h)
  have hfb : ∀ k, s.fb g k → k < w.heap.size := fun k hk => by obtain ⟨_, cs, h⟩ := HB.out.blk hk; exact h.lt
  have hfr : ∀ k, s.fr r k → k < w.heap.size := fun k hk => by obtain ⟨_, cs, h⟩ := HR.out.blk hk; exact h.lt
  have hZ2 : ∀ k, (Z k ∨ k = gl) → k < w2.heap.size := fun k hk => by
    have := hS2.size
    rcases hk with h | h
    · have := HZ.out k h; omega
    · omega
  have hr1 : PRef w1 r base (fun k => Z k ∨ k = gl) pr s := HR.out.out hBw1 fun k hk => by
    rcases hk with h | h
    · exact .inl h
    · right; omega
  have hr2 := hr1.keep hS2 (fun k hk hk' => PBox.ne_ref (HB.out.later hBw1) (HR.out.later hBw1) hk' hk) fun k hk => by
    obtain ⟨_, cs, h⟩ := (HB.out.later hBw1).blk hk
    exact .inr (.inr ⟨_, cs, h, by decide, by decide⟩)
  have hO2 := hO1.same hS2 (fun h => by have := hfb _ h; omega)
  have hblk2 := hblk.same hS2 (fun h => by have := hfb _ h; omega)
  have c1 := hO2.cell_some (i := 1) rfl
  have c2 := hO2.cell_some (i := 2) rfl
  have hx2 : Bs w2 (.slice xp sg.length xc) sg := HX.out.later (hw0.trans (hS2w.belowB fun i hi => ⟨by omega, fun h => by have := HG.out i h; omega⟩))
  clear b1 hr1 hblk hO1 hBs1 hS2
  go_wp2_with fail
  refine (putR hr2 HOK.out hZ2 hx2).mono ?_
  rintro e w3 ⟨rfl, hr3, hS3⟩
  have hS3w : Same (s.foot g r) w w3 := hS2w.trans hS3 (fun _ _ h => .inr h)
  have hb3 : PBox w3 g pb (s.put ix sg) := hb2.keep hS3 fun k hk hk' => by
    rw [PS.fb_put] at hk
    exact PBox.ne_ref (HB.out.later hBw1) (HR.out.later hBw1) hk hk'
  have hO3 := hO2.same hS3 (fun h => by have := hfr _ h; omega)
  have hblk3 := hblk2.same hS3 (fun h => by have := hfr _ h; omega)
  have d2 := hO3.cell_some (i := 2) rfl
  have hx3 : Bs w3 (.slice xp sg.length xc) sg := HX.out.later (hw0.trans (hS3w.belowB fun i hi => ⟨by omega, fun h => by have := HG.out i h; omega⟩))
  have hgl3 := hblk3.lt
  obtain ⟨F, hF⟩ : ∃ F, F = s.err ix sg := ⟨_, rfl⟩
  rw [← hF]
  have HB3 := Lib.hid hb3; have HR3 := Lib.hid hr3; have HS3 := Lib.hid hS3w; have HZ2 := Lib.hid hZ2
  clear hF c1 c2 hb2 hr2 hb3 hr3 hS2w hS3w hS3 hfb hfr hblk2 hO2 hx2 hO3 hZ2
  go_wp2_with fail
  refine (num_any _ _).mono ?_
  rintro e _ ⟨rfl, rfl⟩
  go_wp2_with fail
  refine (kept_any gl c _ sg 0x78 _ hl hx3 hc4 (fun j u hu => ?_)).mono ?_
  · exact hblk3.cell_some (by rw [List.getElem?_append_left (List.getElem?_eq_some_iff.1 hu).1]; exact hu)
  rintro e _ ⟨rfl, n5, rfl⟩
  have hblk5 : Blk w3 gl 5 (sg.map ub ++ ((List.replicate 4 (0x78 : UInt8)).map ub ++ rest)) := by rw [← List.append_assoc, ← List.map_append]; exact hblk3
  obtain ⟨tl, htl⟩ : ∃ tl, tl = (List.replicate 4 (0x78 : UInt8)).map ub ++ rest := ⟨_, rfl⟩
  rw [← htl] at hblk5
  have HBL := Lib.hid hblk5
  clear htl hblk5 hblk3 hx3 d2 hrest hB1 hBa hOa a0 hxa
  go_wp2_with fail
  go_loopw [11] (fun i wr => ∃ (k : Nat) (cs : List UInt8), k ≤ sg.length ∧ i = .int .i64 k ∧ Hid (cs.length = sg.length) ∧ Blk wr gl 5 (cs.map ub ++ tl) ∧ Same (at1 gl) w3 wr) (fun i _ => sg.length - (intOf i).toNat)
  case atStart => exact ⟨0, sg, Nat.zero_le _, rfl, Lib.hid rfl, HBL.out.drewN _, (Same.refl _ _).drewN _⟩
  case round =>
    obtain ⟨k, cs, hk, rfl, hcl, hb, hS⟩ := hrel
    by_cases hlt : k < sg.length
    · have hkc : k < cs.length := by rw [hcl.out]; exact hlt
      have e1 : wr.cell? ⟨gl, k, none⟩ = some (.int .u8 (cs[k].toNat : Int)) := hb.cell_some (by
        rw [List.getElem?_append_left (by rw [List.length_map]; exact hkc), List.getElem?_map, List.getElem?_eq_getElem hkc]; rfl)
      have e2 : wr.frozen? ⟨gl, k, none⟩ = false := hb.frozen k
      go_wp2
      go_roundw
      case rel =>
        refine ⟨k + 1, cs.set k (cs[k] + 9), by omega, by go_num, Lib.hid (by rw [List.length_set]; exact hcl.out), ?_, hS.setCell (p := ⟨gl, k, none⟩) (fun _ => rfl) _⟩
        have := hb.set k (.int .u8 (((cs[k].toNat : Int) + 9) % 256))
        rw [show Value.int .u8 (((cs[k].toNat : Int) + 9) % 256) = ub (cs[k] + 9) by simp [ub, UInt8.toNat_add]] at this
        rw [List.set_append_left _ _ (by rw [List.length_map]; exact hkc), ← List.map_set] at this
        exact this
      case measure => simp [intOf]; omega
    · clear hb
      go_wp2
      go_ret
      refine ⟨rfl, HB3.out.keep hS fun k hk h => ?_, ?_, HS3.out.trans hS fun i hi h => ?_⟩
      · rw [PS.fb_put] at hk
        obtain ⟨_, cs, h1⟩ := HB.out.blk hk
        have := h1.lt
        have e : k = gl := h
        omega
      · refine (HR3.out.keep hS (fun k hk h => ?_) fun k hk => .inl (.inr hk)).out (Below.refl _ _) fun k hk => .inl (.inl hk)
        rw [PS.fr_put] at hk
        obtain ⟨_, cs, h1⟩ := HR.out.blk hk
        have := h1.lt
        have e : k = gl := h
        omega
      · have e : i = gl := h
        omega

set_option maxHeartbeats 4000000 in
set_option maxRecDepth 100000 in
theorem ask_more (g r base : Nat) (Z : Nat → Prop) (pb pr x : Value) (s : PS) (kd ix : Int) (sg : List UInt8) (w : World) (hok : s.ok) (hb : PBox w g pb s) (hr : PRef w r base Z pr s) (hx : ∃ xp xn xc, x = .slice xp xn xc) (hk : kd ≠ 1) :
    Calls Try.prog 27 #[pb, pr, .agg #[.int .i64 kd, .int .i64 ix, x]] w fun e w' => e = .returned (.bool true) ∧ Below w.heap.size w w' := by
  obtain ⟨xp, xn, xc, rfl⟩ := hx
  obtain ⟨wa, hwa⟩ : ∃ wa, wa = w.alloc (.cells #[.int .i64 kd, .int .i64 ix, .slice xp xn xc] 42) := ⟨_, rfl⟩
  have hBa : Below w.heap.size w wa := hwa ▸ (Below.refl _ _).alloc (Nat.le_refl _) _
  have hOa : Blk wa w.heap.size 42 [.int .i64 kd, .int .i64 ix, .slice xp xn xc] := hwa ▸ Blk.new w _ _
  have a0 := hOa.cell_some (i := 0) rfl
  have hba := hb.later hBa
  have hra := hr.later hBa
  have hz := hBa.size
  have HOK := Lib.hid hok; have HB := Lib.hid hba; have HR := Lib.hid hra
  have t1 : (kd == 1) = false := by rw [beq_eq_false_iff_ne]; exact hk
  clear hok hb hr hba hra hOa hk
  by_cases h2 : kd = 2
  · subst h2
    go_enter Try.func27, Try.ntmps27
    go_wp2_with fail
    rw [← hwa]
    clear hwa
    go_wp2_with fail
    refine (countB HB.out).mono ?_
    rintro e _ ⟨rfl, rfl⟩
    go_wp2_with fail
    refine (countR HR.out HOK.out).mono ?_
    rintro e _ ⟨rfl, rfl⟩
    go_wp2_with fail
    go_ret
    exact ⟨rfl, hBa⟩
  have t2 : (kd == 2) = false := by rw [beq_eq_false_iff_ne]; exact h2
  by_cases h3 : kd = 3
  · subst h3
    go_enter Try.func27, Try.ntmps27
    go_wp2_with fail
    rw [← hwa]
    clear hwa
    go_wp2_with fail
    refine (gotB HB.out HOK.out).mono ?_
    rintro e w1 ⟨v1, rfl, own1, hB1⟩
    go_wp2_with fail
    refine (gotR (HR.out.later hB1) HOK.out).mono ?_
    rintro e w2 ⟨v2, rfl, own2, hB2⟩
    go_wp2_with fail
    refine (sameRanges_yes _ _ _ _ (Rgs.of_own (own_later own1 hB2)) (Rgs.of_own own2) ?_).mono ?_
    · have := PS.got_len HOK.out; omega
    rintro e _ ⟨rfl, n3, rfl⟩
    go_wp2_with fail
    go_ret
    exact ⟨rfl, below_drewN (below_trans hBa (below_trans hB1 hB2)) _⟩
  have t3 : (kd == 3) = false := by rw [beq_eq_false_iff_ne]; exact h3
  by_cases h4 : kd = 4
  · subst h4
    obtain ⟨dl, hdl⟩ : ∃ dl, dl = decide (0 < s.len) := ⟨_, rfl⟩
    go_enter Try.func27, Try.ntmps27
    go_wp2_with fail
    rw [← hwa]
    clear hwa
    go_wp2_with fail
    refine (lengthB HB.out).mono ?_
    rintro e _ ⟨rfl, n1, rfl⟩
    go_wp2_with fail
    refine (lengthR (HR.out.later (below_drewN (Below.refl _ _) _)) HOK.out).mono ?_
    rintro e _ ⟨rfl, rfl⟩
    rw [← hdl]
    clear hdl
    cases dl
    all_goals
      go_wp2_with fail
      go_ret
      exact ⟨rfl, below_drewN hBa _⟩
  have t4 : (kd == 4) = false := by rw [beq_eq_false_iff_ne]; exact h4
  by_cases h5 : kd = 5
  · subst h5
    obtain ⟨al, hal⟩ : ∃ al, al = s.all := ⟨_, rfl⟩
    go_enter Try.func27, Try.ntmps27
    go_wp2_with fail
    rw [← hwa]
    clear hwa
    go_wp2_with fail
    refine (wholeB HB.out HOK.out).mono ?_
    rintro e w1 ⟨v1, rfl, own1, hB1⟩
    go_wp2_with fail
    refine (wholeR (HR.out.later hB1) HOK.out).mono ?_
    rintro e w2 ⟨v2, rfl, own2, hB2⟩
    rw [← hal]
    have s1 : Bs w2 v1 s.blk := Bs.of_own (own_later own1 hB2)
    have s2 : Bs w2 v2 s.blk := Bs.of_own own2
    obtain ⟨L, hL⟩ : ∃ L, L = s.blk := ⟨_, rfl⟩
    rw [← hL] at s1 s2
    obtain ⟨a1, c1, rfl, -⟩ := id s1
    obtain ⟨a2, c2, rfl, -⟩ := id s2
    have k1 := run_str8 s1 (W := w2) rfl
    have k2 := run_str8 s2 (W := w2) rfl
    have hq := str_beq_yes (a := L) (b := L) rfl
    clear hal hL own1 own2 s1 s2
    cases al
    all_goals
      go_wp2_with fail
      go_ret
      exact ⟨rfl, below_trans hBa (below_trans hB1 hB2)⟩
  have t5 : (kd == 5) = false := by rw [beq_eq_false_iff_ne]; exact h5
  go_enter Try.func27, Try.ntmps27
  go_wp2_with fail
  rw [← hwa]
  clear hwa
  go_wp2_with fail
  go_ret
  exact ⟨rfl, hBa⟩
end Go.Proofs.Ytgnbnkoanoalhaa
