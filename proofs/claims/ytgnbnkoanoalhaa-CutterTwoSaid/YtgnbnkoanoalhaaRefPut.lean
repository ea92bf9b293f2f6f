/- The reference's Put. -/
import Derived.Test.YtgnbnkoanoalhaaRefBox
import Derived.Test.YtgnbnkoanoalhaaRefFitsWalk
namespace Go.Proofs.Ytgnbnkoanoalhaa
set_option linter.unusedVariables false
set_option linter.unusedSimpArgs false
open Go.RowKit
theorem parts_set {Z : Nat → Prop} {w w1 : World} {base g c n i : Nat} {x1 : Value} {ls : List (List UInt8)} {t : List UInt8} (hP : PartsZ w base Z (.slice (some ⟨g, 0, none⟩) n c) ls) (hZ : ∀ k, Z k → k < w.heap.size) (hn : ls.length = n) (hi : i < n)
    (h1 : w1.ownsRow w.heap.size 5 1 x1 t.length (t.map ub)) (hB : Below w.heap.size w w1) : PartsZ (w1.setCell ⟨g, i, none⟩ x1) base Z (.slice (some ⟨g, 0, none⟩) n c) (ls.set i t) := by
  subst hn
  obtain ⟨vs, h0, hin, hne, hzv, hzs⟩ := hP
  have hvl : vs.length = ls.length := by simpa using h0.1
  have hbg := h0.lt g rfl
  have h0' := own_later h0 hB
  have hs := h0'.stored i x1
  have hkeep : ∀ {y : Value} {n : Nat} {xs : List Value}, w1.ownsRow base 5 1 y n xs → (w1.setCell ⟨g, i, none⟩ x1).ownsRow base 5 1 y n xs := fun h => h.kept hs.2 (own_ne h h0' (by decide))
  refine ⟨vs.set i x1, by simpa using hs.1, fun j y l hy hl => ?_, fun j k y z hjk hy hz => ?_, hzv, fun x hx b e hz => ?_⟩
  · rw [List.getElem?_set] at hy hl
    by_cases he : i = j
    · subst he
      rw [if_pos rfl, if_pos (by omega)] at hy hl
      injection hy with hy; injection hl with hl
      subst hy; subst hl
      exact hkeep (own_mono h1 (by omega))
    · rw [if_neg he] at hy hl
      exact hkeep (own_later (hin j y l hy hl) hB)
  · rw [List.getElem?_set] at hy hz
    by_cases hj : i = j
    · subst hj
      rw [if_pos rfl, if_pos (by omega)] at hy
      rw [if_neg (by omega)] at hz
      injection hy with hy
      subst hy
      have hk : k < vs.length := (List.getElem?_eq_some_iff.1 hz).1
      have hz' := hin k z _ hz (List.getElem?_eq_getElem (by omega))
      cases hyo : x1.ownBlock with
      | none => exact .inl rfl
      | some b =>
        refine .inr fun e => ?_
        have a1 := (h1.lt b hyo).1
        have a2 := (hz'.lt b e.symm).2
        omega
    · rw [if_neg hj] at hy
      have hjl : j < vs.length := (List.getElem?_eq_some_iff.1 hy).1
      have hy' := hin j y _ hy (List.getElem?_eq_getElem (by omega))
      by_cases hk : i = k
      · subst hk
        rw [if_pos rfl, if_pos (by omega)] at hz
        injection hz with hz
        subst hz
        cases hyo : y.ownBlock with
        | none => exact .inl rfl
        | some b =>
          refine .inr fun e => ?_
          have a1 := (h1.lt b e.symm).1
          have a2 := (hy'.lt b hyo).2
          omega
      · rw [if_neg hk] at hz
        exact hne j k y z hjk hy hz
  · rcases List.mem_or_eq_of_mem_set hx with h | h
    · exact hzs x h b e hz
    · subst h
      have a1 := (h1.lt b e).1
      have a2 := hZ b hz
      omega
theorem PartsZ.store {Z : Nat → Prop} {w : World} {base r i : Nat} {v u : Value} {ls : List (List UInt8)} {cs : List Value} (h : PartsZ w base Z v ls) (hb : Blk w r 82 cs) : PartsZ (w.setCell ⟨r, i, none⟩ u) base Z v ls :=
  h.keep ((Same.refl (at1 r) _).setCell (p := ⟨r, i, none⟩) (fun _ => rfl) u) fun k hk => .inr (.inr ⟨_, cs, (show k = r from hk) ▸ hb, by decide, by decide⟩)

def fitsOf (ls : List (List UInt8)) : Bool := evenOf ls && roomOf ls
def refErr (ls : List (List UInt8)) (index : Int) (seg : List UInt8) : Int :=
  if index < 0 ∨ (ls.length : Int) ≤ index ∨ seg.length = 0 ∨ 1024 < seg.length then 1
  else if ls.getD index.toNat [] ≠ [] then (if ls.getD index.toNat [] = seg then 3 else 120)
  else if fitsOf (ls.set index.toNat seg) = true then 0 else 120
def refPut (ls : List (List UInt8)) (index : Int) (seg : List UInt8) : List (List UInt8) := if refErr ls index seg = 0 then ls.set index.toNat seg else ls

set_option maxHeartbeats 2000000 in
set_option maxRecDepth 100000 in
theorem refPut_arg (r base : Nat) {Z : Nat → Prop} (ls : List (List UInt8)) (index : Int) (v : Value) (seg : List UInt8) (w : World) (h : RefAt w r base Z ls) (hr : Bs w v seg)
    (hc : index < 0 ∨ (ls.length : Int) ≤ index ∨ seg.length = 0 ∨ 1024 < seg.length) :
    Calls Try.prog 35 #[.pointer (some ⟨r, 0, none⟩), .int .i64 index, v] w fun e w' => e = .returned (.int .i64 1) ∧ w = w' := by
  obtain ⟨ao, cap, c0, -⟩ := h.open
  obtain ⟨vo, vcap, rfl, hn, hm, hcc⟩ := id hr
  by_cases h1 : index < 0
  · clear hc
    go_enter Try.func35, Try.ntmps35
    go_wp2
    go_ret
    exact ⟨rfl, rfl⟩
  by_cases h2 : (ls.length : Int) ≤ index
  · clear hc
    go_enter Try.func35, Try.ntmps35
    go_wp2
    go_ret
    exact ⟨rfl, rfl⟩
  by_cases h3 : seg.length < 1
  · clear hc
    have hb : ((seg.length : Int) == 0) = true := by rw [beq_iff_eq]; omega
    go_enter Try.func35, Try.ntmps35
    go_wp2
    go_ret
    exact ⟨rfl, rfl⟩
  · have h4 : 1024 < seg.length := by omega
    have hb : ((seg.length : Int) == 0) = false := by rw [beq_eq_false_iff_ne]; omega
    clear hc
    go_enter Try.func35, Try.ntmps35
    go_wp2
    go_ret
    exact ⟨rfl, rfl⟩
set_option maxHeartbeats 2000000 in
set_option maxRecDepth 100000 in
theorem refPut_there (r base i : Nat) {Z : Nat → Prop} (ls : List (List UInt8)) (v : Value) (seg : List UInt8) (w : World) (h : RefAt w r base Z ls) (hr : Bs w v seg) (hi : i < ls.length) (h1 : 1 ≤ seg.length) (h2 : seg.length ≤ 1024)
    (h0 : ls.getD i [] ≠ []) :
    Calls Try.prog 35 #[.pointer (some ⟨r, 0, none⟩), .int .i64 i, v] w fun e w' => e = .returned (.int .i64 (if ls.getD i [] = seg then 3 else 120)) ∧ Same no w w' := by
  obtain ⟨ao, cap, c0, hp⟩ := h.open
  obtain ⟨b, off, xp, xc, rfl, e1, b1⟩ := hp.elem hi
  obtain ⟨p, hp'⟩ : ∃ p, p = ls.getD i [] := ⟨_, rfl⟩
  rw [← hp'] at e1 b1 h0 ⊢
  have hp0 : 0 < p.length := List.length_pos_iff.2 h0
  have ix : (i : Int) < ls.length := by omega
  have ix2 : ¬ (ls.length : Int) ≤ i := by omega
  have hb : ((seg.length : Int) == 0) = false := by rw [beq_eq_false_iff_ne]; omega
  obtain ⟨vo, vcap, rfl, -⟩ := id hr
  have k1 := fun n => run_str8 b1 (W := w.drewN n) rfl
  have k2 := fun n => run_str8 hr (W := w.drewN n) rfl
  clear hp' hp b1 hr h0 h
  by_cases hs : p = seg
  · have hq := str_beq_yes hs
    rw [if_pos hs]
    clear hs
    go_enter Try.func35, Try.ntmps35
    go_wp2
    go_quiet (fail)
    go_wp2
    go_ret
    exact ⟨rfl, (Same.refl _ _).drewN _⟩
  · have hq := str_beq_no hs
    rw [if_neg hs]
    clear hs
    go_enter Try.func35, Try.ntmps35
    go_wp2
    go_quiet (fail)
    go_wp2
    go_ret
    exact ⟨rfl, (Same.refl _ _).drewN _⟩

set_option maxHeartbeats 4000000 in
set_option maxRecDepth 100000 in
theorem refPut_in (r base i : Nat) {Z : Nat → Prop} (F : Bool) (ls : List (List UInt8)) (v : Value) (seg : List UInt8) (w : World) (h : RefAt w r base Z ls) (hr : Bs w v seg) (hl : ls.length ≤ 64) (hm : ∀ p ∈ ls, p.length ≤ 1024)
    (hi : i < ls.length) (h1 : 1 ≤ seg.length) (h2 : seg.length ≤ 1024) (h0 : ls.getD i [] = []) (hZ : ∀ k, Z k → k < w.heap.size) (hF : Hid (F = fitsOf (ls.set i seg))) :
    Calls Try.prog 35 #[.pointer (some ⟨r, 0, none⟩), .int .i64 i, v] w fun e w' => e = .returned (.int .i64 (bif F then 0 else 120)) ∧ RefAt w' r base Z (bif F then ls.set i seg else ls) ∧ Same (at1 r) w w' := by
  have hra := h.lt
  obtain ⟨sv, hb, hP, -⟩ := id h
  obtain ⟨vs, hv, hin, hne, -, hzs⟩ := hP
  have hvl : vs.length = ls.length := by simpa using hv.1
  obtain ⟨g, cap, rest, rfl, hg1, hg2, hg3, hblk, hrest⟩ := own_blk hv (by omega)
  have hgs := hblk.lt
  have c0 := hb.cell_some (i := 0) rfl
  have c0f := hb.frozen 0
  obtain ⟨N, hN⟩ : ∃ N, N = ls.length := ⟨_, rfl⟩
  rw [← hN] at hv hl hi hvl c0 hg2
  have HN := Lib.hid hN
  obtain ⟨x, hx⟩ : ∃ x, vs[i]? = some x := ⟨_, List.getElem?_eq_getElem (by omega)⟩
  have hli : ls[i]? = some [] := by rw [List.getD_eq_getElem?_getD] at h0; rw [List.getElem?_eq_getElem (by omega)] at h0 ⊢; simpa using h0
  have hxi := hin i x _ hx hli
  have e1 := (hv.cellAt i (by omega)).trans hx
  obtain ⟨xp, xc, rfl, -⟩ := Rd.of_own hxi
  have ix : (i : Int) < N := by omega
  have ix2 : ¬ (N : Int) ≤ i := by omega
  have hbq : ((seg.length : Int) == 0) = false := by rw [beq_eq_false_iff_ne]; omega
  obtain ⟨vo, vcap, rfl, -⟩ := id hr
  have HV := Lib.hid hv; have HIN := Lib.hid hin; have HNE := Lib.hid hne; have HZS := Lib.hid hzs; have HZ := Lib.hid hZ; have HH := Lib.hid h; have HR := Lib.hid hr; have HM := Lib.hid hm; have HVL := Lib.hid hvl; have HB := Lib.hid hb
  clear hN hx hli hxi h0 hv hin hne hzs hZ h hr hm hblk hvl hb hrest
  go_enter Try.func35, Try.ntmps35
  go_wp2
  go_loopw [7, 8] (fun l ix wr => ∃ k : Nat, k ≤ N ∧ ix = .int .i64 k ∧ wr.ownsRow w.heap.size 22 1 l k (vs.take k) ∧ Below w.heap.size w wr) (fun _ ix _ => N - (intOf ix).toNat)
  case atStart => exact ⟨0, Nat.zero_le _, rfl, World.ownsRow_nil _ _ _ _, Below.refl _ _⟩
  case round =>
    obtain ⟨k, hk, rfl, hown, hB⟩ := hrel
    have hz := hB.size
    have c0o := c0
    have c0 := below_cell hB c0 hra.1
    by_cases hlt : k < N
    · clear c0o
      obtain ⟨x, hx⟩ : ∃ x, vs[k]? = some x := ⟨vs[k]'(by rw [HVL.out]; omega), List.getElem?_eq_getElem _⟩
      have e3 := below_cell hB ((HV.out.cellAt k (by omega)).trans hx) hgs
      have hkl : k < ls.length := by rw [← HN.out]; exact hlt
      obtain ⟨yp, yc, rfl, -⟩ := Rd.of_own (HIN.out k x _ hx (List.getElem?_eq_getElem hkl))
      obtain ⟨m, hm⟩ : ∃ m, m = (ls[k]).length := ⟨_, rfl⟩
      rw [← hm] at e3 hx
      have hts : vs.take (k + 1) = vs.take k ++ [Value.slice yp m yc] := by
        have hk2 : k < vs.length := by rw [HVL.out]; exact hlt
        rw [List.getElem?_eq_getElem hk2] at hx
        injection hx with hx
        rw [List.take_succ_eq_append_getElem hk2, hx]
      have HT := Lib.hid hts
      have ix3 : (k : Int) < N := by omega
      clear hm hx hts
      go_wp2_with (at_builtin; go_loud (refine wpList_app1 El.bytes rfl (.tmp 63) (.tmp 71) rfl hown rfl (cs := #[.slice yp m yc]) rfl rfl (by intro x hx; simp at hx; subst hx; rfl) (by omega) hz ?_); intro v1 w1 hown1 hgr1 _)
      have hB1 := hB.grown hgr1 hz (fun k hk => (hown.lt k hk).1)
      clear hgr1 hown
      go_roundw
      case rel => exact ⟨k + 1, by omega, by go_num, by rw [HT.out]; exact hown1, hB1⟩
      case measure => simp [intOf]; omega
    · obtain rfl : k = N := by omega
      rw [List.take_of_length_le (by rw [HVL.out]; omega)] at hown
      have hP : PartsZ wr base Z u7 ls := ⟨vs, by rw [← HN.out]; exact own_mono hown (by omega), fun i x l a b => own_later (HIN.out i x l a b) hB, HNE.out, fun b e hz => by have := (hown.lt b e).1; have := HZ.out b hz; omega, HZS.out⟩
      obtain ⟨g2, cap2, rest2, rfl, hg21, hg22, hg23, hblk2, -⟩ := own_blk hown (by omega)
      have hg2s := hblk2.lt
      have s1 := hblk2.cell_some (i := i) (v := vs[i]'(by rw [HVL.out]; exact hi)) (by rw [List.getElem?_append_left (by rw [HVL.out]; exact hi)]; exact List.getElem?_eq_getElem _)
      have s2 := hblk2.frozen i
      have hBs := HR.out.later hB
      have HP := Lib.hid hP
      clear hP hblk2 hown
      go_wp2_with (at_builtin; go_loud (refine wpList_app El.u8 rfl (.tmp 75) (.tmp 76) rfl (World.ownsRow_lit wr #[] 0 (Nat.le_refl _) (Nat.zero_le _) rfl) rfl (hBs.alloc _) rfl (by simp) (ub_one _) (by simp; omega) (by simp) ?_); intro v5 w5 hown5 hgr5 _; obtain ⟨g5, c5, rfl, _, _⟩ := hown5.form (by omega); have hBw : Below wr.heap.size wr w5 := ((Below.refl _ _).alloc (Nat.le_refl _) _).grown hgr5 (by simp) (fun k hk => by simp [Value.ownBlock] at hk; omega); have s1 := below_cell hBw s1 hg2s; have s2 := (hBw.frozen (p := ⟨g2, i, none⟩) hg2s).trans s2; clear hgr5)
      obtain ⟨wA, hwA⟩ : ∃ wA, wA = w5.setCell ⟨g2, i, none⟩ (.slice (some ⟨g5, 0, none⟩) seg.length c5) := ⟨_, rfl⟩
      have hP2 : PartsZ wA base Z (.slice (some ⟨g2, 0, none⟩) k cap2) (ls.set i seg) := by
        rw [hwA]
        refine parts_set HP.out (fun k hk => Nat.lt_of_lt_of_le (HZ.out k hk) hz) HN.out.symm hi ?_ hBw
        rw [Nat.zero_add, List.nil_append] at hown5
        exact hown5
      have hBA : Below w.heap.size w wA := hwA ▸ (hB.trans (hBw.mono hz)).setCell (p := ⟨g2, i, none⟩) hg21 _
      have hsl : (ls.set i seg).length = k := by rw [List.length_set]; exact HN.out.symm
      have hsm : ∀ p ∈ ls.set i seg, p.length ≤ 1024 := fun p hp => by
        rcases List.mem_or_eq_of_mem_set hp with h | h
        · exact HM.out p h
        · subst h; exact h2
      have hfit := refFits_any _ (ls.set i seg) wA hP2.parts.bss (by omega) (by omega) hsm
      rw [show (evenOf (ls.set i seg) && roomOf (ls.set i seg)) = F from hF.out.symm] at hfit
      rw [← hwA]
      have t0 := below_cell hBA c0o hra.1
      have t1 : wA.frozen? ⟨r, 0, none⟩ = false := (hBA.frozen (p := ⟨r, 0, none⟩) hra.1).trans c0f
      have HP2 := Lib.hid hP2; have HSL := Lib.hid hsl; have HSM := Lib.hid hsm
      clear hwA hP2 hsl hsm hown5 hBw hBs s1 s2 c0 HP
      refine hfit.mono ?_
      rintro e _ ⟨rfl, q, rfl⟩
      cases F
      · go_wp2_with fail
        go_ret
        exact ⟨rfl, HH.out.later (below_drewN hBA _), Same.of_below (below_drewN hBA _) _⟩
      · go_wp2_with fail
        go_ret
        have hbA := HB.out.below hBA hra.1
        exact ⟨rfl, ⟨_, (hbA.set 0 _).drewN q, HP2.out.store hbA, hra.2⟩, ((Same.of_below hBA (at1 r)).setCell (p := ⟨r, 0, none⟩) (fun _ => rfl) _).drewN q⟩
/-- Put of any reference's box. -/
theorem refPut_any (r base : Nat) {Z : Nat → Prop} (ls : List (List UInt8)) (index : Int) (v : Value) (seg : List UInt8) (w : World) (h : RefAt w r base Z ls) (hr : Bs w v seg) (hl : ls.length ≤ 64) (hm : ∀ p ∈ ls, p.length ≤ 1024) (hZ : ∀ k, Z k → k < w.heap.size) :
    Calls Try.prog 35 #[.pointer (some ⟨r, 0, none⟩), .int .i64 index, v] w fun e w' => e = .returned (.int .i64 (refErr ls index seg)) ∧ RefAt w' r base Z (refPut ls index seg) ∧ Same (at1 r) w w' := by
  by_cases hc : index < 0 ∨ (ls.length : Int) ≤ index ∨ seg.length = 0 ∨ 1024 < seg.length
  · refine (refPut_arg r base ls index v seg w h hr hc).mono ?_
    rintro e _ ⟨rfl, rfl⟩
    have he : refErr ls index seg = 1 := if_pos hc
    rw [refPut, he, if_neg (by decide)]
    exact ⟨rfl, h, Same.refl _ _⟩
  · obtain ⟨i, rfl⟩ := Int.eq_ofNat_of_zero_le (show 0 ≤ index by omega)
    have he : refErr ls i seg = if ls.getD i [] ≠ [] then (if ls.getD i [] = seg then 3 else 120) else if fitsOf (ls.set i seg) = true then 0 else 120 := if_neg hc
    by_cases h0 : ls.getD i [] = []
    · rw [if_neg (by simpa using h0)] at he
      refine (refPut_in r base i (fitsOf (ls.set i seg)) ls v seg w h hr hl hm (by omega) (by omega) (by omega) h0 hZ rfl).mono ?_
      rintro e w' ⟨rfl, hR, hS⟩
      rw [refPut, he]
      cases hf : fitsOf (ls.set i seg)
      · rw [hf] at hR
        exact ⟨rfl, hR, hS⟩
      · rw [hf] at hR
        exact ⟨rfl, hR, hS⟩
    · rw [if_pos h0] at he
      refine (refPut_there r base i ls v seg w h hr (by omega) (by omega) (by omega) h0).mono ?_
      rintro e w' ⟨rfl, hS⟩
      rw [refPut, he]
      refine ⟨rfl, ?_, hS.mono fun _ _ h => h.elim⟩
      rw [if_neg (by split <;> decide)]
      exact h.later hS.below
end Go.Proofs.Ytgnbnkoanoalhaa
