/- The reference's Least, Union, Add, Missing, walked. -/
import Derived.Test.YtghjffgaebnhiaaDoorMRefNext
import Derived.Test.YtghjffgaebnhiaaDoorMAppAt
namespace Go.Proofs.YtghjffgaebnhiaaDoor
set_option linter.unusedVariables false
set_option linter.unusedSimpArgs false
open Go.RowKit
def lsm (ok f : Value) : Nat := match ok with | .bool true => (9223372036854775808 - intOf f).toNat + 1 | _ => 0
theorem NextIs.lt {l : List (Int × Int)} {b f : Int} (h : NextIs l b (some f)) (hi : ∀ g ∈ l, g.2 ≤ 9223372036854775807) : f < 9223372036854775807 := by
  obtain ⟨_, ⟨g, hg, h1, h2⟩, _⟩ := h
  have := hi g hg
  omega
set_option maxHeartbeats 4000000 in
set_option maxRecDepth 100000 in
theorem refLeast_any (v : Value) (l : List (Int × Int)) (w : World) (h : Rgs w v l) (hl : l.length ≤ 4398046511104) (hlo : ∀ g ∈ l, -9223372036854775808 ≤ g.1) (hi : ∀ g ∈ l, g.2 ≤ 9223372036854775807) :
    Calls Tryd.prog 27 #[v] w fun e w' => ∃ v', e = .returned v' ∧ w'.ownsRow w.heap.size 57 2 v' (leastR l).length (rvs (leastR l)) ∧ Below w.heap.size w w' := by
  have HRG := Lib.hid h; have HLO := Lib.hid hlo; have HI := Lib.hid hi
  obtain ⟨ao, cap, rfl, -⟩ := id h
  clear h hlo hi
  go_enter Tryd.func27, Tryd.ntmps27
  go_wp2_with fail
  refine (refNext_any _ l _ _ HRG.out (by omega)).mono ?_
  rintro e w1 ⟨r, hN, rfl, q, rfl⟩
  have hI0 : LeastI l [] (-9223372036854775808) := ⟨canon_nil, by simp, .inl rfl, fun x => ⟨fun h => absurd h (mem_nil x), fun ⟨⟨g, hg, h1, _⟩, h2⟩ => by have := HLO.out g hg; omega⟩⟩
  have HI0 := Lib.hid hI0; have HN := Lib.hid hN
  clear hI0 hN
  go_wp2_with fail
  go_loopw [3, 4, 5] (fun o f ok wr => ∃ (out : List (Int × Int)) (b : Int) (r : Option Int), wr.ownsRow w.heap.size 57 2 o out.length (rvs out) ∧ f = .int .i64 (r.getD 0) ∧ ok = .bool r.isSome ∧ Hid (LeastI l out b) ∧ Hid (NextIs l b r) ∧ out.length ≤ l.length ∧ Hid (out.length ≤ cntR l b) ∧ Below w.heap.size w wr)
    (fun _ f ok _ => lsm ok f)
  case atStart => exact ⟨[], _, r, World.ownsRow_nil _ _ _ _, rfl, rfl, HI0, HN, Nat.zero_le _, Lib.hid (Nat.zero_le _), below_drewN (Below.refl _ _) _⟩
  case round =>
    obtain ⟨out, b, r, hown, rfl, rfl, HL, HN, hol, hcn, hB⟩ := hrel
    have hz := hB.size
    cases r with
    | none =>
      have HD := Lib.hid (HL.out.done HN.out)
      go_wp2_with fail
      go_ret
      rw [← HD.out]
      exact ⟨_, rfl, hown, hB⟩
    | some f =>
      have hmf := HN.out.2.1
      have hfl := HN.out.lt HI.out
      have hbf := HN.out.1
      have HMF := Lib.hid hmf
      clear hmf
      simp only [Option.getD_some, Option.isSome_some]
      go_wp2_with fail
      refine (refEnd_any _ l f _ (HRG.out.later hB) (by omega) HMF.out HI.out).mono ?_
      rintro e w2 ⟨t, hE, htl, rfl, rfl⟩
      have HE := Lib.hid hE
      have hft := hE.1
      have hst : cntR l b + 1 ≤ cntR l t := cntR_step (by omega) hE.at
      have hcl := cntR_le l t
      have hcn' := hcn.out
      clear hE
      go_wp2_with (at_builtin; go_loud (refine wpList_app1 El.range rfl (.tmp 16) (.tmp 20) rfl hown rfl (cs := #[.int .i64 f, .int .i64 t]) rfl rfl (by simp [Value.oneCell']) (by omega) hz ?_); intro v3 w3 hown3 hgr3 _)
      have hB3 := hB.grown hgr3 hz (fun k hk => (hown.lt k hk).1)
      clear hgr3 hown
      refine (refNext_any _ l t _ (HRG.out.later hB3) (by omega)).mono ?_
      rintro e w4 ⟨r', hN', rfl, q', rfl⟩
      have HN' := Lib.hid hN'
      clear hN'
      go_wp2_with fail
      go_roundw
      case rel => exact ⟨out ++ [(f, t)], t, r', by rw [List.length_append, rvs_app]; exact hown3, rfl, rfl, Lib.hid (HL.out.step HN.out HE.out), HN', by rw [List.length_append, List.length_singleton]; omega, Lib.hid (by rw [List.length_append, List.length_singleton]; omega), below_drewN hB3 _⟩
      case measure =>
        cases r' with
        | none => simp [lsm]
        | some f' =>
          have := HN'.out.1
          have := HN'.out.lt HI.out
          simp [lsm, intOf]
          omega
/-- the first loop of Missing at its end, or on its way. -/
def msm (n : Int) (a : Value) : Nat := (n - intOf a).toNat
theorem gapTo_len (out : List (Int × Int)) (a f : Int) : (gapTo out a f).length ≤ out.length + 1 := by unfold gapTo; split <;> simp
set_option maxHeartbeats 4000000 in
set_option maxRecDepth 100000 in
theorem refMissing_any (v : Value) (l : List (Int × Int)) (n : Int) (w : World) (h : Rgs w v l) (hl : l.length ≤ 4398046511104) (hi : ∀ g ∈ l, g.2 ≤ 9223372036854775807) (hn : n ≤ 9223372036854775807) :
    Calls Tryd.prog 30 #[v, .int .i64 n] w fun e w' => ∃ v', e = .returned v' ∧ w'.ownsRow w.heap.size 57 2 v' (missR (leastR l) n).length (rvs (missR (leastR l) n)) ∧ Below w.heap.size w w' := by
  have HRG := Lib.hid h; have HI := Lib.hid hi
  obtain ⟨ao, cap, rfl, -⟩ := id h
  clear h hi
  go_enter Tryd.func30, Tryd.ntmps30
  go_wp2_with fail
  go_loopw [5, 6] (fun o t wr => ∃ (out : List (Int × Int)) (a : Int), wr.ownsRow w.heap.size 57 2 o out.length (rvs out) ∧ t = .int .i64 a ∧ Hid (GapI l out a) ∧ Hid (n ≤ a → ∀ g ∈ out, g.2 ≤ n) ∧ out.length ≤ l.length ∧ Hid (out.length ≤ cntR l a) ∧ 0 ≤ a ∧ a ≤ 9223372036854775807 ∧ Below w.heap.size w wr)
    (fun _ t _ => msm n t)
  case atStart => exact ⟨[], 0, World.ownsRow_nil _ _ _ _, rfl, Lib.hid (GapI.start l), Lib.hid (fun _ g hg => by simp at hg), Nat.zero_le _, Lib.hid (Nat.zero_le _), Int.le_refl _, by omega, Below.refl _ _⟩
  case round =>
    obtain ⟨out, a, hown, rfl, HG, HF, hol, hcn, ha0, ham, hB⟩ := hrel
    have hz := hB.size
    by_cases han : a < n
    · go_wp2_with fail
      refine (refNext_any _ l a _ (HRG.out.later hB) (by omega)).mono ?_
      rintro e w2 ⟨r, hN, rfl, q, rfl⟩
      have HN := Lib.hid hN
      have hown2 : (wr.drewN q).ownsRow w.heap.size 57 2 u5 out.length (rvs out) := own_later hown (below_drewN (Below.refl _ _) _)
      have hB2 := below_drewN hB q
      clear hN hown hB
      obtain ⟨w2, hw2⟩ : ∃ w2, w2 = wr.drewN q := ⟨_, rfl⟩
      rw [← hw2] at hown2 hB2 ⊢
      clear hw2
      have hz2 := hB2.size
      -- nothing up to n, or something
      by_cases hend : r = none ∨ ∃ y, r = some y ∧ n < y
      · have HD : Hid (gapTo out a n = missR (leastR l) n) := Lib.hid (HG.out.done (by omega) fun x h1 h2 => by
          have := HN.out
          rcases hend with rfl | ⟨y, rfl, hy⟩
          · exact this x h1
          · exact this.2.2 x h1 (by omega))
        have HT : Hid (gapTo out a n = out ++ [(a, n)]) := Lib.hid (if_pos han)
        rcases hend with rfl | ⟨y, rfl, hy⟩
        all_goals
          simp only [Option.getD_some, Option.isSome_some, Option.getD_none, Option.isSome_none]
          go_wp2_with (at_builtin; go_loud (refine wpList_app1 El.range rfl (.tmp 29) (.tmp 33) rfl hown2 rfl (cs := #[.int .i64 a, .int .i64 n]) rfl rfl (by simp [Value.oneCell']) (by omega) hz2 ?_); intro v3 w3 hown3 hgr3 _)
          go_ret
          have hB3 := hB2.grown hgr3 hz2 (fun k hk => (hown2.lt k hk).1)
          rw [← HD.out, HT.out, List.length_append, rvs_app]
          exact ⟨_, rfl, hown3, hB3⟩
      · obtain ⟨y, rfl⟩ : ∃ y, r = some y := by
          cases r with
          | none => exact absurd (.inl rfl) hend
          | some y => exact ⟨y, rfl⟩
        have hyn : ¬ n < y := fun hh => hend (.inr ⟨y, rfl, hh⟩)
        have hay := HN.out.1
        have hmy := HN.out.2.1
        have HMY := Lib.hid hmy
        clear hend hmy
        simp only [Option.getD_some, Option.isSome_some]
        have t1 : decide (n < y) = false := by simpa using hyn
        have hbe : ∀ g ∈ out, g.2 ≤ n := fun g hg => by have := HG.out.ends g hg; omega
        have HBE := Lib.hid hbe
        clear hbe
        by_cases hya : a < y
        · go_wp2_with (at_builtin; go_loud (refine wpList_app1 El.range rfl (.tmp 29) (.tmp 33) rfl hown2 rfl (cs := #[.int .i64 a, .int .i64 y]) rfl rfl (by simp [Value.oneCell']) (by omega) hz2 ?_); intro v3 w3 hown3 hgr3 _; by_cases hny : n ≤ y)
          · obtain rfl : y = n := by omega
            have HD : Hid (gapTo out a y = missR (leastR l) y) := Lib.hid (HG.out.done (by omega) fun x h1 h2 => HN.out.2.2 x h1 h2)
            have HT : Hid (gapTo out a y = out ++ [(a, y)]) := Lib.hid (if_pos hya)
            go_wp2_with fail
            go_ret
            have hB3 := hB2.grown hgr3 hz2 (fun k hk => (hown2.lt k hk).1)
            rw [← HD.out, HT.out, List.length_append, rvs_app]
            exact ⟨_, rfl, hown3, hB3⟩
          · have t2 : decide (n ≤ y) = false := by simpa using hny
            have hB3 := hB2.grown hgr3 hz2 (fun k hk => (hown2.lt k hk).1)
            clear hgr3
            go_wp2_with fail
            refine (refEnd_any _ l y _ (HRG.out.later hB3) (by omega) HMY.out HI.out).mono ?_
            rintro e w4 ⟨t, hE, htl, rfl, rfl⟩
            have HE := Lib.hid hE
            have hft := hE.1
            have hst : cntR l a + 1 ≤ cntR l t := cntR_step (by omega) hE.at
            have hcl := cntR_le l t
            have hcn' := hcn.out
            have HT : Hid (gapTo out a y = out ++ [(a, y)]) := Lib.hid (if_pos hya)
            clear hE
            go_wp2_with fail
            go_roundw
            case rel => exact ⟨out ++ [(a, y)], t, by rw [List.length_append, rvs_app]; exact hown3, rfl, Lib.hid (by rw [← HT.out]; exact HG.out.step HN.out HE.out), Lib.hid (fun _ g hg => by
              rcases List.mem_append.1 hg with h | h
              · exact HBE.out g h
              · simp at h; subst h; simp only; omega), by rw [List.length_append, List.length_singleton]; omega, Lib.hid (by rw [List.length_append, List.length_singleton]; omega), by omega, htl, hB3⟩
            case measure => simp [msm, intOf]; omega
        · obtain rfl : y = a := by omega
          go_wp2_with fail
          refine (refEnd_any _ l y _ (HRG.out.later hB2) (by omega) HMY.out HI.out).mono ?_
          rintro e w4 ⟨t, hE, htl, rfl, rfl⟩
          have HE := Lib.hid hE
          have hft := hE.1
          have hst : cntR l y ≤ cntR l t := cntR_mono l (by omega)
          have hcl := cntR_le l t
          have hcn' := hcn.out
          have HT : Hid (gapTo out y y = out) := Lib.hid (if_neg (by omega))
          clear hE
          go_wp2_with fail
          go_roundw
          case rel => exact ⟨out, t, hown2, rfl, Lib.hid (by have := HG.out.step HN.out HE.out; rwa [HT.out] at this), Lib.hid (fun _ g hg => HBE.out g hg), hol, Lib.hid (by omega), by omega, htl, hB2⟩
          case measure => simp [msm, intOf]; omega
    · have HD := Lib.hid (HG.out.full (by omega) (HF.out (by omega)))
      go_wp2_with fail
      go_ret
      rw [← HD.out]
      exact ⟨_, rfl, hown, hB⟩
set_option maxHeartbeats 1000000 in
set_option maxRecDepth 100000 in
theorem refUnion_any (v u : Value) (l m : List (Int × Int)) (w : World) (h : Rgs w v l) (h' : Rgs w u m) (hl : l.length + m.length ≤ 4398046511104) (hlo : ∀ g ∈ l ++ m, -9223372036854775808 ≤ g.1) (hi : ∀ g ∈ l ++ m, g.2 ≤ 9223372036854775807) :
    Calls Tryd.prog 28 #[v, u] w fun e w' => ∃ v', e = .returned v' ∧ w'.ownsRow w.heap.size 57 2 v' (leastR (l ++ m)).length (rvs (leastR (l ++ m))) ∧ Below w.heap.size w w' := by
  have HLO := Lib.hid hlo; have HI := Lib.hid hi
  clear hlo hi
  have ha : Rd w v l.length (rvs l) := h
  have hb : Rd w u m.length (rvs m) := h'
  have hla : (rvs l).length = l.length * 2 := rvs_len l
  have hlb : (rvs m).length = m.length * 2 := rvs_len m
  have HLA := Lib.hid hla; have HLB := Lib.hid hlb
  clear hla hlb
  obtain ⟨p, c, rfl, -⟩ := id ha
  obtain ⟨q, d, rfl, -⟩ := id hb
  go_enter Tryd.func28, Tryd.ntmps28
  go_wp2_with (first
    | (at_builtin; refine wpList_app El.range rfl (.tmp 6) (.tmp 7) rfl (World.ownsRow_nil w w.heap.size 57 2) rfl ha rfl HLA.out (rvs_one l) (by omega) (Nat.le_refl _) ?_; intro v1 w1 own1 hgr1 _; have hB1 : Below w.heap.size w w1 := (Below.refl _ _).grown hgr1 (Nat.le_refl _) (fun k hk => by simp [Value.ownBlock] at hk); have hb1 := hb.later hB1; have hz1 := hB1.size)
    | (at_builtin; refine wpList_app El.range rfl (.tmp 9) (.tmp 10) rfl own1 rfl hb1 rfl HLB.out (rvs_one m) (by omega) hz1 ?_; intro v2 w2 own2 hgr2 _))
  have hB2 := hB1.grown hgr2 hz1 (fun k hk => (own1.lt k hk).1)
  have hown : Rgs w2 v2 (l ++ m) := by
    refine Rgs.of_own (base := w.heap.size) ?_
    rw [rvs_app, List.length_append]
    simpa using own2
  have hz2 := hB2.size
  clear hgr1 hgr2 own1 own2
  refine (refLeast_any _ _ _ hown (by simp; omega) HLO.out HI.out).mono ?_
  rintro e w3 ⟨v3, rfl, own3, hB3⟩
  go_wp2_with fail
  go_ret
  exact ⟨_, rfl, own_mono own3 hz2, hB2.trans (hB3.mono hz2)⟩
/-- the list and one number more. -/
def addR (l : List (Int × Int)) (i : Int) : List (Int × Int) := if i = 9223372036854775807 then l else l ++ [(i, i + 1)]
set_option maxHeartbeats 1000000 in
set_option maxRecDepth 100000 in
theorem refAdd_any (v : Value) (l : List (Int × Int)) (i : Int) (w : World) (h : Rgs w v l) (hl : l.length + 1 ≤ 4398046511104) (hlo : ∀ g ∈ l, -9223372036854775808 ≤ g.1) (hi : ∀ g ∈ l, g.2 ≤ 9223372036854775807) (hi0 : -9223372036854775808 ≤ i) (hi1 : i ≤ 9223372036854775807) :
    Calls Tryd.prog 29 #[v, .int .i64 i] w fun e w' => ∃ v', e = .returned v' ∧ w'.ownsRow w.heap.size 57 2 v' (leastR (addR l i)).length (rvs (leastR (addR l i))) ∧ Below w.heap.size w w' := by
  have HLO := Lib.hid hlo; have HI := Lib.hid hi; have HH := Lib.hid h
  obtain ⟨p, c, rfl, -⟩ := id h
  clear hlo hi h
  by_cases he : i = 9223372036854775807
  · have HT : Hid (addR l i = l) := Lib.hid (if_pos he)
    have t1 : (i == 9223372036854775807) = true := by simpa using he
    clear he
    go_enter Tryd.func29, Tryd.ntmps29
    go_wp2_with fail
    refine (refLeast_any _ _ _ HH.out (by omega) HLO.out HI.out).mono ?_
    rintro e w3 ⟨v3, rfl, own3, hB3⟩
    go_wp2_with fail
    go_ret
    rw [HT.out]
    exact ⟨_, rfl, own3, hB3⟩
  · have HT : Hid (addR l i = l ++ [(i, i + 1)]) := Lib.hid (if_neg he)
    have t1 : (i == 9223372036854775807) = false := by simpa using he
    have hlt : i < 9223372036854775807 := by omega
    clear he
    go_enter Tryd.func29, Tryd.ntmps29
    go_wp2_with fail
    have hB1 : Below w.heap.size w (w.alloc (.cells #[.int .i64 i, .int .i64 (i + 1)] 57)) := (Below.refl _ _).alloc (Nat.le_refl _) _
    have hlit : Rgs (w.alloc (.cells #[.int .i64 i, .int .i64 (i + 1)] 57)) (.slice (some ⟨w.heap.size, 0, none⟩) 1 1) [(i, i + 1)] := Rd.new w 57 [.int .i64 i, .int .i64 (i + 1)] 1 (by simp [maxLen])
    refine (refUnion_any _ _ l [(i, i + 1)] _ (HH.out.later hB1) hlit (by simpa using hl) (fun g hg => ?_) (fun g hg => ?_)).mono ?_
    · rcases List.mem_append.1 hg with h | h
      · exact HLO.out g h
      · simp at h; subst h; exact hi0
    · rcases List.mem_append.1 hg with h | h
      · exact HI.out g h
      · simp at h; subst h; simp only; omega
    rintro e w3 ⟨v3, rfl, own3, hB3⟩
    go_wp2_with fail
    go_ret
    rw [HT.out]
    exact ⟨_, rfl, own_mono own3 hB1.size, below_trans hB1 hB3⟩
end Go.Proofs.YtghjffgaebnhiaaDoor
