/- The reference's inbox: its lists. Printed by wip/gen_ri.py. -/
import Derived.Test.YtfaemjlemaclbaaGreatMRefGot
import Derived.Test.YtfaemjlemaclbaaGreatMBase
import Derived.Test.YtfaemjlemaclbaaGreatMAppAt
namespace Go.Proofs.YtfaemjlemaclbaaGreat
set_option linter.unusedVariables false
set_option linter.unusedSimpArgs false
open Go.RowKit Go.Maps
theorem El.opn : El Tryz.prog 74 80 (.agg #[.int .u64 0, .int .u64 0, .pointer none]) 3 24 := ⟨Tryz.underlying74, by kernel_rfl, rfl, by decide, by decide⟩
theorem El.sht : El Tryz.prog 75 82 (.agg #[.int .u64 0, .int .u64 0, .int .i64 0]) 3 24 := ⟨Tryz.underlying75, by kernel_rfl, rfl, by decide, by decide⟩
theorem run_eql_sess (a s : Sess) (W : World) : (binOp .eql 68 (.agg #[.int .u64 (a.1.toNat : Int), .int .u64 (a.2.toNat : Int)]) (.agg #[.int .u64 (s.1.toNat : Int), .int .u64 (s.2.toNat : Int)])).run Tryz.prog W = .ok (.bool (decide (a = s))) W := by
  obtain ⟨a1, a2⟩ := a
  obtain ⟨s1, s2⟩ := s
  simp [go_sem, Tryz.underlying68, Tryz.underlying31]
  by_cases h1 : a1 = s1
  · subst h1
    by_cases h2 : a2 = s2
    · subst h2
      simp
    · have : ¬ ((a2.toNat : Int) = (s2.toNat : Int)) := fun e => h2 (UInt64.toNat_inj.1 (by omega))
      simp [h2, this]
  · have : ¬ ((a1.toNat : Int) = (s1.toNat : Int)) := fun e => h1 (UInt64.toNat_inj.1 (by omega))
    simp [h1, this]
/-- the cells of an entry of a list. -/
def e3 (p : Sess × Value) : List Value := [.int .u64 (p.1.1.toNat : Int), .int .u64 (p.1.2.toNat : Int), p.2]
def e3s (L : List (Sess × Value)) : List Value := L.flatMap e3
theorem e3s_len (L : List (Sess × Value)) : (e3s L).length = L.length * 3 := by
  induction L with
  | nil => rfl
  | cons p L ih => rw [e3s, List.flatMap_cons, List.length_append, List.length_cons]; have : (e3s L).length = L.length * 3 := ih; rw [e3s] at this; rw [this]; simp [e3]; omega
theorem e3s_append (L M : List (Sess × Value)) : e3s (L ++ M) = e3s L ++ e3s M := List.flatMap_append
theorem e3s_take (L : List (Sess × Value)) (k : Nat) : (e3s L).take (k * 3) = e3s (L.take k) := by
  induction L generalizing k with
  | nil => simp [e3s]
  | cons p L ih =>
    cases k with
    | zero => simp [e3s]
    | succ k =>
      have : (k + 1) * 3 = 3 + k * 3 := by omega
      rw [this, List.take_succ_cons]
      have e : e3s (p :: L) = e3 p ++ e3s L := rfl
      have e' : e3s (p :: L.take k) = e3 p ++ e3s (L.take k) := rfl
      rw [e, e', ← ih k, show 3 + k * 3 = (e3 p).length + k * 3 from rfl, List.take_length_add_append]
theorem e3s_drop (L : List (Sess × Value)) (k : Nat) : (e3s L).drop (k * 3) = e3s (L.drop k) := by
  induction L generalizing k with
  | nil => simp [e3s]
  | cons p L ih =>
    cases k with
    | zero => simp [e3s]
    | succ k =>
      have : (k + 1) * 3 = 3 + k * 3 := by omega
      rw [this, List.drop_succ_cons]
      have e : e3s (p :: L) = e3 p ++ e3s L := rfl
      rw [e, ← ih k, show 3 + k * 3 = (e3 p).length + k * 3 from rfl, List.drop_length_add_append]
theorem e3s_at (L : List (Sess × Value)) {k : Nat} {p : Sess × Value} (h : L[k]? = some p) (j : Nat) (hj : j < 3) : (e3s L)[k * 3 + j]? = (e3 p)[j]? := by
  have h1 : (e3s L).drop (k * 3) = e3 p ++ e3s (L.drop (k + 1)) := by
    rw [e3s_drop]
    obtain ⟨hk, rfl⟩ := List.getElem?_eq_some_iff.1 h
    rw [← List.getElem_cons_drop hk]
    rfl
  rw [← List.getElem?_drop, h1, List.getElem?_append_left (by simp [e3]; omega)]
theorem e3s_one {L : List (Sess × Value)} (h : ∀ p ∈ L, p.2.oneCell' = true) : ∀ x ∈ e3s L, x.oneCell' = true := fun x hx => by
  obtain ⟨p, hp, hx⟩ := List.mem_flatMap.1 hx
  simp [e3] at hx
  rcases hx with rfl | rfl | rfl
  · rfl
  · rfl
  · exact h p hp

set_option maxHeartbeats 1000000 in
set_option maxRecDepth 100000 in
theorem ro_find (d k n : Nat) (L : List (Sess × Value)) (s : Sess) (ao : Option Addr) (cap : Nat) (w : World) (hc : w.cell? ⟨d, 3, none⟩ = some (.slice ao n cap)) (hn : n = L.length) (hr : Rd w (.slice ao n cap) n (e3s L)) (hl : n < 4611686018427) (hk : k ≤ n)
    (hb : ∀ j p, j < k → L[j]? = some p → p.1 ≠ s) (ha : ∀ p, L[k]? = some p → p.1 = s) :
    Calls Tryz.prog 52 #[.pointer (some ⟨d, 0, none⟩), .agg #[.int .u64 (s.1.toNat : Int), .int .u64 (s.2.toNat : Int)]] w fun e w' => e = .returned (.int .i64 (if k < n then (k : Int) else -1)) ∧ Below w.heap.size w w' := by
  have HN := Lib.hid hn; have HR := Lib.hid hr; have HBF := Lib.hid hb; have HAT := Lib.hid ha
  clear hn hr hb ha
  have hdl := World.block_lt_of_cell? _ _ hc
  obtain ⟨Z, hZ⟩ : ∃ Z : Int, Z = if k < n then (k : Int) else -1 := ⟨_, rfl⟩
  have HZ := Lib.hid hZ
  rw [← hZ]
  clear hZ
  go_enter Tryz.func52, Tryz.ntmps52
  go_wp2
  obtain ⟨W0, hW0⟩ : ∃ W0, W0 = w.alloc (.cells #[.int .u64 (s.1.toNat : Int), .int .u64 (s.2.toNat : Int)] 68) := ⟨_, rfl⟩
  rw [← hW0]
  have hB0 : Below w.heap.size w W0 := hW0 ▸ (Below.refl _ _).alloc (Nat.le_refl _) _
  have hs0 : Blk W0 w.heap.size 68 [.int .u64 (s.1.toNat : Int), .int .u64 (s.2.toNat : Int)] := hW0 ▸ Blk.new w _ _
  have hsl := hs0.lt
  have c0 := below_cell hB0 hc hdl
  have s0 := hs0.cell_some (i := 0) rfl
  have s1 := hs0.cell_some (i := 1) rfl
  have HR0 := Lib.hid (HR.out.later hB0); have HB0 := Lib.hid hB0
  clear hW0 hB0 hs0 hc HR
  go_loopw [5] (fun i wr => ∃ j : Nat, j ≤ k ∧ i = .int .i64 (j : Int) ∧ Below W0.heap.size W0 wr) (fun i _ => n - (intOf i).toNat)
  case atStart => exact ⟨0, Nat.zero_le _, rfl, Below.refl _ _⟩
  case round =>
    obtain ⟨j, hj, rfl, hB⟩ := hrel
    have c := below_cell hB c0 (World.block_lt_of_cell? _ _ c0)
    have t0 := below_cell hB s0 (World.block_lt_of_cell? _ _ s0)
    have t1 := below_cell hB s1 (World.block_lt_of_cell? _ _ s1)
    by_cases hlt : j < n
    · have ix1 : (j : Int) < (n : Int) := by omega
      obtain ⟨p, hp⟩ : ∃ p, L[j]? = some p := ⟨_, List.getElem?_eq_getElem (by rw [← HN.out]; exact hlt)⟩
      have hne : e3s L ≠ [] := fun h => by
        have := e3s_len L
        rw [h, ← HN.out] at this
        simp at this
        omega
      obtain ⟨b, off, cap', hv, h1, h2, h3, h4⟩ := (HR0.out.later hB).form hne
      injection hv with hv1 hv2 hv3
      subst hv1
      subst hv3
      have d0 := h4 (j * 3) _ (by have := e3s_at L hp 0 (by omega); rw [Nat.add_zero] at this; rw [this]; rfl)
      have d1 := h4 (j * 3 + 1) _ (by rw [e3s_at L hp 1 (by omega)]; rfl)
      have qe := run_eql_sess p.1 s
      rw [← Nat.add_assoc] at d1
      obtain ⟨u1, hu1⟩ : ∃ u : Int, u = (p.1.1.toNat : Int) := ⟨_, rfl⟩
      obtain ⟨u2, hu2⟩ : ∃ u : Int, u = (p.1.2.toNat : Int) := ⟨_, rfl⟩
      rw [← hu1] at d0 qe
      rw [← hu2] at d1 qe
      simp only [maxLen] at h2
      have HP := Lib.hid hp
      clear hp h4 hu1 hu2 hne c0 s0 s1 h3
      by_cases he : p.1 = s
      · have hjk : j = k := by
          rcases Nat.lt_or_ge j k with h | h
          · exact absurd he (HBF.out j p h HP.out)
          · omega
        subst hjk
        rw [decide_eq_true he] at qe
        clear he
        go_wp2
        go_quiet (fail)
        go_wp2
        go_ret
        refine ⟨?_, below_trans HB0.out (Below.trans hB (below_drewN (Below.refl _ _) _))⟩
        rw [HZ.out, if_pos hlt]
        rfl
      · have hjk : j < k := by
          rcases Nat.lt_or_ge j k with h | h
          · exact h
          · have : j = k := by omega
            subst this
            exact absurd (HAT.out p HP.out) he
        rw [decide_eq_false he] at qe
        clear he
        go_wp2
        go_quiet (fail)
        go_wp2
        go_roundw
        case rel => exact ⟨j + 1, by omega, by go_num, below_drewN hB _⟩
        case measure => simp [intOf]; omega
    · have e : ¬ k < n := by omega
      obtain rfl : j = n := by omega
      go_wp2
      go_ret
      refine ⟨?_, below_trans HB0.out hB⟩
      rw [HZ.out, if_neg e]
      rfl

set_option maxHeartbeats 1000000 in
set_option maxRecDepth 100000 in
theorem rs_find (d k n : Nat) (L : List (Sess × Value)) (s : Sess) (ao : Option Addr) (cap : Nat) (w : World) (hc : w.cell? ⟨d, 4, none⟩ = some (.slice ao n cap)) (hn : n = L.length) (hr : Rd w (.slice ao n cap) n (e3s L)) (hl : n < 4611686018427) (hk : k ≤ n)
    (hb : ∀ j p, j < k → L[j]? = some p → p.1 ≠ s) (ha : ∀ p, L[k]? = some p → p.1 = s) :
    Calls Tryz.prog 45 #[.pointer (some ⟨d, 0, none⟩), .agg #[.int .u64 (s.1.toNat : Int), .int .u64 (s.2.toNat : Int)]] w fun e w' => e = .returned (.int .i64 (if k < n then (k : Int) else -1)) ∧ Below w.heap.size w w' := by
  have HN := Lib.hid hn; have HR := Lib.hid hr; have HBF := Lib.hid hb; have HAT := Lib.hid ha
  clear hn hr hb ha
  have hdl := World.block_lt_of_cell? _ _ hc
  obtain ⟨Z, hZ⟩ : ∃ Z : Int, Z = if k < n then (k : Int) else -1 := ⟨_, rfl⟩
  have HZ := Lib.hid hZ
  rw [← hZ]
  clear hZ
  go_enter Tryz.func45, Tryz.ntmps45
  go_wp2
  obtain ⟨W0, hW0⟩ : ∃ W0, W0 = w.alloc (.cells #[.int .u64 (s.1.toNat : Int), .int .u64 (s.2.toNat : Int)] 68) := ⟨_, rfl⟩
  rw [← hW0]
  have hB0 : Below w.heap.size w W0 := hW0 ▸ (Below.refl _ _).alloc (Nat.le_refl _) _
  have hs0 : Blk W0 w.heap.size 68 [.int .u64 (s.1.toNat : Int), .int .u64 (s.2.toNat : Int)] := hW0 ▸ Blk.new w _ _
  have hsl := hs0.lt
  have c0 := below_cell hB0 hc hdl
  have s0 := hs0.cell_some (i := 0) rfl
  have s1 := hs0.cell_some (i := 1) rfl
  have HR0 := Lib.hid (HR.out.later hB0); have HB0 := Lib.hid hB0
  clear hW0 hB0 hs0 hc HR
  go_loopw [5] (fun i wr => ∃ j : Nat, j ≤ k ∧ i = .int .i64 (j : Int) ∧ Below W0.heap.size W0 wr) (fun i _ => n - (intOf i).toNat)
  case atStart => exact ⟨0, Nat.zero_le _, rfl, Below.refl _ _⟩
  case round =>
    obtain ⟨j, hj, rfl, hB⟩ := hrel
    have c := below_cell hB c0 (World.block_lt_of_cell? _ _ c0)
    have t0 := below_cell hB s0 (World.block_lt_of_cell? _ _ s0)
    have t1 := below_cell hB s1 (World.block_lt_of_cell? _ _ s1)
    by_cases hlt : j < n
    · have ix1 : (j : Int) < (n : Int) := by omega
      obtain ⟨p, hp⟩ : ∃ p, L[j]? = some p := ⟨_, List.getElem?_eq_getElem (by rw [← HN.out]; exact hlt)⟩
      have hne : e3s L ≠ [] := fun h => by
        have := e3s_len L
        rw [h, ← HN.out] at this
        simp at this
        omega
      obtain ⟨b, off, cap', hv, h1, h2, h3, h4⟩ := (HR0.out.later hB).form hne
      injection hv with hv1 hv2 hv3
      subst hv1
      subst hv3
      have d0 := h4 (j * 3) _ (by have := e3s_at L hp 0 (by omega); rw [Nat.add_zero] at this; rw [this]; rfl)
      have d1 := h4 (j * 3 + 1) _ (by rw [e3s_at L hp 1 (by omega)]; rfl)
      have qe := run_eql_sess p.1 s
      rw [← Nat.add_assoc] at d1
      obtain ⟨u1, hu1⟩ : ∃ u : Int, u = (p.1.1.toNat : Int) := ⟨_, rfl⟩
      obtain ⟨u2, hu2⟩ : ∃ u : Int, u = (p.1.2.toNat : Int) := ⟨_, rfl⟩
      rw [← hu1] at d0 qe
      rw [← hu2] at d1 qe
      simp only [maxLen] at h2
      have HP := Lib.hid hp
      clear hp h4 hu1 hu2 hne c0 s0 s1 h3
      by_cases he : p.1 = s
      · have hjk : j = k := by
          rcases Nat.lt_or_ge j k with h | h
          · exact absurd he (HBF.out j p h HP.out)
          · omega
        subst hjk
        rw [decide_eq_true he] at qe
        clear he
        go_wp2
        go_quiet (fail)
        go_wp2
        go_ret
        refine ⟨?_, below_trans HB0.out (Below.trans hB (below_drewN (Below.refl _ _) _))⟩
        rw [HZ.out, if_pos hlt]
        rfl
      · have hjk : j < k := by
          rcases Nat.lt_or_ge j k with h | h
          · exact h
          · have : j = k := by omega
            subst this
            exact absurd (HAT.out p HP.out) he
        rw [decide_eq_false he] at qe
        clear he
        go_wp2
        go_quiet (fail)
        go_wp2
        go_roundw
        case rel => exact ⟨j + 1, by omega, by go_num, below_drewN hB _⟩
        case measure => simp [intOf]; omega
    · have e : ¬ k < n := by omega
      obtain rfl : j = n := by omega
      go_wp2
      go_ret
      refine ⟨?_, below_trans HB0.out hB⟩
      rw [HZ.out, if_neg e]
      rfl

set_option maxHeartbeats 4000000 in
set_option maxRecDepth 100000 in
theorem ro_cut (d i n : Nat) (a c x : Int) (v y : Value) (cs : List Value) (w : World) (hB : Blk w d 77 [.int .i64 a, .int .i64 c, .int .u64 x, v, y]) (ho : w.ownsRow 0 80 3 v n cs) (h1 : ∀ u ∈ cs, u.oneCell' = true) (hi : i < n) (hl : n < 4611686018427) :
    Calls Tryz.prog 53 #[.pointer (some ⟨d, 0, none⟩), .int .i64 (i : Int)] w fun e w' => e = .returned (.tuple #[]) ∧
      ∃ v', Blk w' d 77 [.int .i64 a, .int .i64 c, .int .u64 x, v', y] ∧ w'.ownsRow w.heap.size 80 3 v' (n - 1) (cs.take (i * 3) ++ cs.drop ((i + 1) * 3)) ∧ Same (at1 d) w w' := by
  obtain ⟨ao, cap, rfl, hnc, hcm, hao⟩ := own_open ho
  obtain ⟨b, rfl⟩ := hao (by omega)
  have hlen := ho.1
  have c1 := hB.cell_some (i := 3) rfl
  have f1 := hB.frozen 3
  have hdl := hB.lt
  have HW := Lib.hid hB; have HO := Lib.hid ho; have HONE := Lib.hid h1
  clear hB ho h1 hao
  simp only [maxLen] at hcm
  have hR1 : Rd w (.slice (some ⟨b, 0, none⟩) i cap) i (cs.take (i * 3)) := Rd.of_own (own_prefix (n := i) HO.out (by omega))
  have hl1 : (cs.take (i * 3)).length = i * 3 := by rw [List.length_take, hlen]; omega
  have hl2 : (cs.drop ((i + 1) * 3)).length = (n - (i + 1)) * 3 := by rw [List.length_drop, hlen]; omega
  have ho1 : ∀ u ∈ cs.take (i * 3), u.oneCell' = true := fun u hu => HONE.out u (List.mem_of_mem_take hu)
  have ho2 : ∀ u ∈ cs.drop ((i + 1) * 3), u.oneCell' = true := fun u hu => HONE.out u (List.mem_of_mem_drop hu)
  have HR1 := Lib.hid hR1; have HL1 := Lib.hid hl1; have HL2 := Lib.hid hl2; have HO1 := Lib.hid ho1; have HO2 := Lib.hid ho2
  clear hR1 hl1 hl2 ho1 ho2
  have prep : ∀ v1 w1, w1.ownsRow w.heap.size 80 3 v1 (0 + i) ([] ++ cs.take (i * 3)) → w.grownBy w1 (Value.slice none 0 0).ownBlock →
      w1.cell? ⟨d, 3, none⟩ = some (.slice (some ⟨b, 0, none⟩) n cap) ∧ w1.frozen? ⟨d, 3, none⟩ = false ∧ d < w1.heap.size ∧ Hid (Below w.heap.size w w1) ∧ ∃ ao1 cap1, v1 = .slice ao1 i cap1 ∧ Hid (w1.ownsRow w.heap.size 80 3 (.slice ao1 i cap1) i (cs.take (i * 3))) := by
    intro v1 w1 ho hg
    have hB1 : Below w.heap.size w w1 := (Same.of_grown hg).belowB fun i hi => ⟨hi, fun e => by cases e⟩
    rw [Nat.zero_add, List.nil_append] at ho
    obtain ⟨ao1, cap1, rfl, _, _, _⟩ := own_open ho
    exact ⟨below_cell hB1 c1 hdl, (hB1.frozen (p := ⟨d, 3, none⟩) hdl).trans f1, Nat.lt_of_lt_of_le hdl hB1.size, Lib.hid hB1, ao1, cap1, rfl, Lib.hid ho⟩
  have fin : ∀ w1 v1 v2 w2, Hid (Below w.heap.size w w1) → Hid (w1.ownsRow w.heap.size 80 3 v1 i (cs.take (i * 3))) → w2.ownsRow w.heap.size 80 3 v2 (i + (n - (i + 1))) (cs.take (i * 3) ++ cs.drop ((i + 1) * 3)) → w1.grownBy w2 v1.ownBlock →
      (w2.cell? ⟨d, 3, none⟩ = some (.slice (some ⟨b, 0, none⟩) n cap) ∧ w2.frozen? ⟨d, 3, none⟩ = false) ∧ Blk (w2.setCell ⟨d, 3, none⟩ v2) d 77 [.int .i64 a, .int .i64 c, .int .u64 x, v2, y] ∧ (w2.setCell ⟨d, 3, none⟩ v2).ownsRow w.heap.size 80 3 v2 (n - 1) (cs.take (i * 3) ++ cs.drop ((i + 1) * 3)) ∧ Same (at1 d) w (w2.setCell ⟨d, 3, none⟩ v2) := by
    intro w1 v1 v2 w2 HB1 HO1 ho hg
    have hB2 : Below w.heap.size w w2 := by
      refine HB1.out.grown hg HB1.out.size (fun q hq => ?_)
      exact (HO1.out.lt q hq).1
    have hBk := HW.out.later hB2
    have e : i + (n - (i + 1)) = n - 1 := by omega
    rw [e] at ho
    refine ⟨⟨below_cell hB2 c1 hdl, (hB2.frozen (p := ⟨d, 3, none⟩) hdl).trans f1⟩, hBk.set 3 v2, ?_, (Same.of_below hB2 (at1 d)).setCell (p := ⟨d, 3, none⟩) (fun _ => rfl) v2⟩
    exact own_same ho ((Same.refl (at1 d) w2).setCell (p := ⟨d, 3, none⟩) (fun _ => rfl) v2) fun q hq e => own_blk_ne ho hBk (by decide) (by rw [hq, show q = d from e])
  have FIN := Lib.hid fin
  have PREP := Lib.hid prep
  have ix0 : (i : Int) < (n : Int) := by omega
  have ix2 : (i : Int) ≤ (cap : Int) := by omega
  have ix3 : (i : Int) + 1 ≤ (n : Int) := by omega
  clear fin prep hlen
  rcases (show (i + 1 < n) ∨ (i + 1 = n ∧ n = cap) ∨ (i + 1 = n ∧ n < cap) by omega) with hc | ⟨hc, hc'⟩ | ⟨hc, hc'⟩
  · have ix4 : (i : Int) + 1 < (cap : Int) := by omega
    have hR2 : ∀ w1, Hid (Below w.heap.size w w1) → Rd w1 (.slice (some ⟨b, (i + 1) * 3, none⟩) (n - (i + 1)) (cap - (i + 1))) (n - (i + 1)) (cs.drop ((i + 1) * 3)) := fun w1 hB => by
      refine Rd.mk (by omega) (by simp only [maxLen]; omega) fun j u hu => ?_
      rw [List.getElem?_drop] at hu
      have := (own_later HO.out hB.out).cells (g := b) rfl _ u hu
      rwa [Addr.add_lit, Nat.zero_add] at this
    have HR2 := Lib.hid hR2
    clear hR2
    go_enter Tryz.func53, Tryz.ntmps53
    go_wp2_with (first
      | (at_builtin; (refine wpList_app El.opn rfl (.const (.slice none 0 0)) (.tmp 10) rfl (World.ownsRow_nil _ w.heap.size _ _) rfl HR1.out rfl HL1.out HO1.out (by omega) (Nat.le_refl _) ?_); intro v1 w1 hown1 hgr1 hN1; obtain ⟨c1, f1, hrl1, HB1, ao1, cap1, rfl, HOW1⟩ := PREP.out v1 w1 hown1 hgr1; clear hown1 hgr1 hN1)
      | (at_builtin; go_loud (refine wpList_app El.opn rfl (.tmp 13) (.tmp 20) rfl HOW1.out rfl (HR2.out _ HB1) rfl HL2.out HO2.out (by omega) HB1.out.size ?_); intro v2 w2 hown2 hgr2 hN2; obtain ⟨⟨c2, f2⟩, p1⟩ := FIN.out _ _ v2 w2 HB1 HOW1 hown2 hgr2; obtain ⟨ao2, cap2, rfl, _, _, _⟩ := own_open hown2; have P1 := Lib.hid p1; clear hown2 hgr2 hN2 p1))
    go_end0
    exact ⟨rfl, _, P1.out⟩
  · obtain rfl : n = i + 1 := hc.symm
    subst hc'
    have hd : cs.drop ((i + 1) * 3) = [] := List.eq_nil_of_length_eq_zero (by rw [HL2.out]; simp)
    have FIN2 := FIN.out
    rw [hd, Nat.sub_self] at FIN2
    have FIN3 := Lib.hid FIN2
    rw [hd]
    clear FIN2 hd hc ix2 ix3 FIN
    go_enter Tryz.func53, Tryz.ntmps53
    go_wp2_with (first
      | (at_builtin; (refine wpList_app El.opn rfl (.const (.slice none 0 0)) (.tmp 10) rfl (World.ownsRow_nil _ w.heap.size _ _) rfl HR1.out rfl HL1.out HO1.out (by omega) (Nat.le_refl _) ?_); intro v1 w1 hown1 hgr1 hN1; obtain ⟨c1, f1, hrl1, HB1, ao1, cap1, rfl, HOW1⟩ := PREP.out v1 w1 hown1 hgr1; clear hown1 hgr1 hN1)
      | (at_builtin; go_loud (refine wpList_app (m := 0) El.opn rfl (.tmp 13) (.tmp 20) rfl HOW1.out rfl (Rd.empty (ao := some ⟨b, 0, none⟩) (cap := 0) (by simp [maxLen])) rfl rfl (by simp) (by omega) HB1.out.size ?_); intro v2 w2 hown2 hgr2 hN2; obtain ⟨⟨c2, f2⟩, p1⟩ := FIN3.out _ _ v2 w2 HB1 HOW1 hown2 hgr2; obtain ⟨ao2, cap2, rfl, _, _, _⟩ := own_open hown2; have P1 := Lib.hid p1; clear hown2 hgr2 hN2 p1))
    go_end0
    exact ⟨rfl, _, P1.out⟩
  · obtain rfl : n = i + 1 := hc.symm
    have hd : cs.drop ((i + 1) * 3) = [] := List.eq_nil_of_length_eq_zero (by rw [HL2.out]; simp)
    have FIN2 := FIN.out
    rw [hd, Nat.sub_self] at FIN2
    have FIN3 := Lib.hid FIN2
    rw [hd]
    have ix4 : (i : Int) + 1 < (cap : Int) := by omega
    clear FIN2 hd hc ix3 FIN
    go_enter Tryz.func53, Tryz.ntmps53
    go_wp2_with (first
      | (at_builtin; (refine wpList_app El.opn rfl (.const (.slice none 0 0)) (.tmp 10) rfl (World.ownsRow_nil _ w.heap.size _ _) rfl HR1.out rfl HL1.out HO1.out (by omega) (Nat.le_refl _) ?_); intro v1 w1 hown1 hgr1 hN1; obtain ⟨c1, f1, hrl1, HB1, ao1, cap1, rfl, HOW1⟩ := PREP.out v1 w1 hown1 hgr1; clear hown1 hgr1 hN1)
      | (at_builtin; go_loud (refine wpList_app (m := 0) El.opn rfl (.tmp 13) (.tmp 20) rfl HOW1.out rfl (Rd.empty (ao := some ⟨b, (i + 1) * 3, none⟩) (cap := cap - (i + 1)) (by simp only [maxLen]; omega)) rfl rfl (by simp) (by omega) HB1.out.size ?_); intro v2 w2 hown2 hgr2 hN2; obtain ⟨⟨c2, f2⟩, p1⟩ := FIN3.out _ _ v2 w2 HB1 HOW1 hown2 hgr2; obtain ⟨ao2, cap2, rfl, _, _, _⟩ := own_open hown2; have P1 := Lib.hid p1; clear hown2 hgr2 hN2 p1))
    go_end0
    exact ⟨rfl, _, P1.out⟩

set_option maxHeartbeats 4000000 in
set_option maxRecDepth 100000 in
theorem rs_cut (d i n : Nat) (a c x : Int) (v y : Value) (cs : List Value) (w : World) (hB : Blk w d 77 [.int .i64 a, .int .i64 c, .int .u64 x, y, v]) (ho : w.ownsRow 0 82 3 v n cs) (h1 : ∀ u ∈ cs, u.oneCell' = true) (hi : i < n) (hl : n < 4611686018427) :
    Calls Tryz.prog 46 #[.pointer (some ⟨d, 0, none⟩), .int .i64 (i : Int)] w fun e w' => e = .returned (.tuple #[]) ∧
      ∃ v', Blk w' d 77 [.int .i64 a, .int .i64 c, .int .u64 x, y, v'] ∧ w'.ownsRow w.heap.size 82 3 v' (n - 1) (cs.take (i * 3) ++ cs.drop ((i + 1) * 3)) ∧ Same (at1 d) w w' := by
  obtain ⟨ao, cap, rfl, hnc, hcm, hao⟩ := own_open ho
  obtain ⟨b, rfl⟩ := hao (by omega)
  have hlen := ho.1
  have c1 := hB.cell_some (i := 4) rfl
  have f1 := hB.frozen 4
  have hdl := hB.lt
  have HW := Lib.hid hB; have HO := Lib.hid ho; have HONE := Lib.hid h1
  clear hB ho h1 hao
  simp only [maxLen] at hcm
  have hR1 : Rd w (.slice (some ⟨b, 0, none⟩) i cap) i (cs.take (i * 3)) := Rd.of_own (own_prefix (n := i) HO.out (by omega))
  have hl1 : (cs.take (i * 3)).length = i * 3 := by rw [List.length_take, hlen]; omega
  have hl2 : (cs.drop ((i + 1) * 3)).length = (n - (i + 1)) * 3 := by rw [List.length_drop, hlen]; omega
  have ho1 : ∀ u ∈ cs.take (i * 3), u.oneCell' = true := fun u hu => HONE.out u (List.mem_of_mem_take hu)
  have ho2 : ∀ u ∈ cs.drop ((i + 1) * 3), u.oneCell' = true := fun u hu => HONE.out u (List.mem_of_mem_drop hu)
  have HR1 := Lib.hid hR1; have HL1 := Lib.hid hl1; have HL2 := Lib.hid hl2; have HO1 := Lib.hid ho1; have HO2 := Lib.hid ho2
  clear hR1 hl1 hl2 ho1 ho2
  have prep : ∀ v1 w1, w1.ownsRow w.heap.size 82 3 v1 (0 + i) ([] ++ cs.take (i * 3)) → w.grownBy w1 (Value.slice none 0 0).ownBlock →
      w1.cell? ⟨d, 4, none⟩ = some (.slice (some ⟨b, 0, none⟩) n cap) ∧ w1.frozen? ⟨d, 4, none⟩ = false ∧ d < w1.heap.size ∧ Hid (Below w.heap.size w w1) ∧ ∃ ao1 cap1, v1 = .slice ao1 i cap1 ∧ Hid (w1.ownsRow w.heap.size 82 3 (.slice ao1 i cap1) i (cs.take (i * 3))) := by
    intro v1 w1 ho hg
    have hB1 : Below w.heap.size w w1 := (Same.of_grown hg).belowB fun i hi => ⟨hi, fun e => by cases e⟩
    rw [Nat.zero_add, List.nil_append] at ho
    obtain ⟨ao1, cap1, rfl, _, _, _⟩ := own_open ho
    exact ⟨below_cell hB1 c1 hdl, (hB1.frozen (p := ⟨d, 4, none⟩) hdl).trans f1, Nat.lt_of_lt_of_le hdl hB1.size, Lib.hid hB1, ao1, cap1, rfl, Lib.hid ho⟩
  have fin : ∀ w1 v1 v2 w2, Hid (Below w.heap.size w w1) → Hid (w1.ownsRow w.heap.size 82 3 v1 i (cs.take (i * 3))) → w2.ownsRow w.heap.size 82 3 v2 (i + (n - (i + 1))) (cs.take (i * 3) ++ cs.drop ((i + 1) * 3)) → w1.grownBy w2 v1.ownBlock →
      (w2.cell? ⟨d, 4, none⟩ = some (.slice (some ⟨b, 0, none⟩) n cap) ∧ w2.frozen? ⟨d, 4, none⟩ = false) ∧ Blk (w2.setCell ⟨d, 4, none⟩ v2) d 77 [.int .i64 a, .int .i64 c, .int .u64 x, y, v2] ∧ (w2.setCell ⟨d, 4, none⟩ v2).ownsRow w.heap.size 82 3 v2 (n - 1) (cs.take (i * 3) ++ cs.drop ((i + 1) * 3)) ∧ Same (at1 d) w (w2.setCell ⟨d, 4, none⟩ v2) := by
    intro w1 v1 v2 w2 HB1 HO1 ho hg
    have hB2 : Below w.heap.size w w2 := by
      refine HB1.out.grown hg HB1.out.size (fun q hq => ?_)
      exact (HO1.out.lt q hq).1
    have hBk := HW.out.later hB2
    have e : i + (n - (i + 1)) = n - 1 := by omega
    rw [e] at ho
    refine ⟨⟨below_cell hB2 c1 hdl, (hB2.frozen (p := ⟨d, 4, none⟩) hdl).trans f1⟩, hBk.set 4 v2, ?_, (Same.of_below hB2 (at1 d)).setCell (p := ⟨d, 4, none⟩) (fun _ => rfl) v2⟩
    exact own_same ho ((Same.refl (at1 d) w2).setCell (p := ⟨d, 4, none⟩) (fun _ => rfl) v2) fun q hq e => own_blk_ne ho hBk (by decide) (by rw [hq, show q = d from e])
  have FIN := Lib.hid fin
  have PREP := Lib.hid prep
  have ix0 : (i : Int) < (n : Int) := by omega
  have ix2 : (i : Int) ≤ (cap : Int) := by omega
  have ix3 : (i : Int) + 1 ≤ (n : Int) := by omega
  clear fin prep hlen
  rcases (show (i + 1 < n) ∨ (i + 1 = n ∧ n = cap) ∨ (i + 1 = n ∧ n < cap) by omega) with hc | ⟨hc, hc'⟩ | ⟨hc, hc'⟩
  · have ix4 : (i : Int) + 1 < (cap : Int) := by omega
    have hR2 : ∀ w1, Hid (Below w.heap.size w w1) → Rd w1 (.slice (some ⟨b, (i + 1) * 3, none⟩) (n - (i + 1)) (cap - (i + 1))) (n - (i + 1)) (cs.drop ((i + 1) * 3)) := fun w1 hB => by
      refine Rd.mk (by omega) (by simp only [maxLen]; omega) fun j u hu => ?_
      rw [List.getElem?_drop] at hu
      have := (own_later HO.out hB.out).cells (g := b) rfl _ u hu
      rwa [Addr.add_lit, Nat.zero_add] at this
    have HR2 := Lib.hid hR2
    clear hR2
    go_enter Tryz.func46, Tryz.ntmps46
    go_wp2_with (first
      | (at_builtin; (refine wpList_app El.sht rfl (.const (.slice none 0 0)) (.tmp 10) rfl (World.ownsRow_nil _ w.heap.size _ _) rfl HR1.out rfl HL1.out HO1.out (by omega) (Nat.le_refl _) ?_); intro v1 w1 hown1 hgr1 hN1; obtain ⟨c1, f1, hrl1, HB1, ao1, cap1, rfl, HOW1⟩ := PREP.out v1 w1 hown1 hgr1; clear hown1 hgr1 hN1)
      | (at_builtin; go_loud (refine wpList_app El.sht rfl (.tmp 13) (.tmp 20) rfl HOW1.out rfl (HR2.out _ HB1) rfl HL2.out HO2.out (by omega) HB1.out.size ?_); intro v2 w2 hown2 hgr2 hN2; obtain ⟨⟨c2, f2⟩, p1⟩ := FIN.out _ _ v2 w2 HB1 HOW1 hown2 hgr2; obtain ⟨ao2, cap2, rfl, _, _, _⟩ := own_open hown2; have P1 := Lib.hid p1; clear hown2 hgr2 hN2 p1))
    go_end0
    exact ⟨rfl, _, P1.out⟩
  · obtain rfl : n = i + 1 := hc.symm
    subst hc'
    have hd : cs.drop ((i + 1) * 3) = [] := List.eq_nil_of_length_eq_zero (by rw [HL2.out]; simp)
    have FIN2 := FIN.out
    rw [hd, Nat.sub_self] at FIN2
    have FIN3 := Lib.hid FIN2
    rw [hd]
    clear FIN2 hd hc ix2 ix3 FIN
    go_enter Tryz.func46, Tryz.ntmps46
    go_wp2_with (first
      | (at_builtin; (refine wpList_app El.sht rfl (.const (.slice none 0 0)) (.tmp 10) rfl (World.ownsRow_nil _ w.heap.size _ _) rfl HR1.out rfl HL1.out HO1.out (by omega) (Nat.le_refl _) ?_); intro v1 w1 hown1 hgr1 hN1; obtain ⟨c1, f1, hrl1, HB1, ao1, cap1, rfl, HOW1⟩ := PREP.out v1 w1 hown1 hgr1; clear hown1 hgr1 hN1)
      | (at_builtin; go_loud (refine wpList_app (m := 0) El.sht rfl (.tmp 13) (.tmp 20) rfl HOW1.out rfl (Rd.empty (ao := some ⟨b, 0, none⟩) (cap := 0) (by simp [maxLen])) rfl rfl (by simp) (by omega) HB1.out.size ?_); intro v2 w2 hown2 hgr2 hN2; obtain ⟨⟨c2, f2⟩, p1⟩ := FIN3.out _ _ v2 w2 HB1 HOW1 hown2 hgr2; obtain ⟨ao2, cap2, rfl, _, _, _⟩ := own_open hown2; have P1 := Lib.hid p1; clear hown2 hgr2 hN2 p1))
    go_end0
    exact ⟨rfl, _, P1.out⟩
  · obtain rfl : n = i + 1 := hc.symm
    have hd : cs.drop ((i + 1) * 3) = [] := List.eq_nil_of_length_eq_zero (by rw [HL2.out]; simp)
    have FIN2 := FIN.out
    rw [hd, Nat.sub_self] at FIN2
    have FIN3 := Lib.hid FIN2
    rw [hd]
    have ix4 : (i : Int) + 1 < (cap : Int) := by omega
    clear FIN2 hd hc ix3 FIN
    go_enter Tryz.func46, Tryz.ntmps46
    go_wp2_with (first
      | (at_builtin; (refine wpList_app El.sht rfl (.const (.slice none 0 0)) (.tmp 10) rfl (World.ownsRow_nil _ w.heap.size _ _) rfl HR1.out rfl HL1.out HO1.out (by omega) (Nat.le_refl _) ?_); intro v1 w1 hown1 hgr1 hN1; obtain ⟨c1, f1, hrl1, HB1, ao1, cap1, rfl, HOW1⟩ := PREP.out v1 w1 hown1 hgr1; clear hown1 hgr1 hN1)
      | (at_builtin; go_loud (refine wpList_app (m := 0) El.sht rfl (.tmp 13) (.tmp 20) rfl HOW1.out rfl (Rd.empty (ao := some ⟨b, (i + 1) * 3, none⟩) (cap := cap - (i + 1)) (by simp only [maxLen]; omega)) rfl rfl (by simp) (by omega) HB1.out.size ?_); intro v2 w2 hown2 hgr2 hN2; obtain ⟨⟨c2, f2⟩, p1⟩ := FIN3.out _ _ v2 w2 HB1 HOW1 hown2 hgr2; obtain ⟨ao2, cap2, rfl, _, _, _⟩ := own_open hown2; have P1 := Lib.hid p1; clear hown2 hgr2 hN2 p1))
    go_end0
    exact ⟨rfl, _, P1.out⟩
end Go.Proofs.YtfaemjlemaclbaaGreat
