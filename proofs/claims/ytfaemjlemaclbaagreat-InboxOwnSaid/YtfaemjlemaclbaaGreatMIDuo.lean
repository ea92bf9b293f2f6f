/- An inbox beside the reference's inbox; shows. -/
import Derived.Test.YtfaemjlemaclbaaGreatMIOps
import Derived.Test.YtfaemjlemaclbaaGreatMRIOps
import Derived.Test.YtfaemjlemaclbaaGreatMISc
namespace Go.Proofs.YtfaemjlemaclbaaGreat
set_option linter.unusedVariables false
set_option linter.unusedSimpArgs false
open Go.RowKit Go.Maps
structure IDuo (w : World) (x d : Nat) (S : Nat → Prop) (n : Nat) (m : IM) : Prop where
  ex : ∃ Si Sr, In w x Si n m ∧ RIn w d Sr m ∧ (∀ b, Si b → ¬ Sr b) ∧ ∀ b, Si b ∨ Sr b ↔ S b
section
variable {w w' : World} {x d n : Nat} {S U : Nat → Prop} {m : IM}
theorem IDuo.same (h : IDuo w x d S n m) (hs : Same U w w') (hS : ∀ b, S b → ¬ U b) : IDuo w' x d S n m := by
  obtain ⟨Si, Sr, h1, h2, h3, h4⟩ := h
  exact ⟨Si, Sr, h1.same hs fun b hb => hS b ((h4 b).1 (.inl hb)), h2.same hs fun b hb => hS b ((h4 b).1 (.inr hb)), h3, h4⟩
theorem IDuo.later (h : IDuo w x d S n m) (hb : Below w.heap.size w w') : IDuo w' x d S n m := h.same (Same.of_below hb no) fun _ _ h => h
theorem IDuo.lt (h : IDuo w x d S n m) {b : Nat} (hb : S b) : b < w.heap.size := by
  obtain ⟨Si, Sr, h1, h2, h3, h4⟩ := h
  rcases (h4 b).2 hb with e | e
  · exact h1.lt e
  · exact h2.lt e
theorem IDuo.inv (h : IDuo w x d S n m) : IInv m := by
  obtain ⟨Si, Sr, h1, h2, h3, h4⟩ := h
  exact h1.inv
theorem IDuo.mono (h : IDuo w x d S n m) {n' : Nat} (hn : n ≤ n') : IDuo w x d S n' m := by
  obtain ⟨Si, Sr, h1, h2, h3, h4⟩ := h
  exact ⟨Si, Sr, h1.mono hn, h2, h3, h4⟩
end
theorem e3s_cell {w : World} {base n : Nat} {E : TypeId} {g c : Nat} {L : List (Sess × Value)} (h : w.ownsRow base E 3 (.slice (some ⟨g, 0, none⟩) n c) n (e3s L)) {k : Nat} {p : Sess × Value} (hp : L[k]? = some p) :
    w.cell? ⟨g, k * 3, none⟩ = some (.int .u64 (p.1.1.toNat : Int)) ∧ w.cell? ⟨g, k * 3 + 1, none⟩ = some (.int .u64 (p.1.2.toNat : Int)) := by
  have q0 := h.cells (g := g) rfl (k * 3) _ (by have := e3s_at _ hp 0 (by omega); rw [Nat.add_zero] at this; rw [this]; rfl)
  have q1 := h.cells (g := g) rfl (k * 3 + 1) _ (by rw [e3s_at _ hp 1 (by omega)]; rfl)
  rw [Addr.add_lit, Nat.zero_add] at q0 q1
  exact ⟨q0, q1⟩
set_option maxHeartbeats 4000000 in
set_option maxRecDepth 100000 in
theorem shows_any {w : World} {x d n : Nat} {S : Nat → Prop} {m : IM} (h : IDuo w x d S n m) :
    Calls Tryz.prog 12 #[.pointer (some ⟨x, 0, none⟩), .pointer (some ⟨d, 0, none⟩)] w fun e w' => e = .returned (.bool true) ∧ Below w.heap.size w w' := by
  obtain ⟨Si, Sr, h1, ⟨vo, vs, L, h2, -⟩, -, -⟩ := h
  have hlo := h1.inv.lo
  have hmo := h1.inv.mo2
  have hlc := h1.inv.lc
  have hmc := h1.inv.ms2
  have H1 := Lib.hid h1; have H2 := Lib.hid h2
  clear h1 h2
  obtain ⟨N, hN⟩ : ∃ N, N = m.O.length := ⟨_, rfl⟩
  obtain ⟨M, hM⟩ : ∃ M, M = m.C.length := ⟨_, rfl⟩
  obtain ⟨E, hE⟩ : ∃ E, E = m.ep.toNat := ⟨_, rfl⟩
  have HN := Lib.hid hN; have HM := Lib.hid hM; have HE := Lib.hid hE
  have hN64 : N ≤ 64 := by omega
  have hM97 : M ≤ 4097 := by omega
  clear hN hM hE hlo hmo hlc hmc
  go_enter Tryz.func12, Tryz.ntmps12
  go_wp2_with fail
  refine (in_open H1.out).mono ?_
  rintro e w1 ⟨v1, rfl, ho1, hB1⟩
  rw [← HN.out] at ho1
  have H1b := Lib.hid (H1.out.later hB1); have HO1 := Lib.hid ho1; have HB1 := Lib.hid hB1
  clear ho1 hB1
  go_wp2_with fail
  refine (in_decided H1b.out).mono ?_
  rintro e w2 ⟨v2, rfl, ho2, hB2⟩
  rw [← HM.out] at ho2
  have hB := below_trans HB1.out hB2
  have h1c := H1.out.later hB
  have h2c := H2.out.later hB
  have ho1c := own_later HO1.out hB2
  have c2 := h2c.blk.cell_some (i := 2) rfl
  have c3 := h2c.blk.cell_some (i := 3) rfl
  have c4 := h2c.blk.cell_some (i := 4) rfl
  have hro := h2c.ro
  have hrs := h2c.rs
  have hL : L.length = N := by rw [HN.out, ← H2.out.eo, List.length_map]
  rw [hL] at hro
  rw [← HM.out] at hrs
  rw [← HE.out] at c2
  obtain ⟨ao, cap, hvo, hk1, hk2, hao⟩ := own_open hro
  obtain ⟨asx, caps, hvs, hk3, hk4, has⟩ := own_open hrs
  obtain ⟨a1, cap1, hv1, hk5, hk6, ha1⟩ := own_open ho1c
  obtain ⟨a2, cap2, hv2, hk7, hk8, ha2⟩ := own_open ho2
  rw [hvo] at c3 hro
  rw [hvs] at c4 hrs
  rw [hv1] at ho1c
  rw [hv2] at ho2
  subst hv1
  subst hv2
  simp only [maxLen] at hk2 hk4 hk6 hk8
  have HI := Lib.hid h1c; have HRO := Lib.hid hro; have HRS := Lib.hid hrs; have HO1c := Lib.hid ho1c; have HO2 := Lib.hid ho2; have HBw := Lib.hid hB
  have HAO := Lib.hid hao; have HAS := Lib.hid has; have HA1 := Lib.hid ha1; have HA2 := Lib.hid ha2; have HLL := Lib.hid hL
  clear hB hB2 h1c h2c ho1c ho2 hro hrs hvo hvs hao has ha1 ha2 hL
  go_wp2_with fail
  have hepc : ∀ W, In W x Si n m → Calls Tryz.prog 27 #[.pointer (some ⟨x, 0, none⟩)] W fun e w' => e = .returned (.int .u64 (E : Int)) ∧ w' = W := fun W h => by
    have := in_epoch h
    rwa [← HE.out] at this
  have HEPC := Lib.hid hepc
  clear hepc
  refine region_class (C := fun w' => w'.cell? ⟨d, 2, none⟩ = some (.int .u64 (E : Int)) ∧ w'.cell? ⟨d, 3, none⟩ = some (.slice ao N cap) ∧ w'.cell? ⟨d, 4, none⟩ = some (.slice asx M caps) ∧ Hid (In w' x Si n m) ∧ Hid (Below w2.heap.size w2 w')) (by kernel_rfl) (by kernel_rfl) ⟨c2, c3, c4, Lib.hid (HI.out.later (Below.refl _ _).drew), Lib.hid (Below.refl _ _).drew⟩ ?_
  repeat (first
    | go_big_quiet_skip
    | (go_big_quiet_want
       rename_i K hK
       apply Exists.intro
       refine ⟨fun w' hw' => ?_, hK _ ?_⟩
       obtain ⟨c2, c3, c4, r3, r4⟩ := hw'
       go_simp
       first
         | (go_at_call 27
            refine (HEPC.out _ r3.out).mono ?_
            rintro e w5 ⟨rfl, rfl⟩
            exact ⟨rfl, c2, c3, c4, r3, r4⟩)
         | with_reducible rfl
       clear hK K
       simp only [Act.put, List.setIfInBounds_toArray, List.set_cons_zero, List.set_cons_succ]))
  refine wpQuiet_nil ?_
  rintro w5 ⟨c2, c3, c4, -, r4⟩
  have HRO5 := Lib.hid (own_later HRO.out r4.out); have HRS5 := Lib.hid (own_later HRS.out r4.out); have HO5 := Lib.hid (own_later HO1c.out r4.out); have HP5 := Lib.hid (own_later HO2.out r4.out); have HB5 := Lib.hid (below_trans HBw.out r4.out)
  clear r4
  go_wp2_with fail
  go_loopw [7] (fun i wr => ∃ j : Nat, j ≤ N ∧ i = .int .i64 (j : Int) ∧ ∃ q, wr = w5.drewN q) (fun i _ => N - (intOf i).toNat)
  case atStart => exact ⟨0, Nat.zero_le _, rfl, 0, rfl⟩
  case round =>
    obtain ⟨j, hj, rfl, q, rfl⟩ := hrel
    by_cases hlt : j < N
    · obtain ⟨b, rfl⟩ := HAO.out (by omega)
      obtain ⟨g, rfl⟩ := HA1.out (by omega)
      obtain ⟨o, ho⟩ : ∃ o, L[j]? = some o := ⟨_, List.getElem?_eq_getElem (by rw [HLL.out]; exact hlt)⟩
      have hm : (m.O.map (·.1))[j]? = some o.s := by rw [← H2.out.eo, List.map_map, List.getElem?_map, ho]; rfl
      obtain ⟨d0, d1⟩ := e3s_cell HRO5.out (k := j) (p := o.e) (by rw [List.getElem?_map, ho]; rfl)
      obtain ⟨g0, g1⟩ := sc_cell HO5.out hm
      obtain ⟨z1, hz1⟩ : ∃ z, z = o.s.1.toNat := ⟨_, rfl⟩
      obtain ⟨z2, hz2⟩ : ∃ z, z = o.s.2.toNat := ⟨_, rfl⟩
      change w5.cell? _ = some (.int .u64 (o.s.1.toNat : Int)) at d0
      change w5.cell? _ = some (.int .u64 (o.s.2.toNat : Int)) at d1
      rw [← hz1] at d0 g0
      rw [← hz2] at d1 g1
      clear hz1 hz2 hm ho
      have ix : (j : Int) < (N : Int) := by omega
      go_wp2_with fail
      go_quiet (fail)
      go_wp2_with fail
      go_roundw
      case rel => exact ⟨j + 1, by omega, by go_num, _, rfl⟩
      case measure => simp [intOf]; omega
    · obtain rfl : j = N := by omega
      go_wp2_with fail
      go_loopw [8] (fun i wr => ∃ j : Nat, j ≤ M ∧ i = .int .i64 (j : Int) ∧ ∃ q, wr = w5.drewN q) (fun i _ => M - (intOf i).toNat)
      case atStart => exact ⟨0, Nat.zero_le _, rfl, _, rfl⟩
      case round =>
        obtain ⟨i, hi, rfl, q, rfl⟩ := hrel
        by_cases hlt2 : i < M
        · obtain ⟨b, rfl⟩ := HAS.out (by omega)
          obtain ⟨g, rfl⟩ := HA2.out (by omega)
          obtain ⟨p, hp⟩ : ∃ p, m.C[i]? = some p := ⟨_, List.getElem?_eq_getElem (by rw [← HM.out]; exact hlt2)⟩
          have hm : (m.C.map (·.1))[i]? = some p.1 := by rw [List.getElem?_map, hp]; rfl
          obtain ⟨d0, d1⟩ := e3s_cell HRS5.out (k := i) (p := ce p) (by rw [List.getElem?_map, hp]; rfl)
          obtain ⟨g0, g1⟩ := sc_cell HP5.out hm
          obtain ⟨z1, hz1⟩ : ∃ z, z = p.1.1.toNat := ⟨_, rfl⟩
          obtain ⟨z2, hz2⟩ : ∃ z, z = p.1.2.toNat := ⟨_, rfl⟩
          change w5.cell? _ = some (.int .u64 (p.1.1.toNat : Int)) at d0
          change w5.cell? _ = some (.int .u64 (p.1.2.toNat : Int)) at d1
          rw [← hz1] at d0 g0
          rw [← hz2] at d1 g1
          clear hz1 hz2 hm hp
          have ix : (i : Int) < (M : Int) := by omega
          go_wp2_with fail
          go_quiet (fail)
          go_wp2_with fail
          go_roundw
          case rel => exact ⟨i + 1, by omega, by go_num, _, rfl⟩
          case measure => simp [intOf]; omega
        · obtain rfl : i = M := by omega
          go_wp2_with fail
          go_ret
          exact ⟨rfl, below_drewN HB5.out _⟩
end Go.Proofs.YtfaemjlemaclbaaGreat
