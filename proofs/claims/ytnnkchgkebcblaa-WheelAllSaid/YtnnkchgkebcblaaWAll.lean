/- WheelAll returns true. -/
import Derived.Test.YtnnkchgkebcblaaWHolds2
import Derived.Test.YtnnkchgkebcblaaPhase
namespace Go.Proofs.Ytnnkchgkebcblaa
set_option linter.unusedVariables false
set_option linter.unusedSimpArgs false
open Go.RowKit
set_option maxHeartbeats 8000000 in
set_option maxRecDepth 100000 in
theorem all_in (a b : Nat) (v : Value) (ops : List Opd) (w : World) (hv : OpsRd w v ops) :
    Calls Try.prog 7 #[.int .u64 (a : Int), .int .u64 (b : Int), v] w fun e w' => e = .returned (.bool true) ∧ Below w.heap.size w w' := by
  obtain ⟨ao, cap, rfl, hl, -⟩ := id hv
  have HV := Lib.hid hv
  clear hv
  obtain ⟨n, hn⟩ : ∃ n, n = ops.length := ⟨_, rfl⟩
  rw [← hn] at hl
  have HN := Lib.hid hn
  rw [← hn]
  clear hn
  go_enter Try.func7, Try.ntmps7
  go_wp2_with fail
  refine (two_any a b w).mono ?_
  rintro e w1 ⟨wb, db, gs, rs, Ss, ss, rfl, hD, hB1, rfl⟩
  have hG := Goes.start hD hB1
  have HG := Lib.hid hG
  clear hD hB1 hG
  obtain ⟨ss, hss⟩ : ∃ ss : Nat → WS, ss = pk ⟨min a 281474976710655, 0, []⟩ ⟨min b 281474976710655, 0, []⟩ := ⟨_, rfl⟩
  rw [← hss] at HG
  clear hss
  obtain ⟨p0, hp0⟩ : ∃ p, p = gs 0 := ⟨_, rfl⟩
  obtain ⟨p1, hp1⟩ : ∃ p, p = gs 1 := ⟨_, rfl⟩
  obtain ⟨q0, hq0⟩ : ∃ p, p = rs 0 := ⟨_, rfl⟩
  obtain ⟨q1, hq1⟩ : ∃ p, p = rs 1 := ⟨_, rfl⟩
  have E0 := Lib.hid hp0; have E1 := Lib.hid hp1; have E2 := Lib.hid hq0; have E3 := Lib.hid hq1
  clear hp0 hp1 hq0 hq1
  have zs : ∀ i w' Ss (ss : Nat → WS), Goes w w' i wb db gs rs Ss ss → w'.cell? ⟨wb, 0, none⟩ = some (.pointer (some ⟨p0, 0, none⟩)) ∧ w'.cell? ⟨wb, 1, none⟩ = some (.pointer (some ⟨p1, 0, none⟩)) ∧ w'.cell? ⟨db, 0, none⟩ = some (.pointer (some ⟨q0, 0, none⟩)) ∧ w'.cell? ⟨db, 1, none⟩ = some (.pointer (some ⟨q1, 0, none⟩)) := fun _ _ _ _ h => by
    have a0 := h.duos.cw (k := 0) (by omega)
    have a1 := h.duos.cw (k := 1) (by omega)
    have d0 := h.duos.cd (k := 0) (by omega)
    have d1 := h.duos.cd (k := 1) (by omega)
    rw [← E0.out] at a0
    rw [← E1.out] at a1
    rw [← E2.out] at d0
    rw [← E3.out] at d1
    exact ⟨a0, a1, d0, d1⟩
  have sh0 : ∀ i w' (Ss : Nat → Nat → Prop) (ss : Nat → WS), Goes w w' i wb db gs rs Ss ss → i ≤ 4398046511104 → Calls Try.prog 15 #[.pointer (some ⟨p0, 0, none⟩), .pointer (some ⟨q0, 0, none⟩)] w' fun e w'' => e = .returned (.bool true) ∧ Goes w w'' i wb db gs rs Ss ss ∧ Below w'.heap.size w' w'' := fun _ _ _ _ h hi => by
    have c := shows_goes (k := 0) h (by omega) hi
    rwa [← E0.out, ← E2.out] at c
  have sh1 : ∀ i w' (Ss : Nat → Nat → Prop) (ss : Nat → WS), Goes w w' i wb db gs rs Ss ss → i ≤ 4398046511104 → Calls Try.prog 15 #[.pointer (some ⟨p1, 0, none⟩), .pointer (some ⟨q1, 0, none⟩)] w' fun e w'' => e = .returned (.bool true) ∧ Goes w w'' i wb db gs rs Ss ss ∧ Below w'.heap.size w' w'' := fun _ _ _ _ h hi => by
    have c := shows_goes (k := 1) h (by omega) hi
    rwa [← E1.out, ← E3.out] at c
  have ZS := Lib.hid zs; have SH0 := Lib.hid sh0; have SH1 := Lib.hid sh1
  clear zs sh0 sh1
  go_wp2_with fail
  go_loopw [10] (fun i wr => ∃ (t : Nat) (Ss : Nat → Nat → Prop) (ss : Nat → WS), t ≤ n ∧ i = .int .i64 (t : Int) ∧ Hid (Goes w wr t wb db gs rs Ss ss)) (fun i _ => n - (intOf i).toNat)
  case atStart => exact ⟨0, Ss, ss, Nat.zero_le _, rfl, HG⟩
  case round =>
    clear HG
    obtain ⟨t, Ss, ss, ht, rfl, HG⟩ := hrel
    by_cases hlt : t < n
    · have ix : (t : Int) < (n : Int) := by omega
      obtain ⟨o, ho⟩ : ∃ o, ops[t]? = some o := ⟨_, List.getElem?_eq_getElem (by rw [← HN.out]; exact hlt)⟩
      obtain ⟨bb, off, rfl, hwf, -, e0, e1, e2, e3⟩ := HV.out.at HG.out.below ho rfl
      obtain ⟨k, hk, hbits⟩ := and1 o.on
      have hBd : Below wr.heap.size wr wr.drew := (Below.refl _ _).drew
      have hG6d := HG.out.later hBd
      have HG6 := Lib.hid hG6d
      have cw := HG.out.duos.cw hk
      have cd := HG.out.duos.cd hk
      obtain ⟨gk, hgk⟩ : ∃ p, p = gs k := ⟨_, rfl⟩
      obtain ⟨rk, hrk⟩ : ∃ p, p = rs k := ⟨_, rfl⟩
      rw [← hgk] at cw
      rw [← hrk] at cd
      have c := plays_any (hG6d.duos.duo k hk) o hwf (by have := hG6d.sets k hk; omega)
      rw [← hgk, ← hrk] at c
      have HC := Lib.hid c
      have HGK := Lib.hid hgk; have HRK := Lib.hid hrk
      have kx : (k : Int) < 2 := by omega
      clear c hgk hrk hG6d hBd ho
      obtain ⟨on, kind, id, at_⟩ := o
      simp only at e0 e1 e2 e3 hbits
      go_wp2_with fail
      clear hbits
      refine region_phases [12] (by kernel_rfl) (by kernel_rfl) ?_
      refine phases_more (fun w' => w' = wr.drew) rfl ?_
      simp only [List.take_succ_cons, List.take_zero, List.drop_zero]
      repeat (first
        | go_big_quiet_skip
        | (go_big_quiet_want
           rename_i K hK
           apply Exists.intro
           refine ⟨fun w' hw' => ?_, hK _ ?_⟩
           subst hw'
           go_simp
           with_reducible rfl
           clear hK K
           simp only [Act.put, List.setIfInBounds_toArray, List.set_cons_zero, List.set_cons_succ]))
      refine wpQuiet_nil ?_
      rintro w7 rfl
      refine phases_op rfl rfl (fun K hK => ?_)
      go_simp
      go_at_call 19
      refine HC.out.mono ?_
      rintro e w7 ⟨rfl, S7, d7, t7⟩
      rw [HGK.out, HRK.out] at d7
      have HG7 := Lib.hid (HG6.out.play hk d7 t7)
      obtain ⟨z1, z2, z3, z4⟩ := ZS.out _ _ _ _ HG7.out
      clear d7 t7 e0 e1 e2 e3 cw cd
      refine hK _ _ (phases_last (fun w' => w'.cell? ⟨wb, 0, none⟩ = some (.pointer (some ⟨p0, 0, none⟩)) ∧ w'.cell? ⟨wb, 1, none⟩ = some (.pointer (some ⟨p1, 0, none⟩)) ∧ w'.cell? ⟨db, 0, none⟩ = some (.pointer (some ⟨q0, 0, none⟩)) ∧ w'.cell? ⟨db, 1, none⟩ = some (.pointer (some ⟨q1, 0, none⟩)) ∧ Hid (Goes w w' (t + 1) wb db gs rs (setAt Ss k S7) (setAt ss k ((ss k).play ⟨on, kind, id, at_⟩)))) ⟨z1, z2, z3, z4, HG7⟩ ?_)
      clear hK K
      simp only [Act.put, List.setIfInBounds_toArray, List.set_cons_zero, List.set_cons_succ, List.drop_succ_cons, List.drop_zero]
      repeat (first
        | go_big_quiet_skip
        | (go_big_quiet_want
           rename_i K hK
           apply Exists.intro
           refine ⟨fun w' hw' => ?_, hK _ ?_⟩
           obtain ⟨r1, r2, r3, r4, r5⟩ := hw'
           go_simp
           first
             | (go_at_call 15
                first
                  | (with_reducible refine (SH0.out _ _ _ _ r5.out (by omega)).mono ?_)
                  | (with_reducible refine (SH1.out _ _ _ _ r5.out (by omega)).mono ?_)
                rintro e w5 ⟨rfl, g5, b5⟩
                exact ⟨rfl, below_cell b5 r1 (World.block_lt_of_cell? _ _ r1), below_cell b5 r2 (World.block_lt_of_cell? _ _ r2), below_cell b5 r3 (World.block_lt_of_cell? _ _ r3), below_cell b5 r4 (World.block_lt_of_cell? _ _ r4), Lib.hid g5⟩)
             | with_reducible rfl
           clear hK K
           simp only [Act.put, List.setIfInBounds_toArray, List.set_cons_zero, List.set_cons_succ]))
      refine wpQuiet_nil ?_
      rintro w9 ⟨-, -, -, -, HG9⟩
      clear z1 z2 z3 z4
      go_wp2_with fail
      go_roundw
      case rel => exact ⟨t + 1, _, _, by omega, by go_num, HG9⟩
      case measure => simp [intOf]; omega
    · obtain rfl : t = n := by omega
      obtain ⟨z1, z2, z3, z4⟩ := ZS.out _ _ _ _ HG.out
      go_wp2_with fail
      refine region_class (C := fun w' => w'.cell? ⟨wb, 0, none⟩ = some (.pointer (some ⟨p0, 0, none⟩)) ∧ w'.cell? ⟨wb, 1, none⟩ = some (.pointer (some ⟨p1, 0, none⟩)) ∧ w'.cell? ⟨db, 0, none⟩ = some (.pointer (some ⟨q0, 0, none⟩)) ∧ w'.cell? ⟨db, 1, none⟩ = some (.pointer (some ⟨q1, 0, none⟩)) ∧ Hid (Goes w w' t wb db gs rs Ss ss)) (by kernel_rfl) (by kernel_rfl) ⟨z1, z2, z3, z4, Lib.hid (HG.out.later (Below.refl _ _).drew)⟩ ?_
      repeat (first
        | go_big_quiet_skip
        | (go_big_quiet_want
           rename_i K hK
           apply Exists.intro
           refine ⟨fun w' hw' => ?_, hK _ ?_⟩
           obtain ⟨r1, r2, r3, r4, r5⟩ := hw'
           go_simp
           first
             | (go_at_call 15
                first
                  | (with_reducible refine (SH0.out _ _ _ _ r5.out (by omega)).mono ?_)
                  | (with_reducible refine (SH1.out _ _ _ _ r5.out (by omega)).mono ?_)
                rintro e w5 ⟨rfl, g5, b5⟩
                exact ⟨rfl, below_cell b5 r1 (World.block_lt_of_cell? _ _ r1), below_cell b5 r2 (World.block_lt_of_cell? _ _ r2), below_cell b5 r3 (World.block_lt_of_cell? _ _ r3), below_cell b5 r4 (World.block_lt_of_cell? _ _ r4), Lib.hid g5⟩)
             | with_reducible rfl
           clear hK K
           simp only [Act.put, List.setIfInBounds_toArray, List.set_cons_zero, List.set_cons_succ]))
      refine wpQuiet_nil ?_
      rintro w9 ⟨-, -, -, -, HG9⟩
      go_wp2_with fail
      go_ret
      exact ⟨rfl, HG9.out.below⟩
theorem allLaw_walk (W : World) (v0 : Int) (x0 : Int) (h0 : cU64.rep W [.int .u64 v0] x0) (v1 : Int) (x1 : Int) (h1 : cU64.rep W [.int .u64 v1] x1) (v2 : Value) (x2) (h2 : cOps.rep W [v2] x2) :
    Calls Try.prog 7 #[.int .u64 v0, .int .u64 v1, v2] W fun e w' => e = .returned (.bool true) ∧ Below W.heap.size W w' := by
  obtain ⟨a, rfl⟩ : ∃ n : Nat, v0 = (n : Int) := by
    obtain ⟨h1, h2⟩ := h0
    simp only [List.cons.injEq, Value.int.injEq, true_and, and_true] at h1
    subst h1
    exact ⟨_, (u64_nat h2).symm⟩
  obtain ⟨b, rfl⟩ : ∃ n : Nat, v1 = (n : Int) := by
    obtain ⟨h1, h2⟩ := h1
    simp only [List.cons.injEq, Value.int.injEq, true_and, and_true] at h1
    subst h1
    exact ⟨_, (u64_nat h2).symm⟩
  exact all_in a b v2 _ W (cOps_rd h2)
end Go.Proofs.Ytnnkchgkebcblaa
