/- holds returns true. -/
import Derived.Test.YtnnkchgkebcblaaWHolds
namespace Go.Proofs.Ytnnkchgkebcblaa
set_option linter.unusedVariables false
set_option linter.unusedSimpArgs false
open Go.RowKit
/-- while a script goes on. -/
structure Goes (w w' : World) (i wb db : Nat) (gs rs : Nat → Nat) (Ss : Nat → Nat → Prop) (ss : Nat → WS) : Prop where
  duos : Duos w' w.heap.size wb db gs rs Ss ss
  below : Below w.heap.size w w'
  sets : ∀ k, k < 2 → (ss k).sets ≤ i
theorem Goes.later {w w1 w2 : World} {i wb db : Nat} {gs rs : Nat → Nat} {Ss : Nat → Nat → Prop} {ss : Nat → WS} (h : Goes w w1 i wb db gs rs Ss ss) (hb : Below w1.heap.size w1 w2) : Goes w w2 i wb db gs rs Ss ss :=
  ⟨h.duos.later hb, below_trans h.below hb, h.sets⟩
theorem Goes.play {w w1 w2 : World} {i wb db k : Nat} {gs rs : Nat → Nat} {Ss : Nat → Nat → Prop} {ss : Nat → WS} (h : Goes w w1 i wb db gs rs Ss ss) (hk : k < 2) {S' : Nat → Prop} {o : Opd} (hd : Duo w2 (gs k) (rs k) S' ((ss k).play o).now ((ss k).play o).sets ((ss k).play o).T) (t : Turn (Ss k) S' w1 w2) :
    Goes w w2 (i + 1) wb db gs rs (setAt Ss k S') (setAt ss k ((ss k).play o)) := by
  obtain ⟨h1, h2⟩ := h.duos.turn hk hd t
  refine ⟨h1, h.below.trans h2, fun j hj => ?_⟩
  unfold setAt
  by_cases e : j = k
  · subst e
    rw [if_pos rfl]
    have := h.sets j hj
    have := WS.play_sets (ss j) o
    omega
  · rw [if_neg e]
    have := h.sets j hj
    omega
theorem Goes.start {w w' : World} {wb db a b : Nat} {gs rs : Nat → Nat} {Ss : Nat → Nat → Prop} (h : Duos w' w.heap.size wb db gs rs Ss (pk ⟨a, 0, []⟩ ⟨b, 0, []⟩)) (hb : Below w.heap.size w w') : Goes w w' 0 wb db gs rs Ss (pk ⟨a, 0, []⟩ ⟨b, 0, []⟩) :=
  ⟨h, hb, fun k hk => by rcases (show k = 0 ∨ k = 1 by omega) with rfl | rfl <;> exact Nat.le_refl _⟩
theorem shows_goes {w w1 : World} {i wb db k : Nat} {gs rs : Nat → Nat} {Ss : Nat → Nat → Prop} {ss : Nat → WS} (h : Goes w w1 i wb db gs rs Ss ss) (hk : k < 2) (hi : i ≤ 4398046511104) :
    Calls Try.prog 15 #[.pointer (some ⟨gs k, 0, none⟩), .pointer (some ⟨rs k, 0, none⟩)] w1 fun e w' => e = .returned (.bool true) ∧ Goes w w' i wb db gs rs Ss ss ∧ Below w1.heap.size w1 w' :=
  (shows_any (h.duos.duo k hk) (by have := h.sets k hk; omega)).mono fun e w' ⟨a, b⟩ => ⟨a, h.later b, b⟩
set_option maxHeartbeats 8000000 in
set_option maxRecDepth 100000 in
theorem holds_any (a b : Nat) (v : Value) (ops : List Opd) (kb : Nat) (kd : Int) (w : World) (hv : OpsRd w v ops) (hk : Blk w kb 3 [.int .i64 kd]) :
    Calls Try.prog 17 #[.int .u64 (a : Int), .int .u64 (b : Int), v, .slice (some ⟨kb, 0, none⟩) 1 1] w fun e w' => e = .returned (.bool true) ∧ Below w.heap.size w w' := by
  obtain ⟨ao, cap, rfl, hl, -⟩ := id hv
  have HV := Lib.hid hv; have HKB := Lib.hid hk
  clear hv hk
  obtain ⟨n, hn⟩ : ∃ n, n = ops.length := ⟨_, rfl⟩
  rw [← hn] at hl
  have HN := Lib.hid hn
  rw [← hn]
  clear hn
  go_enter Try.func17, Try.ntmps17
  go_wp2_with fail
  refine (two_any a b w).mono ?_
  rintro e w1 ⟨wb, db, gs, rs, Ss, ss, rfl, hD, hB1, rfl⟩
  have hG := Goes.start hD hB1
  have a0 := hD.cw (k := 0) (by omega)
  have a1 := hD.cw (k := 1) (by omega)
  have d0 := hD.cd (k := 0) (by omega)
  have d1 := hD.cd (k := 1) (by omega)
  have HG := Lib.hid hG
  clear hD hB1 hG
  obtain ⟨ss, hss⟩ : ∃ ss : Nat → WS, ss = pk ⟨min a 281474976710655, 0, []⟩ ⟨min b 281474976710655, 0, []⟩ := ⟨_, rfl⟩
  rw [← hss] at HG
  clear hss
  obtain ⟨p0, hp0⟩ : ∃ p, p = gs 0 := ⟨_, rfl⟩
  obtain ⟨p1, hp1⟩ : ∃ p, p = gs 1 := ⟨_, rfl⟩
  obtain ⟨q0, hq0⟩ : ∃ p, p = rs 0 := ⟨_, rfl⟩
  obtain ⟨q1, hq1⟩ : ∃ p, p = rs 1 := ⟨_, rfl⟩
  rw [← hp0] at a0
  rw [← hp1] at a1
  rw [← hq0] at d0
  rw [← hq1] at d1
  have E0 := Lib.hid hp0; have E1 := Lib.hid hp1; have E2 := Lib.hid hq0; have E3 := Lib.hid hq1
  clear hp0 hp1 hq0 hq1
  go_wp2_with fail
  refine region_class (C := fun w' => w'.cell? ⟨wb, 0, none⟩ = some (.pointer (some ⟨p0, 0, none⟩)) ∧ w'.cell? ⟨wb, 1, none⟩ = some (.pointer (some ⟨p1, 0, none⟩)) ∧ w'.cell? ⟨db, 0, none⟩ = some (.pointer (some ⟨q0, 0, none⟩)) ∧ w'.cell? ⟨db, 1, none⟩ = some (.pointer (some ⟨q1, 0, none⟩)) ∧ Hid (Goes w w' 0 wb db gs rs Ss ss)) (by kernel_rfl) (by kernel_rfl) ⟨a0, a1, d0, d1, Lib.hid (HG.out.later (Below.refl _ _).drew)⟩ ?_
  repeat (first
    | go_big_quiet_skip
    | (go_big_quiet_want
       rename_i K hK
       apply Exists.intro
       refine ⟨fun w' hw' => ?_, hK _ ?_⟩
       obtain ⟨r1, r2, r3, r4, r5⟩ := hw'
       go_simp
       first
         | (go_at_call 15
            first
              | (have c := shows_goes (k := 0) r5.out (by omega) (by omega)
                 rw [← E0.out, ← E2.out] at c
                 (with_reducible refine c.mono ?_))
              | (have c := shows_goes (k := 1) r5.out (by omega) (by omega)
                 rw [← E1.out, ← E3.out] at c
                 (with_reducible refine c.mono ?_))
            rintro e w5 ⟨rfl, g5, b5⟩
            exact ⟨rfl, below_cell b5 r1 (World.block_lt_of_cell? _ _ r1), below_cell b5 r2 (World.block_lt_of_cell? _ _ r2), below_cell b5 r3 (World.block_lt_of_cell? _ _ r3), below_cell b5 r4 (World.block_lt_of_cell? _ _ r4), Lib.hid g5⟩)
         | with_reducible rfl
       clear hK K
       simp only [Act.put, List.setIfInBounds_toArray, List.set_cons_zero, List.set_cons_succ]))
  refine wpQuiet_nil ?_
  rintro w2 ⟨-, -, -, -, HG2⟩
  clear a0 a1 d0 d1 HG E0 E1 E2 E3
  go_wp2_with fail
  go_loopw [12] (fun i wr => ∃ (t : Nat) (Ss : Nat → Nat → Prop) (ss : Nat → WS), t ≤ n ∧ i = .int .i64 (t : Int) ∧ Hid (Goes w wr t wb db gs rs Ss ss)) (fun i _ => n - (intOf i).toNat)
  case atStart => exact ⟨0, Ss, ss, Nat.zero_le _, rfl, HG2⟩
  case round =>
    clear HG2
    obtain ⟨t, Ss, ss, ht, rfl, HG⟩ := hrel
    by_cases hlt : t < n
    · have ix : (t : Int) < (n : Int) := by omega
      obtain ⟨o, ho⟩ : ∃ o, ops[t]? = some o := ⟨_, List.getElem?_eq_getElem (by rw [← HN.out]; exact hlt)⟩
      obtain ⟨bb, off, rfl, hwf, -, e0, e1, e2, e3⟩ := HV.out.at HG.out.below ho rfl
      obtain ⟨k, hk, hbits⟩ := and1 o.on
      obtain ⟨W6, hW6⟩ : ∃ W6, W6 = wr.alloc (.cells #[.int .i64 o.on, .int .i64 o.kind, .int .i64 o.id, .int .u64 (o.at_ : Int)] 41) := ⟨_, rfl⟩
      have hB6 : Below wr.heap.size wr W6 := hW6 ▸ (Below.refl _ _).alloc (Nat.le_refl _) _
      have hO6 : Blk W6 wr.heap.size 41 [.int .i64 o.on, .int .i64 o.kind, .int .i64 o.id, .int .u64 (o.at_ : Int)] := hW6 ▸ Blk.new wr _ _
      obtain ⟨ob, hob⟩ : ∃ ob, ob = wr.heap.size := ⟨_, rfl⟩
      have hG6 := HG.out.later hB6
      have hBd : Below W6.heap.size W6 W6.drew := (Below.refl _ _).drew
      have hG6d := hG6.later hBd
      have HB6 := Lib.hid hB6; have HW6 := Lib.hid hW6; have HG6 := Lib.hid hG6d; have HOB := Lib.hid hob
      have cw := hG6.duos.cw hk
      have cd := hG6.duos.cd hk
      rw [← hob] at hO6
      have g0 := hO6.cell_some (i := 0) rfl
      have g1 := hO6.cell_some (i := 1) rfl
      have g2 := hO6.cell_some (i := 2) rfl
      have g3 := hO6.cell_some (i := 3) rfl
      have HO6 := Lib.hid hO6
      obtain ⟨gk, hgk⟩ : ∃ p, p = gs k := ⟨_, rfl⟩
      obtain ⟨rk, hrk⟩ : ∃ p, p = rs k := ⟨_, rfl⟩
      rw [← hgk] at cw
      rw [← hrk] at cd
      have c := plays_any (hG6d.duos.duo k hk) o hwf (by have := hG6d.sets k hk; omega)
      rw [← hgk, ← hrk] at c
      have HC := Lib.hid c
      have HGK := Lib.hid hgk; have HRK := Lib.hid hrk
      have kx : (k : Int) < 2 := by omega
      clear c hgk hrk hO6 hG6 hG6d hBd hob hW6 hB6 ho
      obtain ⟨on, kind, id, at_⟩ := o
      simp only at e0 e1 e2 e3 hbits g0 g1 g2 g3 HW6
      go_wp2_with fail
      rw [← HW6.out, ← HOB.out]
      clear e0 e1 e2 e3 hbits
      go_region_law (go_simp; go_at_call 19; (refine HC.out.mono ?_); rintro e w7 ⟨rfl, S7, d7, t7⟩; rw [HGK.out, HRK.out] at d7; have HG7 := Lib.hid (HG6.out.play hk d7 t7); have hnob : ¬ Ss k ob := (fun e => by have h1 := (HG.out.duos.duo k hk).lt e; have h2 := HOB.out; omega); have HO7 := Lib.hid ((HO6.out.drew : Blk W6.drew _ _ _).same t7.same hnob); clear d7 t7 hnob)
      all_goals
        have g1 := HO7.out.cell_some (i := 1) rfl
        have cw := HG7.out.duos.cw hk
        have cd := HG7.out.duos.cd hk
        rw [← HGK.out] at cw
        rw [← HRK.out] at cd
        have hob7 := HO7.out.lt
        go_wp2_with fail
        go_simp
        have hsm : ∀ w', Goes w w' (t + 1) wb db gs rs (setAt Ss k S7) (setAt ss k ((ss k).play ⟨on, kind, id, at_⟩)) → Calls Try.prog 36 #[.slice (some ⟨kb, 0, none⟩) 1 1, .int .i64 kind] w' fun e w'' => e = .returned (.bool (decide (kind ∈ [kd]))) ∧ w'' = w' := fun w' hg => some_any kb [kd] kind w' (HKB.out.later hg.below) (show 1 < 64 by decide)
        have hsh : ∀ w', Goes w w' (t + 1) wb db gs rs (setAt Ss k S7) (setAt ss k ((ss k).play ⟨on, kind, id, at_⟩)) → Calls Try.prog 15 #[.pointer (some ⟨gk, 0, none⟩), .pointer (some ⟨rk, 0, none⟩)] w' fun e w'' => e = .returned (.bool true) ∧ Goes w w'' (t + 1) wb db gs rs (setAt Ss k S7) (setAt ss k ((ss k).play ⟨on, kind, id, at_⟩)) ∧ Below w'.heap.size w' w'' := fun w' hg => by
          have c := shows_goes (k := k) hg hk (by omega)
          rwa [← HGK.out, ← HRK.out] at c
        have HSM := Lib.hid hsm; have HSH := Lib.hid hsh
        clear hsm hsh
        by_cases hmem : kind ∈ [kd]
        · have hdm : decide (kind ∈ [kd]) = true := decide_eq_true hmem
          rw [hdm] at HSM
          clear hmem hdm
          refine region_class (C := fun w' => w'.cell? ⟨ob, 1, none⟩ = some (.int .i64 kind) ∧ w'.cell? ⟨wb, k, none⟩ = some (.pointer (some ⟨gk, 0, none⟩)) ∧ w'.cell? ⟨db, k, none⟩ = some (.pointer (some ⟨rk, 0, none⟩)) ∧ Hid (Goes w w' (t + 1) wb db gs rs (setAt Ss k S7) (setAt ss k ((ss k).play ⟨on, kind, id, at_⟩)))) (by kernel_rfl) (by kernel_rfl) ⟨g1, cw, cd, Lib.hid (HG7.out.later (Below.refl _ _).drew)⟩ ?_
          repeat (first
            | go_big_quiet_skip
            | (go_big_quiet_want
               rename_i K hK
               apply Exists.intro
               refine ⟨fun w' hw' => ?_, hK _ ?_⟩
               obtain ⟨r1, r2, r3, r4⟩ := hw'
               go_simp
               first
                 | (go_at_call 36
                    (with_reducible refine (HSM.out _ r4.out).mono ?_)
                    rintro e w5 ⟨rfl, rfl⟩
                    exact ⟨rfl, r1, r2, r3, r4⟩)
                 | (go_at_call 15
                    (with_reducible refine (HSH.out _ r4.out).mono ?_)
                    rintro e w5 ⟨rfl, g5, b5⟩
                    exact ⟨rfl, below_cell b5 r1 (World.block_lt_of_cell? _ _ r1), below_cell b5 r2 (World.block_lt_of_cell? _ _ r2), below_cell b5 r3 (World.block_lt_of_cell? _ _ r3), Lib.hid g5⟩)
                 | with_reducible rfl
               clear hK K
               simp only [Act.put, List.setIfInBounds_toArray, List.set_cons_zero, List.set_cons_succ]))
          refine wpQuiet_nil ?_
          rintro w8 ⟨-, -, -, HG8⟩
          clear g1 cw cd HG7 HO7 HSM HSH
          go_wp2_with fail
          go_roundw
          case rel => exact ⟨t + 1, _, _, by omega, by go_num, HG8⟩
          case measure => simp [intOf]; omega
        · have hdm : decide (kind ∈ [kd]) = false := decide_eq_false hmem
          rw [hdm] at HSM
          clear hmem hdm
          refine region_class (C := fun w' => w'.cell? ⟨ob, 1, none⟩ = some (.int .i64 kind) ∧ w'.cell? ⟨wb, k, none⟩ = some (.pointer (some ⟨gk, 0, none⟩)) ∧ w'.cell? ⟨db, k, none⟩ = some (.pointer (some ⟨rk, 0, none⟩)) ∧ Hid (Goes w w' (t + 1) wb db gs rs (setAt Ss k S7) (setAt ss k ((ss k).play ⟨on, kind, id, at_⟩)))) (by kernel_rfl) (by kernel_rfl) ⟨g1, cw, cd, Lib.hid (HG7.out.later (Below.refl _ _).drew)⟩ ?_
          repeat (first
            | go_big_quiet_skip
            | (go_big_quiet_want
               rename_i K hK
               apply Exists.intro
               refine ⟨fun w' hw' => ?_, hK _ ?_⟩
               obtain ⟨r1, r2, r3, r4⟩ := hw'
               go_simp
               first
                 | (go_at_call 36
                    (with_reducible refine (HSM.out _ r4.out).mono ?_)
                    rintro e w5 ⟨rfl, rfl⟩
                    exact ⟨rfl, r1, r2, r3, r4⟩)
                 | (go_at_call 15
                    (with_reducible refine (HSH.out _ r4.out).mono ?_)
                    rintro e w5 ⟨rfl, g5, b5⟩
                    exact ⟨rfl, below_cell b5 r1 (World.block_lt_of_cell? _ _ r1), below_cell b5 r2 (World.block_lt_of_cell? _ _ r2), below_cell b5 r3 (World.block_lt_of_cell? _ _ r3), Lib.hid g5⟩)
                 | with_reducible rfl
               clear hK K
               simp only [Act.put, List.setIfInBounds_toArray, List.set_cons_zero, List.set_cons_succ]))
          refine wpQuiet_nil ?_
          rintro w8 ⟨-, -, -, HG8⟩
          clear g1 cw cd HG7 HO7 HSM HSH
          go_wp2_with fail
          go_roundw
          case rel => exact ⟨t + 1, _, _, by omega, by go_num, HG8⟩
          case measure => simp [intOf]; omega
    · obtain rfl : t = n := by omega
      go_wp2_with fail
      refine (knows_any _).mono ?_
      rintro e w9 ⟨rfl, hB9⟩
      have HF := Lib.hid (below_trans HG.out.below hB9)
      clear hB9
      go_wp2_with fail
      go_ret
      exact ⟨rfl, HF.out⟩
end Go.Proofs.Ytnnkchgkebcblaa
