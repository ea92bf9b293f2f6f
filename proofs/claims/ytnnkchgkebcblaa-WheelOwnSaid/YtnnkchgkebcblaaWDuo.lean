/- A wheel beside the reference's wheel: shows, same, some. -/
import Derived.Test.YtnnkchgkebcblaaWOps
import Derived.Test.YtnnkchgkebcblaaClass
namespace Go.Proofs.Ytnnkchgkebcblaa
set_option linter.unusedVariables false
set_option linter.unusedSimpArgs false
open Go.RowKit
structure Duo (w : World) (g r : Nat) (S : Nat → Prop) (now sets : Nat) (T : List Tm) : Prop where
  ex : ∃ Sw Sr, Wh w g Sw now sets T ∧ Rf w r Sr now T ∧ (∀ b, Sw b → ¬ Sr b) ∧ ∀ b, Sw b ∨ Sr b ↔ S b
section
variable {w w' : World} {g r : Nat} {S S' U : Nat → Prop} {now sets : Nat} {T : List Tm}
theorem Duo.same (h : Duo w g r S now sets T) (hs : Same U w w') (hS : ∀ b, S b → ¬ U b) : Duo w' g r S now sets T := by
  obtain ⟨Sw, Sr, h1, h2, h3, h4⟩ := h
  exact ⟨Sw, Sr, h1.same hs fun b hb => hS b ((h4 b).1 (.inl hb)), h2.same hs fun b hb => hS b ((h4 b).1 (.inr hb)), h3, h4⟩
theorem Duo.later (h : Duo w g r S now sets T) (hb : Below w.heap.size w w') : Duo w' g r S now sets T := h.same (Same.of_below hb no) fun _ _ h => h
theorem Duo.lt (h : Duo w g r S now sets T) {b : Nat} (hb : S b) : b < w.heap.size := by
  obtain ⟨Sw, Sr, h1, h2, h3, h4⟩ := h
  rcases (h4 b).2 hb with e | e
  · exact h1.lt e
  · exact h2.lt e
end
set_option maxHeartbeats 1000000 in
set_option maxRecDepth 100000 in
theorem some_any (b : Nat) (ks : List Int) (k : Int) (w : World) (hb : Blk w b 3 (ks.map (Value.int .i64))) (hl : ks.length < 64) :
    Calls Try.prog 36 #[.slice (some ⟨b, 0, none⟩) ks.length ks.length, .int .i64 k] w fun e w' => e = .returned (.bool (decide (k ∈ ks))) ∧ w' = w := by
  have HB := Lib.hid hb
  obtain ⟨n, hn⟩ : ∃ n, n = ks.length := ⟨_, rfl⟩
  rw [← hn] at hl ⊢
  have HN := Lib.hid hn
  clear hb hn
  go_enter Try.func36, Try.ntmps36
  go_wp2
  go_loop [5] (fun i => ∃ j : Nat, j ≤ n ∧ i = .int .i64 (j : Int) ∧ Hid (¬ k ∈ ks.take j)) (fun i => n - (intOf i).toNat)
  case atStart => exact ⟨0, Nat.zero_le _, rfl, Lib.hid (by simp)⟩
  case round =>
    obtain ⟨j, hj, rfl, HJ⟩ := hrel
    by_cases hlt : j < n
    · have ix : (j : Int) < (n : Int) := by omega
      obtain ⟨x, hx⟩ : ∃ x, ks[j]? = some x := ⟨_, List.getElem?_eq_getElem (by rw [← HN.out]; exact hlt)⟩
      have c := HB.out.cell_some (i := j) (v := .int .i64 x) (by rw [List.getElem?_map, hx]; rfl)
      have HX := Lib.hid hx
      clear hx
      by_cases he : x = k
      · subst he
        go_wp2
        go_ret
        refine ⟨?_, rfl⟩
        rw [decide_eq_true (List.mem_of_getElem? HX.out)]
        rfl
      · have hb : (x == k) = false := by simpa using he
        go_wp2
        go_round
        case rel => exact ⟨j + 1, by omega, by go_num, Lib.hid (by
          have := HJ.out
          rw [List.take_add_one, HX.out]
          simp at this ⊢
          exact ⟨this, fun e => he e.symm⟩)⟩
        case measure => simp [intOf]; omega
    · obtain rfl : j = n := by omega
      go_wp2
      go_ret
      refine ⟨?_, rfl⟩
      have := HJ.out
      rw [HN.out, List.take_length] at this
      rw [decide_eq_false this]
      rfl
set_option maxHeartbeats 1000000 in
set_option maxRecDepth 100000 in
theorem sames_any (v u : Value) (l m : List Int) (w : World) (hv : Rd w v l.length (ivs l)) (hu : Rd w u m.length (ivs m)) :
    Calls Try.prog 22 #[v, u] w fun e w' => e = .returned (.bool (decide (l = m))) ∧ Below w.heap.size w w' := by
  obtain ⟨vp, vc, rfl, v1, v2, v3⟩ := hv
  obtain ⟨up, uc, rfl, u1, u2, u3⟩ := hu
  obtain ⟨n, hn⟩ : ∃ n, n = l.length := ⟨_, rfl⟩
  obtain ⟨k, hk⟩ : ∃ k, k = m.length := ⟨_, rfl⟩
  rw [← hn] at v1 ⊢
  rw [← hk] at u1 ⊢
  have HN := Lib.hid hn; have HK := Lib.hid hk; have HV := Lib.hid v3; have HU := Lib.hid u3
  clear v3 u3 hn hk
  simp only [maxLen] at v2 u2
  by_cases hnk : n = k
  · subst hnk
    go_enter Try.func22, Try.ntmps22
    go_wp2
    go_loopw [5] (fun i wr => ∃ j : Nat, j ≤ n ∧ i = .int .i64 (j : Int) ∧ Hid (l.take j = m.take j) ∧ Below w.heap.size w wr) (fun i _ => n - (intOf i).toNat)
    case atStart => exact ⟨0, Nat.zero_le _, rfl, Lib.hid rfl, Below.refl _ _⟩
    case round =>
      obtain ⟨j, hj, rfl, HJ, hB⟩ := hrel
      by_cases hlt : j < n
      · have ix : (j : Int) < (n : Int) := by omega
        obtain ⟨x, hx⟩ : ∃ x, l[j]? = some x := ⟨_, List.getElem?_eq_getElem (by rw [← HN.out]; exact hlt)⟩
        obtain ⟨y, hy⟩ : ∃ y, m[j]? = some y := ⟨_, List.getElem?_eq_getElem (by rw [← HK.out]; exact hlt)⟩
        have hxi : (ivs l)[j]? = some (.int .i64 x) := by unfold ivs; rw [List.getElem?_map, hx]; rfl
        have hyi : (ivs m)[j]? = some (.int .i64 y) := by unfold ivs; rw [List.getElem?_map, hy]; rfl
        obtain ⟨vb, vo, rfl, v4⟩ := HV.out fun e => by rw [e] at hxi; simp at hxi
        obtain ⟨ub', uo, rfl, u4⟩ := HU.out fun e => by rw [e] at hyi; simp at hyi
        have c := v4 _ _ hxi
        have d := u4 _ _ hyi
        have c := below_cell hB c (World.block_lt_of_cell? _ _ c)
        have d := below_cell hB d (World.block_lt_of_cell? _ _ d)
        have HX := Lib.hid hx; have HY := Lib.hid hy
        clear hx hy v4 u4 hxi hyi
        by_cases he : x = y
        · subst he
          go_wp2
          go_quiet (fail)
          go_wp2
          go_roundw
          case rel => exact ⟨j + 1, by omega, by go_num, Lib.hid (by rw [List.take_add_one, List.take_add_one, HJ.out, HX.out, HY.out]), below_drewN hB _⟩
          case measure => simp [intOf]; omega
        · have hb : (x != y) = true := by simpa using he
          go_wp2
          go_quiet (fail)
          go_wp2
          go_ret
          refine ⟨?_, below_drewN hB _⟩
          have : decide (l = m) = false := decide_eq_false fun e => by
            have h1 := HX.out
            rw [e, HY.out] at h1
            injection h1 with h1
            exact he h1.symm
          rw [this]
          rfl
      · obtain rfl : j = n := by omega
        go_wp2
        go_ret
        refine ⟨?_, hB⟩
        have h1 := HJ.out
        have h2 := HK.out
        rw [HN.out, List.take_length, ← HN.out, h2, List.take_length] at h1
        rw [decide_eq_true h1]
        rfl
  · have hb : ((n : Int) != (k : Int)) = true := by simp; omega
    go_enter Try.func22, Try.ntmps22
    go_wp2
    go_ret
    refine ⟨?_, Below.refl _ _⟩
    have : decide (l = m) = false := decide_eq_false fun e => by
      have h1 := HN.out
      have h2 := HK.out
      rw [e] at h1
      omega
    rw [this]
    rfl
set_option maxHeartbeats 2000000 in
set_option maxRecDepth 100000 in
theorem shows_any {w : World} {g r : Nat} {S : Nat → Prop} {now sets : Nat} {T : List Tm} (h : Duo w g r S now sets T) (hs : sets ≤ 4398046511104) :
    Calls Try.prog 15 #[.pointer (some ⟨g, 0, none⟩), .pointer (some ⟨r, 0, none⟩)] w fun e w' => e = .returned (.bool true) ∧ Below w.heap.size w w' := by
  obtain ⟨Sw, Sr, h1, h2, h3, h4⟩ := h
  have HL := h1.len
  have H1 := Lib.hid h1; have H2 := Lib.hid h2
  clear h1 h2 h3 h4
  go_enter Try.func15, Try.ntmps15
  go_wp2_with fail
  refine (wh_next H1.out hs).mono ?_
  rintro e w1 ⟨rfl, hB1⟩
  have H2b := Lib.hid (H2.out.later hB1)
  obtain ⟨q, hq⟩ : ∃ q : Nat, q = (least T).getD 0 := ⟨_, rfl⟩
  obtain ⟨p, hp⟩ : ∃ p, p = (least T).isSome := ⟨_, rfl⟩
  rw [← hq, ← hp]
  have HB1 := Lib.hid hB1
  have HQ := Lib.hid hq; have HP := Lib.hid hp
  clear hB1 hq hp
  go_wp2_with fail
  refine (rf_next H2b.out (by omega)).mono ?_
  rintro e w2 ⟨rfl, hB2⟩
  rw [← HQ.out, ← HP.out]
  have hB := below_trans HB1.out hB2
  have H1c := Lib.hid (H1.out.later hB)
  obtain ⟨v, hrf, -⟩ := H2.out.later hB
  have r0 := hrf.blk.cell_some (i := 0) rfl
  have r1 := hrf.blk.cell_some (i := 1) rfl
  obtain ⟨ao, cap, rfl, -⟩ := own_open hrf.own
  have HB := Lib.hid hB
  clear hB hB2 hrf
  go_wp2_with fail
  refine region_class (C := fun w' => w'.cell? ⟨r, 0, none⟩ = some (.int .u64 (now : Int)) ∧ w'.cell? ⟨r, 1, none⟩ = some (.slice ao T.length cap) ∧ Hid (Wh w' g Sw now sets T) ∧ Hid (Below w.heap.size w w')) (by kernel_rfl) (by kernel_rfl) ⟨r0, r1, Lib.hid (H1c.out.later (Below.refl _ _).drew), Lib.hid (below_drew HB.out)⟩ ?_
  repeat (first
    | go_big_quiet_skip
    | (go_big_quiet_want
       rename_i K hK
       apply Exists.intro
       refine ⟨fun w' hw' => ?_, hK _ ?_⟩
       obtain ⟨r1, r2, r3, r4⟩ := hw'
       go_simp
       first
         | (go_at_call 26
            refine (wh_now r3.out).mono ?_
            rintro e w5 ⟨rfl, rfl⟩
            exact ⟨rfl, r1, r2, r3, r4⟩)
         | (go_at_call 27
            refine (wh_len r3.out).mono ?_
            rintro e w5 ⟨rfl, rfl⟩
            exact ⟨rfl, r1, r2, r3, r4⟩)
         | with_reducible rfl
       clear hK K
       simp only [Act.put, List.setIfInBounds_toArray, List.set_cons_zero, List.set_cons_succ]))
  refine wpQuiet_nil ?_
  rintro w5 ⟨-, -, -, r4⟩
  go_wp2
  go_ret
  exact ⟨rfl, r4.out⟩
end Go.Proofs.Ytnnkchgkebcblaa
