/- WheelSteps returns true. -/
import Derived.Test.YtnnkchgkebcblaaWMade
namespace Go.Proofs.Ytnnkchgkebcblaa
set_option linter.unusedVariables false
set_option linter.unusedSimpArgs false
open Go.RowKit
abbrev cU64s : Codec Try.prog 47 (List Int) := Codec.slice Try.underlying47 (by kernel_rfl) cU64 (by decide)
theorem bytesU64 : Try.prog.bytesOf 22 = 8 := by kernel_rfl
def natV (l : List Nat) : List Value := l.map fun n : Nat => Value.int .u64 ((n : Nat) : Int)
set_option maxRecDepth 100000 in
theorem cU64s_rd {w : World} {v : Value} {l : List Int} (h : cU64s.rep w [v] l) : ∃ ns : List Nat, Rd w v ns.length (natV ns) ∧ ns.length ≤ 17592186044000 := by
  obtain ⟨v', h1, h2, h3, h4⟩ := ints_of_slice h
  rw [bytesU64] at h3
  simp only [List.cons.injEq, and_true] at h1
  subst h1
  refine ⟨l.map Int.toNat, ?_, by rw [List.length_map]; simp only [reachBytes] at h3; omega⟩
  have : natV (l.map Int.toNat) = l.map (Value.int .u64) := by
    unfold natV
    rw [List.map_map]
    exact List.map_congr_left fun x hx => by simp only [Function.comp]; rw [u64_nat (h4 x hx)]
  rw [List.length_map, this]
  exact h2
theorem advTime_comp (x L a : Nat) : advTime x (advTime L a) = advTime (max L x) a := by unfold advTime; omega
theorem advTime_le (x now : Nat) : now ≤ advTime x now := Nat.le_max_left _ _
theorem rings_snoc (T : List Tm) (n : Nat) : rings T (n + 1) = rings T n ++ (due T (n + 1)).map Tm.id := by
  unfold rings
  rw [List.range_succ, List.flatMap_append]
  simp
theorem rings_stay_len (T : List Tm) : ∀ n, (rings T n).length + (stay T n).length = T.length
  | 0 => by
    have : rings T 0 = (due T 0).map Tm.id := by simp [rings]
    rw [this, List.length_map]
    have := (List.filter_append_perm (fun t : Tm => !t.nev && t.at_ == 0) T).length_eq
    rw [List.length_append] at this
    rw [← this]
    unfold due stay
    congr 2
    refine List.filter_congr fun t _ => ?_
    rw [Bool.eq_iff_iff]
    cases t.nev <;> simp <;> omega
  | n + 1 => by
    rw [rings_snoc, List.length_append, List.length_map, ← rings_stay_len T n]
    have e : stay T (n + 1) = (stay T n).filter fun t => !(!t.nev && t.at_ == n + 1) := by
      unfold stay
      rw [List.filter_filter]
      refine List.filter_congr fun t _ => ?_
      rw [Bool.eq_iff_iff]
      cases t.nev <;> simp <;> omega
    have e2 : due T (n + 1) = (stay T n).filter fun t => !t.nev && t.at_ == n + 1 := by
      unfold stay due
      rw [List.filter_filter]
      refine List.filter_congr fun t _ => ?_
      rw [Bool.eq_iff_iff]
      cases t.nev <;> simp <;> omega
    have := (List.filter_append_perm (fun t : Tm => !t.nev && t.at_ == n + 1) (stay T n)).length_eq
    rw [List.length_append] at this
    rw [e, e2]
    omega
structure StepInv (w wr : World) (g h a sets L : Nat) (T : List Tm) (S S' : Nat → Prop) (vo : Value) : Prop where
  one : Wh wr g S (advTime L a) sets (stay T (advTime L a))
  two : Wh wr h S' a sets T
  dis : ∀ b, S b → ¬ S' b
  own : wr.ownsRow w.heap.size 3 1 vo (rings T (advTime L a)).length (ivs (rings T (advTime L a)))
  far : ∀ b, vo.ownBlock = some b → ¬ S b ∧ ¬ S' b
  lo : ∀ b, S b ∨ S' b → w.heap.size ≤ b
  below : Below w.heap.size w wr
theorem StepInv.adv {w wr w' : World} {g h a sets L x : Nat} {T : List Tm} {S S' S7 : Nat → Prop} {vo v : Value} (hI : StepInv w wr g h a sets L T S S' vo) (h7 : Wh w' g S7 (advTime x (advTime L a)) sets (stay (stay T (advTime L a)) (advTime x (advTime L a)))) (t7 : Turn S S7 wr w')
    (ho : w'.ownsRow wr.heap.size 3 1 v (rings (stay T (advTime L a)) (advTime x (advTime L a))).length (ivs (rings (stay T (advTime L a)) (advTime x (advTime L a))))) :
    w'.ownsRow w.heap.size 3 1 vo (rings T (advTime L a)).length (ivs (rings T (advTime L a))) ∧
    ∀ v8 w8, w8.ownsRow w.heap.size 3 1 v8 ((rings T (advTime L a)).length + (rings (stay T (advTime L a)) (advTime x (advTime L a))).length) (ivs (rings T (advTime L a)) ++ ivs (rings (stay T (advTime L a)) (advTime x (advTime L a)))) → w'.grownBy w8 vo.ownBlock → Newer w' vo v8 →
      StepInv w w8 g h a sets (max L x) T S7 S' v8 := by
  have hown' := own_same hI.own t7.same fun b hb e => (hI.far b hb).1 e
  refine ⟨hown', fun v8 w8 h8 hg hN => ?_⟩
  have hs8 := Same.of_grown hg
  have hle := advTime_le x (advTime L a)
  rw [stay_stay hle] at h7
  have hz := t7.same.size
  have f7 : ∀ b, vo.ownBlock = some b → ¬ S7 b := fun b hb e => by
    rcases t7.foot b e with e' | e'
    · exact (hI.far b hb).1 e'
    · have := (hI.own.lt b hb).2; omega
  have d7 : ∀ b, S7 b → ¬ S' b := fun b hb e => by
    rcases t7.foot b hb with e' | e'
    · exact hI.dis b e' e
    · have := hI.two.lt e; omega
  have htwo := hI.two.same t7.same fun b hb e => hI.dis b e hb
  have hr := rings_split T hle
  rw [advTime_comp] at h7 hr h8
  have lo7 : ∀ b, S7 b ∨ S' b → w.heap.size ≤ b := fun b hb => by
    rcases hb with hb | hb
    · rcases t7.foot b hb with e | e
      · exact hI.lo b (.inl e)
      · exact Nat.le_trans hI.below.size e
    · exact hI.lo b (.inr hb)
  refine ⟨h7.same hs8 fun b hb e => f7 b e.symm hb, htwo.same hs8 fun b hb e => (hI.far b e.symm).2 hb, d7, ?_, fun b hb => ?_, lo7, ?_⟩
  · rw [hr, List.length_append]
    unfold ivs at h8 ⊢
    rw [List.map_append]
    exact h8
  · rcases hN with e | ⟨k, e, hk⟩
    · rw [e] at hb
      exact ⟨f7 b hb, (hI.far b hb).2⟩
    · rw [e] at hb
      injection hb with hb
      subst hb
      exact ⟨fun e => by have := h7.lt e; omega, fun e => by have := htwo.lt e; omega⟩
  · have b7 : Below w.heap.size w w' := hI.below.trans (t7.same.belowB fun i hi => ⟨Nat.lt_of_lt_of_le hi hI.below.size, fun e => by have := hI.lo i (.inl e); omega⟩)
    exact b7.grown hg b7.size fun k hk => (hown'.lt k hk).1
def lastOf (ns : List Nat) : Nat := ns.foldl max 0
theorem lastOf_snoc (ns : List Nat) (x : Nat) : lastOf (ns ++ [x]) = max (lastOf ns) x := by simp [lastOf]
set_option maxHeartbeats 4000000 in
set_option maxRecDepth 100000 in
theorem steps_in (a : Nat) (v : Value) (ops : List Opd) (u : Value) (ns : List Nat) (w : World) (hv : OpsRd w v ops) (hu : Rd w u ns.length (natV ns)) (hul : ns.length ≤ 17592186044000) :
    Calls Try.prog 9 #[.int .u64 (a : Int), v, u] w fun e w' => e = .returned (.bool true) ∧ Below w.heap.size w w' := by
  have hlen : ops.length ≤ 4398046511000 := by obtain ⟨_, _, _, h, _⟩ := hv; exact h
  have HV := Lib.hid hv; have HU := Lib.hid hu
  obtain ⟨uo, uc, rfl, -⟩ := id hu
  clear hv hu
  obtain ⟨n, hn⟩ : ∃ n, n = ns.length := ⟨_, rfl⟩
  rw [← hn] at hul
  have HN := Lib.hid hn
  rw [← hn]
  clear hn
  go_enter Try.func9, Try.ntmps9
  go_wp2_with fail
  refine (made_any a v ops w HV.out).mono ?_
  rintro e w1 ⟨g, S, rfl, h1, hS, hB1⟩
  have H1 := Lib.hid h1; have HS := Lib.hid hS; have HB1 := Lib.hid hB1
  clear h1 hS hB1
  go_wp2_with fail
  refine (made_any a v ops w1 (HV.out.later HB1.out)).mono ?_
  rintro e w2 ⟨h, S', rfl, h2, hS', hB2⟩
  have h1 := H1.out.later hB2
  have hsets := WS.mks_sets ⟨min a 281474976710655, 0, []⟩ ops
  obtain ⟨s, hs⟩ : ∃ s, s = WS.mks ⟨min a 281474976710655, 0, []⟩ ops := ⟨_, rfl⟩
  obtain ⟨a', ha⟩ : ∃ a', a' = min a 281474976710655 := ⟨_, rfl⟩
  rw [← hs] at h1 h2 hsets
  rw [← ha] at h1 h2
  obtain ⟨sn, sets, T⟩ := s
  simp only at h1 h2 hsets
  have hdis : ∀ b, S b → ¬ S' b := fun b hb e => by have := H1.out.lt hb; have := hS' b e; omega
  have htop := h1.top
  have e0 : advTime 0 a' = a' := by unfold advTime; omega
  have hI : StepInv w w2 g h a' sets (lastOf (ns.take 0)) T S S' (.slice none 0 0) := by
    show StepInv w w2 g h a' sets 0 T S S' (.slice none 0 0)
    refine ⟨by rw [e0, h1.stay_all]; exact h1, h2, hdis, by rw [e0, h1.rings_nil]; exact World.ownsRow_nil _ _ _ _, fun b hb => (by cases hb), fun b hb => ?_, below_trans HB1.out hB2⟩
    rcases hb with hb | hb
    · exact HS.out b hb
    · have := hS' b hb; have := HB1.out.size; omega
  have hTl := h1.len
  have HI := Lib.hid hI
  clear h1 h2 hS' hB2 hI hdis hs ha H1 HS HB1 e0
  go_wp2_with fail
  refine (knows_any w2).mono ?_
  rintro e w3 ⟨rfl, hB3⟩
  have hI3 : StepInv w w3 g h a' sets (lastOf (ns.take 0)) T S S' (.slice none 0 0) := by
    have q := HI.out
    exact ⟨q.one.later hB3, q.two.later hB3, q.dis, own_later q.own hB3, q.far, q.lo, below_trans q.below hB3⟩
  have HI3 := Lib.hid hI3
  clear hI3 hB3
  go_wp2_with fail
  go_loopw [9, 10, 11] (fun vo lo i wr => ∃ (t : Nat) (S : Nat → Prop), t ≤ n ∧ i = .int .i64 (t : Int) ∧ lo = .int .u64 ((lastOf (ns.take t) : Nat) : Int) ∧ Hid (StepInv w wr g h a' sets (lastOf (ns.take t)) T S S' vo)) (fun _ _ i _ => n - (intOf i).toNat)
  case atStart => exact ⟨0, S, Nat.zero_le _, rfl, rfl, HI3⟩
  case round =>
    clear HI HI3
    obtain ⟨t, S, ht, rfl, rfl, HI⟩ := hrel
    by_cases hlt : t < n
    · have ix : (t : Int) < (n : Int) := by omega
      obtain ⟨x, hx⟩ : ∃ x, ns[t]? = some x := ⟨_, List.getElem?_eq_getElem (by rw [← HN.out]; exact hlt)⟩
      have hxv : (natV ns)[t]? = some (.int .u64 (x : Int)) := by unfold natV; rw [List.getElem?_map, hx]; rfl
      obtain ⟨b, off, cap, heq, -, -, -, hcell⟩ := HU.out.form fun e => by rw [e] at hxv; simp at hxv
      injection heq with q1 q2 q3
      subst q1
      have hbw := World.block_lt_of_cell? _ _ (hcell t _ hxv)
      have C0 := Lib.hid (hcell t _ hxv)
      have c := below_cell HI.out.below C0.out hbw
      have hst : lastOf (ns.take (t + 1)) = max (lastOf (ns.take t)) x := by rw [List.take_add_one, hx]; exact lastOf_snoc _ _
      obtain ⟨L, hL⟩ : ∃ L, L = lastOf (ns.take t) := ⟨_, rfl⟩
      rw [← hL] at HI hst ⊢
      obtain ⟨vp, vc, rfl, -⟩ := own_open HI.out.own
      have HST := Lib.hid hst; have HX := Lib.hid hx
      have hlr := rings_stay_len T (advTime L a')
      have hlr2 := rings_stay_len (stay T (advTime L a')) (advTime x (advTime L a'))
      obtain ⟨p, hp⟩ : ∃ p, p = (rings T (advTime L a')).length := ⟨_, rfl⟩
      rw [← hp] at hlr ⊢
      have HP := Lib.hid hp
      clear hst hx hxv hcell q2 q3 hL hp
      go_wp2_with fail
      refine (wh_adv HI.out.one x (by omega)).mono ?_
      rintro e w7 ⟨v7, S7, rfl, ho7, _, h7, t7, _⟩
      obtain ⟨own7, next7⟩ := HI.out.adv h7 t7 ho7
      have hR7 := Rd.of_own ho7
      obtain ⟨m, hm⟩ : ∃ m, m = (rings (stay T (advTime L a')) (advTime x (advTime L a'))).length := ⟨_, rfl⟩
      obtain ⟨v7p, v7c, rfl, -⟩ := own_open ho7
      rw [← HP.out] at own7 next7
      rw [← hm] at hlr2 hR7 next7 ⊢
      have hb8 : (p + m) * 8 ≤ 140737488355328 := by omega
      have hz8 : w.heap.size ≤ w7.heap.size := Nat.le_trans HI.out.below.size t7.same.size
      have hivl : (ivs (rings (stay T (advTime L a')) (advTime x (advTime L a')))).length = m * 1 := by unfold ivs; rw [List.length_map, hm, Nat.mul_one]
      have hone : ∀ y ∈ ivs (rings (stay T (advTime L a')) (advTime x (advTime L a'))), y.oneCell' = true := fun y hy => by
        unfold ivs at hy
        obtain ⟨z, _, rfl⟩ := List.mem_map.1 hy
        rfl
      have N7 := Lib.hid next7; have O7 := Lib.hid own7; have R7 := Lib.hid hR7; have IL := Lib.hid hivl; have ON := Lib.hid hone
      clear next7 own7 hR7 hivl hone ho7 h7 t7 hm c
      go_wp2_with (at_builtin; go_loud (refine wpList_app El.ints rfl (.tmp 38) (.tmp 44) rfl O7.out rfl R7.out rfl IL.out ON.out hb8 hz8 ?_); intro v8 w8 hown8 hgr8 hN8; have HI8 := Lib.hid (N7.out v8 w8 hown8 hgr8 hN8); have c8 := below_cell HI8.out.below C0.out hbw; clear hown8 hgr8 hN8)
      all_goals
        go_roundw
        case rel => exact ⟨t + 1, S7, by omega, by go_num, by rw [HST.out]; congr 1; omega, by rw [HST.out]; exact HI8⟩
        case measure => simp [intOf]; omega
    · obtain rfl : t = n := by omega
      obtain ⟨L, hL⟩ : ∃ L, L = lastOf (ns.take t) := ⟨_, rfl⟩
      rw [← hL] at HI ⊢
      clear hL
      have hlr := rings_stay_len T (advTime L a')
      obtain ⟨vp, vc, rfl, -⟩ := own_open HI.out.own
      obtain ⟨R, hR⟩ : ∃ R, R = rings T (advTime L a') := ⟨_, rfl⟩
      have hRl : (rings T (advTime L a')).length = R.length := by rw [hR]
      have HR := Lib.hid hR
      clear hR hRl
      go_wp2_with fail
      refine (wh_adv HI.out.two L (by omega)).mono ?_
      rintro e w7 ⟨v7, S7, rfl, ho7, _, h7, t7, _⟩
      have hown7 := own_same HI.out.own t7.same fun b hb e => (HI.out.far b hb).2 e
      have hone7 := HI.out.one.same t7.same fun b hb e => HI.out.dis b hb e
      have hb7 : Below w.heap.size w w7 := HI.out.below.trans (t7.same.belowB fun i hi => ⟨Nat.lt_of_lt_of_le hi HI.out.below.size, fun e => by have := HI.out.lo i (.inr e); omega⟩)
      rw [← HR.out] at hown7 ho7
      have c := sames_any _ v7 R R w7 (Rd.of_own hown7) (Rd.of_own ho7)
      rw [decide_eq_true rfl] at c
      have H7 := Lib.hid h7; have O7 := Lib.hid hone7; have B7 := Lib.hid hb7
      clear h7 t7 hown7 hone7 hb7 ho7
      rw [← HR.out]
      go_wp2_with fail
      refine c.mono ?_
      clear c
      rintro e w8 ⟨rfl, hB8⟩
      have H8 := Lib.hid (H7.out.later hB8); have O8 := Lib.hid (O7.out.later hB8); have B8 := Lib.hid (below_trans B7.out hB8)
      clear hB8
      have hsl : sets ≤ 4398046511104 := by omega
      obtain ⟨q, hq⟩ : ∃ q : Nat, q = (least (stay T (advTime L a'))).getD 0 := ⟨_, rfl⟩
      obtain ⟨f, hf⟩ : ∃ f, f = (least (stay T (advTime L a'))).isSome := ⟨_, rfl⟩
      have HQ := Lib.hid hq; have HF := Lib.hid hf
      clear hq hf
      go_wp2_with fail
      refine (wh_next O8.out hsl).mono ?_
      rw [← HQ.out, ← HF.out]
      rintro e w9 ⟨rfl, hB9⟩
      have H9 := Lib.hid (H8.out.later hB9); have O9 := Lib.hid (O8.out.later hB9); have B9 := Lib.hid (below_trans B8.out hB9)
      clear hB9
      go_wp2_with fail
      refine (wh_next H9.out hsl).mono ?_
      rw [← HQ.out, ← HF.out]
      rintro e w10 ⟨rfl, hB10⟩
      have H10 := Lib.hid (H9.out.later hB10); have O10 := Lib.hid (O9.out.later hB10); have B10 := Lib.hid (below_trans B9.out hB10)
      clear hB10
      go_wp2_with fail
      refine (wh_now O10.out).mono ?_
      rintro e w11 ⟨rfl, rfl⟩
      go_wp2_with fail
      refine (wh_now H10.out).mono ?_
      rintro e w12 ⟨rfl, rfl⟩
      go_wp2_with fail
      refine (wh_len O10.out).mono ?_
      rintro e w13 ⟨rfl, rfl⟩
      go_wp2_with fail
      refine (wh_len H10.out).mono ?_
      rintro e w14 ⟨rfl, rfl⟩
      go_wp2_with fail
      go_ret
      exact ⟨rfl, B10.out⟩
theorem stepsLaw_walk (W : World) (v0 : Int) (x0 : Int) (h0 : cU64.rep W [.int .u64 v0] x0) (v1 : Value) (x1) (h1 : cOps.rep W [v1] x1) (v2 : Value) (x2) (h2 : cU64s.rep W [v2] x2) :
    Calls Try.prog 9 #[.int .u64 v0, v1, v2] W fun e w' => e = .returned (.bool true) ∧ Below W.heap.size W w' := by
  obtain ⟨n, rfl⟩ : ∃ n : Nat, v0 = (n : Int) := by
    obtain ⟨a1, a2⟩ := h0
    simp only [List.cons.injEq, Value.int.injEq, true_and, and_true] at a1
    subst a1
    exact ⟨_, (u64_nat a2).symm⟩
  obtain ⟨ns, hr, hl⟩ := cU64s_rd h2
  exact steps_in n v1 _ v2 ns W (cOps_rd h1) hr hl
end Go.Proofs.Ytnnkchgkebcblaa
