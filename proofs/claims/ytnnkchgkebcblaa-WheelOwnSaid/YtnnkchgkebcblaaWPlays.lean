/- plays: one call on a wheel and on the reference's; the answers are the same. -/
import Derived.Test.YtnnkchgkebcblaaWDuo
import Derived.Deep.RegionLaw
namespace Go.Proofs.Ytnnkchgkebcblaa
set_option linter.unusedVariables false
set_option linter.unusedSimpArgs false
open Go.RowKit
structure Opd where
  on : Int
  kind : Int
  id : Int
  at_ : Nat
def Opd.val (o : Opd) : Value := .agg #[.int .i64 o.on, .int .i64 o.kind, .int .i64 o.id, .int .u64 (o.at_ : Int)]
/-- time, number of Sets, timers. -/
structure WS where
  now : Nat
  sets : Nat
  T : List Tm
def WS.play (s : WS) (o : Opd) : WS :=
  if o.kind = 1 then ⟨s.now, s.sets + 1, setR s.T o.id o.at_ s.now (s.sets + 1)⟩
  else if o.kind = 2 then ⟨s.now, s.sets, without s.T o.id⟩
  else if o.kind = 3 then ⟨advTime o.at_ s.now, s.sets, stay s.T (advTime o.at_ s.now)⟩
  else s
theorem WS.play_sets (s : WS) (o : Opd) : (s.play o).sets ≤ s.sets + 1 := by unfold WS.play; split <;> (try split) <;> (try split) <;> simp
def PlaysPost (w : World) (g r : Nat) (S : Nat → Prop) (s : WS) (e : Ending) (w' : World) : Prop :=
  e = .returned (.bool true) ∧ ∃ S', Duo w' g r S' s.now s.sets s.T ∧ Turn S S' w w'
section
variable {w w' : World} {g r : Nat} {S Sw Sr Sw' Sr' : Nat → Prop} {now sets : Nat} {T : List Tm}
theorem Turn.rf {n : Nat} {U : List Tm} (t : Turn Sw Sw' w w') (hd : ∀ b, Sw b → ¬ Sr b) (h : Rf w r Sr n U) : Rf w' r Sr n U ∧ ∀ b, Sw' b → ¬ Sr b :=
  ⟨h.same t.same fun b hb e => hd b e hb, fun b hb e => by
    rcases t.foot b hb with h' | h'
    · exact hd b h' e
    · have := h.lt e; omega⟩
theorem Turn.wh {n k : Nat} {U : List Tm} (t : Turn Sr Sr' w w') (hd : ∀ b, Sw b → ¬ Sr b) (h : Wh w g Sw n k U) : Wh w' g Sw n k U ∧ ∀ b, Sw b → ¬ Sr' b :=
  ⟨h.same t.same fun b hb e => hd b hb e, fun b hb e => by
    rcases t.foot b e with h' | h'
    · exact hd b hb h'
    · have := h.lt hb; omega⟩
end
theorem duo_mk {w w1 w2 w3 : World} {g r : Nat} {S Sw Sr Sw' Sr' : Nat → Prop} {now sets : Nat} {T : List Tm} (hS : ∀ b, Sw b ∨ Sr b ↔ S b) (hd : ∀ b, Sw b → ¬ Sr b) (hl : ∀ b, S b → b < w.heap.size) (hB : Below w.heap.size w w1)
    (t1 : Turn Sw Sw' w1 w2) (t2 : Turn Sr Sr' w2 w3) (h1 : Wh w2 g Sw' now sets T) (h2 : Rf w3 r Sr' now T) : ∃ S', Duo w3 g r S' now sets T ∧ Turn S S' w w3 := by
  have d1 : ∀ b, Sw' b → ¬ Sr b := fun b hb e => by
    rcases t1.foot b hb with h' | h'
    · exact hd b h' e
    · have := hl b ((hS b).1 (.inr e)); have := hB.size; omega
  obtain ⟨h1', d2⟩ := t2.wh d1 h1
  refine ⟨fun b => Sw' b ∨ Sr' b, ⟨Sw', Sr', h1', h2, d2, fun b => Iff.rfl⟩, ⟨?_, fun b hb => ?_⟩⟩
  · refine ((Same.of_below hB S).trans t1.same fun i _ e => (hS i).1 (.inl e)).trans t2.same fun i _ e => (hS i).1 (.inr e)
  · have z1 := hB.size
    have z2 := t1.same.size
    rcases hb with hb | hb
    · rcases t1.foot b hb with e | e
      · exact .inl ((hS b).1 (.inl e))
      · right; omega
    · rcases t2.foot b hb with e | e
      · exact .inl ((hS b).1 (.inr e))
      · right; omega
/-- the same, the reference first. -/
theorem duo_mk2 {w w1 w2 w3 : World} {g r : Nat} {S Sw Sr Sw' Sr' : Nat → Prop} {now sets : Nat} {T : List Tm} (hS : ∀ b, Sw b ∨ Sr b ↔ S b) (hd : ∀ b, Sw b → ¬ Sr b) (hl : ∀ b, S b → b < w.heap.size) (hB : Below w.heap.size w w1)
    (t1 : Turn Sr Sr' w1 w2) (t2 : Turn Sw Sw' w2 w3) (h1 : Rf w2 r Sr' now T) (h2 : Wh w3 g Sw' now sets T) : ∃ S', Duo w3 g r S' now sets T ∧ Turn S S' w w3 := by
  have d1 : ∀ b, Sw b → ¬ Sr' b := fun b hb e => by
    rcases t1.foot b e with h' | h'
    · exact hd b hb h'
    · have := hl b ((hS b).1 (.inl hb)); have := hB.size; omega
  obtain ⟨h1', d2⟩ := t2.rf d1 h1
  refine ⟨fun b => Sw' b ∨ Sr' b, ⟨Sw', Sr', h2, h1', d2, fun b => Iff.rfl⟩, ⟨?_, fun b hb => ?_⟩⟩
  · refine ((Same.of_below hB S).trans t1.same fun i _ e => (hS i).1 (.inr e)).trans t2.same fun i _ e => (hS i).1 (.inl e)
  · have z1 := hB.size
    have z2 := t1.same.size
    rcases hb with hb | hb
    · rcases t2.foot b hb with e | e
      · exact .inl ((hS b).1 (.inl e))
      · right; omega
    · rcases t1.foot b hb with e | e
      · exact .inl ((hS b).1 (.inr e))
      · right; omega
set_option maxHeartbeats 4000000 in
set_option maxRecDepth 100000 in
theorem plays_set {w : World} {g r : Nat} {S : Nat → Prop} {s : WS} (h : Duo w g r S s.now s.sets s.T) (o : Opd) (hk : o.kind = 1) (hi : (key o.id).wf = true) (hs : s.sets < 4398046511104) :
    Calls Try.prog 19 #[.pointer (some ⟨g, 0, none⟩), .pointer (some ⟨r, 0, none⟩), o.val] w (PlaysPost w g r S (s.play o)) := by
  have hp : s.play o = ⟨s.now, s.sets + 1, setR s.T o.id o.at_ s.now (s.sets + 1)⟩ := if_pos hk
  rw [hp]
  have hlt := fun b => h.lt (b := b)
  obtain ⟨Sw, Sr, h1, h2, h3, h4⟩ := h
  obtain ⟨on, kind, id, at_⟩ := o
  obtain ⟨now, sets, T⟩ := s
  simp only at hk hi hs h1 h2 ⊢
  subst hk
  unfold Opd.val
  obtain ⟨wa, hwa⟩ : ∃ wa, wa = w.alloc (.cells #[.int .i64 on, .int .i64 1, .int .i64 id, .int .u64 (at_ : Int)] 41) := ⟨_, rfl⟩
  have hB : Below w.heap.size w wa := hwa ▸ (Below.refl _ _).alloc (Nat.le_refl _) _
  have hO : Blk wa w.heap.size 41 [.int .i64 on, .int .i64 1, .int .i64 id, .int .u64 (at_ : Int)] := hwa ▸ Blk.new w _ _
  have o1 := hO.cell_some (i := 1) rfl
  have o2 := hO.cell_some (i := 2) rfl
  have o3 := hO.cell_some (i := 3) rfl
  have H1 := Lib.hid h1; have H2 := Lib.hid h2; have H3 := Lib.hid h3; have H4 := Lib.hid h4; have HLT := Lib.hid hlt; have HB := Lib.hid hB; have HO := Lib.hid hO
  have HT := h1.len
  clear h1 h2 h3 h4 hlt hB hO
  go_enter Try.func19, Try.ntmps19
  go_wp2_with fail
  rw [← hwa]
  clear hwa
  refine (rf_set (H2.out.later HB.out) id at_ (sets + 1) H1.out.ids (by omega) H1.out.top).mono ?_
  rintro e w2 ⟨rfl, Sr', r2, t2⟩
  have hO2 := HO.out.same t2.same fun e => by
    have := HLT.out _ ((H4.out _).1 (.inr e))
    omega
  have o2 := hO2.cell_some (i := 2) rfl
  have o3 := hO2.cell_some (i := 3) rfl
  have hw2 := (t2.wh H3.out (H1.out.later HB.out)).1
  have R2 := Lib.hid r2; have T2 := Lib.hid t2; have W2 := Lib.hid hw2
  clear r2 t2 hw2 hO2 o1
  go_wp2_with fail
  refine (wh_set W2.out id at_ hi hs).mono ?_
  rintro e w3 ⟨rfl, Sw', w3h, t3⟩
  have hfin := duo_mk2 H4.out H3.out HLT.out HB.out T2.out t3 R2.out w3h
  have HF := Lib.hid hfin
  clear hfin w3h t3
  go_wp2_with fail
  go_ret
  exact ⟨rfl, HF.out⟩
set_option maxHeartbeats 4000000 in
set_option maxRecDepth 100000 in
theorem plays_stop {w : World} {g r : Nat} {S : Nat → Prop} {s : WS} (h : Duo w g r S s.now s.sets s.T) (o : Opd) (hk : o.kind = 2) (hi : (key o.id).wf = true) (hs : s.sets ≤ 4398046511104) :
    Calls Try.prog 19 #[.pointer (some ⟨g, 0, none⟩), .pointer (some ⟨r, 0, none⟩), o.val] w (PlaysPost w g r S (s.play o)) := by
  have hp : s.play o = ⟨s.now, s.sets, without s.T o.id⟩ := by unfold WS.play; rw [hk]; rfl
  rw [hp]
  have hlt := fun b => h.lt (b := b)
  obtain ⟨Sw, Sr, h1, h2, h3, h4⟩ := h
  obtain ⟨on, kind, id, at_⟩ := o
  obtain ⟨now, sets, T⟩ := s
  simp only at hk hi hs h1 h2 ⊢
  subst hk
  unfold Opd.val
  obtain ⟨wa, hwa⟩ : ∃ wa, wa = w.alloc (.cells #[.int .i64 on, .int .i64 2, .int .i64 id, .int .u64 (at_ : Int)] 41) := ⟨_, rfl⟩
  have hB : Below w.heap.size w wa := hwa ▸ (Below.refl _ _).alloc (Nat.le_refl _) _
  have hO : Blk wa w.heap.size 41 [.int .i64 on, .int .i64 2, .int .i64 id, .int .u64 (at_ : Int)] := hwa ▸ Blk.new w _ _
  have o1 := hO.cell_some (i := 1) rfl
  have o2 := hO.cell_some (i := 2) rfl
  have o3 := hO.cell_some (i := 3) rfl
  have H1 := Lib.hid (h1.later (hB.drew : Below w.heap.size w wa.drew)); have H2 := Lib.hid (h2.later (hB.drew : Below w.heap.size w wa.drew)); have H3 := Lib.hid h3; have H4 := Lib.hid h4; have HLT := Lib.hid hlt; have HB := Lib.hid (hB.drew : Below w.heap.size w wa.drew); have HO := Lib.hid (hO.drew : Blk wa.drew _ _ _)
  have HT := h1.len
  obtain ⟨q, hq⟩ : ∃ q, q = T.any fun t => t.id == id := ⟨_, rfl⟩
  have HQ := Lib.hid hq
  clear h1 h2 h3 h4 hlt hB hO hq
  go_enter Try.func19, Try.ntmps19
  go_wp2_with fail
  rw [← hwa]
  clear hwa
  go_region_law (first
    | (go_simp; go_at_call 31; refine (wh_stop H1.out id hi hs).mono ?_; rw [← HQ.out]; rintro e w2 ⟨rfl, Sw', w2h, t2⟩; have hO2 := HO.out.same t2.same (fun e => by have := HLT.out _ ((H4.out _).1 (.inl e)); omega); have o2 := hO2.cell_some (i := 2) rfl; have R2 := Lib.hid (t2.rf H3.out H2.out).1; have T2 := Lib.hid t2; have W2 := Lib.hid w2h; clear hO2 w2h t2)
    | (go_simp; go_at_call 38; refine (rf_stop R2.out id H1.out.ids (by omega)).mono ?_; rw [← HQ.out]; rintro e w3 ⟨rfl, Sr', r3, t3⟩; have HF := Lib.hid (duo_mk H4.out H3.out HLT.out HB.out T2.out t3 W2.out r3); clear r3 t3))
  all_goals
    go_wp2_with fail
    go_ret
    exact ⟨rfl, HF.out⟩
set_option maxHeartbeats 4000000 in
set_option maxRecDepth 100000 in
theorem plays_adv {w : World} {g r : Nat} {S : Nat → Prop} {s : WS} (h : Duo w g r S s.now s.sets s.T) (o : Opd) (hk : o.kind = 3) (hs : s.sets ≤ 4398046511104) :
    Calls Try.prog 19 #[.pointer (some ⟨g, 0, none⟩), .pointer (some ⟨r, 0, none⟩), o.val] w (PlaysPost w g r S (s.play o)) := by
  have hp : s.play o = ⟨advTime o.at_ s.now, s.sets, stay s.T (advTime o.at_ s.now)⟩ := by unfold WS.play; rw [hk]; rfl
  rw [hp]
  have hlt := fun b => h.lt (b := b)
  obtain ⟨Sw, Sr, h1, h2, h3, h4⟩ := h
  obtain ⟨on, kind, id, at_⟩ := o
  obtain ⟨now, sets, T⟩ := s
  simp only at hk hs h1 h2 ⊢
  subst hk
  unfold Opd.val
  obtain ⟨wa, hwa⟩ : ∃ wa, wa = w.alloc (.cells #[.int .i64 on, .int .i64 3, .int .i64 id, .int .u64 (at_ : Int)] 41) := ⟨_, rfl⟩
  have hB : Below w.heap.size w wa := hwa ▸ (Below.refl _ _).alloc (Nat.le_refl _) _
  have hO : Blk wa w.heap.size 41 [.int .i64 on, .int .i64 3, .int .i64 id, .int .u64 (at_ : Int)] := hwa ▸ Blk.new w _ _
  have o1 := hO.cell_some (i := 1) rfl
  have o2 := hO.cell_some (i := 2) rfl
  have o3 := hO.cell_some (i := 3) rfl
  have H1 := Lib.hid (h1.later (hB.drew : Below w.heap.size w wa.drew)); have H2 := Lib.hid (h2.later (hB.drew : Below w.heap.size w wa.drew)); have H3 := Lib.hid h3; have H4 := Lib.hid h4; have HLT := Lib.hid hlt; have HB := Lib.hid (hB.drew : Below w.heap.size w wa.drew); have HO := Lib.hid (hO.drew : Blk wa.drew _ _ _)
  have HT := h1.len
  obtain ⟨L, hL⟩ : ∃ L, L = rings T (advTime at_ now) := ⟨_, rfl⟩
  have HL := Lib.hid hL
  have HLIVE := Lib.hid fun t ht hv => (h1.live t ht hv).1
  clear h1 h2 h3 h4 hlt hB hO hL
  go_enter Try.func19, Try.ntmps19
  go_wp2_with fail
  rw [← hwa]
  clear hwa
  go_region_law (first
    | (go_simp; go_at_call 20; refine (wh_adv H1.out at_ hs).mono ?_; rw [← HL.out]; rintro e w2 ⟨v, Sw', rfl, ho, _, w2h, t2, _⟩; have hO2 := HO.out.same t2.same (fun e => by have := HLT.out _ ((H4.out _).1 (.inl e)); omega); have o3 := hO2.cell_some (i := 3) rfl; have R2 := Lib.hid (t2.rf H3.out H2.out).1; have T2 := Lib.hid t2; have W2 := Lib.hid w2h; have HV := Lib.hid ho; clear hO2 w2h t2 ho)
    | (go_simp; go_at_call 21; refine (rf_adv R2.out at_ H1.out.ids (by omega) HLIVE.out).mono ?_; rw [← HL.out]; rintro e w3 ⟨u, Sr', rfl, hu, r3, t3, _⟩; have HF := Lib.hid (duo_mk H4.out H3.out HLT.out HB.out T2.out t3 W2.out r3); have HV3 := Lib.hid (own_same HV.out t3.same (fun b hb e => by have h1 := (HV.out.lt b hb).1; have h2 := HLT.out b ((H4.out b).1 (.inr e)); have h3 := HB.out.size; omega)); have HU := Lib.hid hu; clear r3 t3 hu)
    | (go_simp; go_at_call 22; refine (sames_any _ _ L L _ (Rd.of_own HV3.out) (Rd.of_own HU.out)).mono ?_; rw [decide_eq_true rfl]; rintro e w4 ⟨rfl, hB4⟩; have HF4 := Lib.hid (show ∃ S', Duo w4 g r S' (advTime at_ now) sets (stay T (advTime at_ now)) ∧ Turn S S' w w4 from HF.out.imp fun S' h => ⟨h.1.later hB4, h.2.trans (Turn.of_below hB4 S')⟩); clear hB4))
  all_goals
    go_wp2_with fail
    go_ret
    exact ⟨rfl, HF4.out⟩
set_option maxHeartbeats 4000000 in
set_option maxRecDepth 100000 in
theorem plays_else {w : World} {g r : Nat} {S : Nat → Prop} {s : WS} (h : Duo w g r S s.now s.sets s.T) (o : Opd) (k1 : o.kind ≠ 1) (k2 : o.kind ≠ 2) (k3 : o.kind ≠ 3) :
    Calls Try.prog 19 #[.pointer (some ⟨g, 0, none⟩), .pointer (some ⟨r, 0, none⟩), o.val] w (PlaysPost w g r S (s.play o)) := by
  have hp : s.play o = s := by unfold WS.play; rw [if_neg k1, if_neg k2, if_neg k3]
  rw [hp]
  obtain ⟨on, kind, id, at_⟩ := o
  simp only at k1 k2 k3
  unfold Opd.val
  have b1 : (kind == 1) = false := by simpa using k1
  have b2 : (kind == 2) = false := by simpa using k2
  have b3 : (kind == 3) = false := by simpa using k3
  have H := Lib.hid h
  clear h hp k1 k2 k3
  go_enter Try.func19, Try.ntmps19
  go_wp2_with fail
  go_ret
  have hB : Below w.heap.size w (w.alloc (.cells #[.int .i64 on, .int .i64 kind, .int .i64 id, .int .u64 (at_ : Int)] 41)) := (Below.refl _ _).alloc (Nat.le_refl _) _
  exact ⟨rfl, S, H.out.later hB, Turn.of_below hB S⟩
theorem plays_any {w : World} {g r : Nat} {S : Nat → Prop} {s : WS} (h : Duo w g r S s.now s.sets s.T) (o : Opd) (hi : (key o.id).wf = true) (hs : s.sets < 4398046511104) :
    Calls Try.prog 19 #[.pointer (some ⟨g, 0, none⟩), .pointer (some ⟨r, 0, none⟩), o.val] w (PlaysPost w g r S (s.play o)) := by
  by_cases k1 : o.kind = 1
  · exact plays_set h o k1 hi hs
  by_cases k2 : o.kind = 2
  · exact plays_stop h o k2 hi (Nat.le_of_lt hs)
  by_cases k3 : o.kind = 3
  · exact plays_adv h o k3 (Nat.le_of_lt hs)
  · exact plays_else h o k1 k2 k3
end Go.Proofs.Ytnnkchgkebcblaa
