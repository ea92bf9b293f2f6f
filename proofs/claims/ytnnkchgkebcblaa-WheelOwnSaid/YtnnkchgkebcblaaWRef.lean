/- The reference's wheel in memory: Clock, New, Stop. -/
import Derived.Test.YtnnkchgkebcblaaWDel
namespace Go.Proofs.Ytnnkchgkebcblaa
set_option linter.unusedVariables false
set_option linter.unusedSimpArgs false
open Go.RowKit
theorem El.rtm : El Try.prog 72 86 (.agg #[.int .i64 0, .int .u64 0, .bool false]) 3 24 := ⟨Try.underlying72, by kernel_rfl, rfl, by decide, by decide⟩
def rv (t : Tm) : List Value := [.int .i64 t.id, .int .u64 (t.at_ : Int), .bool t.nev]
def rvs (l : List Tm) : List Value := l.flatMap rv
theorem rvs_cons (t : Tm) (l : List Tm) : rvs (t :: l) = rv t ++ rvs l := rfl
theorem rvs_append (a b : List Tm) : rvs (a ++ b) = rvs a ++ rvs b := by simp [rvs]
theorem rvs_len : ∀ l : List Tm, (rvs l).length = l.length * 3
  | [] => rfl
  | t :: l => by rw [rvs_cons, List.length_append, rvs_len l, List.length_cons]; simp [rv]; omega
theorem rvs_at : ∀ (l : List Tm) (i : Nat) (t : Tm), l[i]? = some t → ∀ o, o < 3 → (rvs l)[i * 3 + o]? = (rv t)[o]?
  | [], i, t, h, o, ho => by simp at h
  | x :: l, 0, t, h, o, ho => by
    simp at h
    subst h
    rw [rvs_cons, Nat.zero_mul, Nat.zero_add, List.getElem?_append_left (by simp [rv]; omega)]
  | x :: l, i + 1, t, h, o, ho => by
    rw [rvs_cons, List.getElem?_append_right (by simp [rv]; omega)]
    have := rvs_at l i t (by simpa using h) o ho
    rw [← this]
    congr 1
    simp [rv]
    omega
theorem rvs_one (l : List Tm) : ∀ x ∈ rvs l, x.oneCell' = true := by
  intro x hx
  obtain ⟨t, _, ht⟩ := List.mem_flatMap.1 hx
  simp [rv] at ht
  rcases ht with rfl | rfl | rfl <;> rfl
theorem rvs_take (J : List Tm) (k : Nat) : (rvs J).take (k * 3) = rvs (J.take k) := by
  induction J generalizing k with
  | nil => simp [rvs]
  | cons x J ih =>
    cases k with
    | zero => simp [rvs]
    | succ k =>
      rw [List.take_succ_cons, rvs_cons, rvs_cons, ← ih k, show (k + 1) * 3 = (rv x).length + k * 3 by simp [rv]; omega, List.take_length_add_append]
theorem rvs_drop (J : List Tm) (k : Nat) : (rvs J).drop (k * 3) = rvs (J.drop k) := by
  induction J generalizing k with
  | nil => simp [rvs]
  | cons x J ih =>
    cases k with
    | zero => simp [rvs]
    | succ k =>
      rw [List.drop_succ_cons, rvs_cons, ← ih k, show (k + 1) * 3 = (rv x).length + k * 3 by simp [rv]; omega, List.drop_length_add_append]
theorem rcells {w : World} {g n cap base : Nat} {L : List Tm} (h : w.ownsRow base 86 3 (.slice (some ⟨g, 0, none⟩) n cap) n (rvs L)) {i : Nat} {t : Tm} (hi : L[i]? = some t) :
    w.cell? ⟨g, i * 3, none⟩ = some (.int .i64 t.id) ∧ w.cell? ⟨g, i * 3 + 1, none⟩ = some (.int .u64 (t.at_ : Int)) ∧ w.cell? ⟨g, i * 3 + 2, none⟩ = some (.bool t.nev) := by
  have key : ∀ j u, (rvs L)[j]? = some u → w.cell? ⟨g, j, none⟩ = some u := fun j u hu => by
    have := h.cells (g := g) rfl j u hu
    rwa [Addr.add_lit, Nat.zero_add] at this
  refine ⟨key _ _ ?_, key _ _ ?_, key _ _ ?_⟩
  · have := rvs_at L i t hi 0 (by omega)
    simpa [rv] using this
  · have := rvs_at L i t hi 1 (by omega)
    simpa [rv] using this
  · have := rvs_at L i t hi 2 (by omega)
    simpa [rv] using this
theorem own_open {w : World} {base n size : Nat} {e : TypeId} {v : Value} {xs : List Value} (h : w.ownsRow base e size v n xs) :
    ∃ ao cap, v = .slice ao n cap ∧ n ≤ cap ∧ cap ≤ maxLen ∧ (0 < n → ∃ b, ao = some ⟨b, 0, none⟩) := by
  rcases h.2 with ⟨rfl, h0⟩ | ⟨b, cap, cur, rfl, _, _, h1, h2, _⟩
  · exact ⟨none, 0, by rw [h0], by omega, by simp [maxLen], fun h => by omega⟩
  · exact ⟨_, cap, rfl, h1, h2, fun _ => ⟨b, rfl⟩⟩
/-- the reference's wheel. -/
structure RfAt (w : World) (r now : Nat) (v : Value) (T : List Tm) : Prop where
  blk : Blk w r 74 [.int .u64 (now : Int), v]
  own : w.ownsRow 0 86 3 v T.length (rvs T)
def RF (r : Nat) (v : Value) (b : Nat) : Prop := b = r ∨ v.ownBlock = some b
theorem RfAt.foot_lt {w : World} {r now : Nat} {v : Value} {T : List Tm} (h : RfAt w r now v T) {b : Nat} (hb : RF r v b) : b < w.heap.size := by
  rcases hb with rfl | hb
  · exact h.blk.lt
  · exact (h.own.lt b hb).2
theorem RfAt.same {S : Nat → Prop} {w w' : World} {r now : Nat} {v : Value} {T : List Tm} (h : RfAt w r now v T) (hs : Same S w w') (hS : ∀ b, RF r v b → ¬ S b) : RfAt w' r now v T :=
  ⟨h.blk.same hs (hS _ (.inl rfl)), own_same h.own hs fun b hb => hS _ (.inr hb)⟩
theorem RfAt.later {w w' : World} {r now : Nat} {v : Value} {T : List Tm} (h : RfAt w r now v T) (hb : Below w.heap.size w w') : RfAt w' r now v T := h.same (Same.of_below hb no) fun _ _ h => h
/-- its list is stored anew. -/
theorem RfAt.store {w' : World} {r now : Nat} {v v' : Value} {T' : List Tm} (h : Blk w' r 74 [.int .u64 (now : Int), v]) (hown : w'.ownsRow 0 86 3 v' T'.length (rvs T')) :
    RfAt (w'.setCell ⟨r, 1, none⟩ v') r now v' T' := by
  have hsc : Same (at1 r) w' (w'.setCell ⟨r, 1, none⟩ v') := ⟨rfl, rfl, rfl, by simp [World.setCell], fun j hj hn => Below.heap_setCell w' _ v' j (fun e => hn e)⟩
  refine ⟨h.set 1 v', own_same hown hsc fun b hb e => ?_⟩
  exact own_blk_ne hown h (by decide) (by rw [hb, show b = r from e])
set_option maxHeartbeats 1000000 in
set_option maxRecDepth 100000 in
theorem clock_any (x : Nat) (w : World) :
    Calls Try.prog 35 #[.int .u64 (x : Int)] w fun e w' => e = .returned (.int .u64 ((min x 281474976710655 : Nat) : Int)) ∧ w' = w := by
  go_enter Try.func35, Try.ntmps35
  by_cases h : x ≤ 281474976710655
  · have hb : ((x : Int) ≤ 281474976710655) := by omega
    go_wp2
    all_goals first
      | omega
      | (go_ret; exact ⟨by rw [Nat.min_eq_left h]; rfl, rfl⟩)
  · have hb : ¬ ((x : Int) ≤ 281474976710655) := by omega
    go_wp2
    all_goals first
      | omega
      | (go_ret; exact ⟨by rw [Nat.min_eq_right (by omega)]; rfl, rfl⟩)
set_option maxHeartbeats 1000000 in
set_option maxRecDepth 100000 in
theorem rnew_any (x : Nat) (w : World) :
    Calls Try.prog 16 #[.int .u64 (x : Int)] w fun e w' => ∃ r, e = .returned (.pointer (some ⟨r, 0, none⟩)) ∧ RfAt w' r (min x 281474976710655) (.slice none 0 0) [] ∧ w.heap.size ≤ r ∧ Below w.heap.size w w' := by
  go_enter Try.func16, Try.ntmps16
  go_wp2_with fail
  refine (clock_any x _).mono ?_
  rintro e w1 ⟨rfl, rfl⟩
  go_wp2_with fail
  go_ret
  refine ⟨_, rfl, ⟨Blk.new w1 _ [.int .u64 ((min x 281474976710655 : Nat) : Int), .slice none 0 0], World.ownsRow_nil _ _ _ _⟩, Nat.le_refl _, (Below.refl _ _).alloc (Nat.le_refl _) _⟩
theorem without_cut {T : List Tm} {i : Int} {k : Nat} {t : Tm} (hp : T.Pairwise fun a b => a.id ≠ b.id) (ht : T[k]? = some t) (he : t.id = i) : without T i = T.take k ++ T.drop (k + 1) := by
  subst he
  have hT : T = T.take k ++ t :: T.drop (k + 1) := by
    obtain ⟨hk, rfl⟩ := List.getElem?_eq_some_iff.1 ht
    rw [List.getElem_cons_drop, List.take_append_drop]
  rw [hT] at hp
  obtain ⟨_, h2, h3⟩ := List.pairwise_append.1 hp
  obtain ⟨h4, _⟩ := List.pairwise_cons.1 h2
  unfold without
  conv => lhs; rw [hT]
  rw [List.filter_append, List.filter_cons_of_neg (by simp), List.filter_eq_self.2, List.filter_eq_self.2]
  · intro u hu
    simpa using fun e => h4 u hu e.symm
  · intro u hu
    simpa using h3 u hu _ (List.mem_cons_self ..)
set_option maxHeartbeats 4000000 in
set_option maxRecDepth 100000 in
theorem rstop_any (r now : Nat) (v : Value) (T : List Tm) (w : World) (h : RfAt w r now v T) (i : Int) (hids : T.Pairwise fun a b => a.id ≠ b.id) (hl : T.length < 4611686018427) :
    Calls Try.prog 38 #[.pointer (some ⟨r, 0, none⟩), .int .i64 i] w fun e w' => e = .returned (.bool (T.any fun t => t.id == i)) ∧
      ∃ v', RfAt w' r now v' (without T i) ∧ Same (RF r v) w w' ∧ ∀ b, RF r v' b → RF r v b ∨ w.heap.size ≤ b := by
  obtain ⟨ao, cap, rfl, hnc, hcm, hao⟩ := own_open h.own
  have c1 := h.blk.cell_some (i := 1) rfl
  have f1 := h.blk.frozen 1
  have hrl := h.blk.lt
  obtain ⟨n, hn⟩ : ∃ n, n = T.length := ⟨_, rfl⟩
  have HW := Lib.hid h
  have HI := Lib.hid hids
  rw [← hn] at c1 hl hnc hao
  have HN := Lib.hid hn
  have HA := Lib.hid hao
  clear h hids hn hao
  simp only [maxLen] at hcm
  rw [← HN.out]
  go_enter Try.func38, Try.ntmps38
  go_wp2
  go_loop [5] (fun x => ∃ k : Nat, k ≤ n ∧ x = .int .i64 (k : Int) ∧ Hid (∀ j u, j < k → T[j]? = some u → u.id ≠ i)) (fun x => n - (intOf x).toNat)
  case atStart => exact ⟨0, Nat.zero_le _, rfl, Lib.hid fun j u hj => absurd hj (Nat.not_lt_zero _)⟩
  case round =>
    obtain ⟨k, hk, rfl, HB⟩ := hrel
    by_cases hlt : k < n
    · have ix1 : (k : Int) < (n : Int) := by omega
      obtain ⟨b, rfl⟩ := HA.out (by omega)
      obtain ⟨t, ht⟩ : ∃ t, T[k]? = some t := ⟨_, List.getElem?_eq_getElem (by rw [← HN.out]; exact hlt)⟩
      have hown := HW.out.own
      rw [← HN.out] at hown
      obtain ⟨d0, d1, d2⟩ := rcells hown ht
      obtain ⟨id, hid⟩ : ∃ id, id = t.id := ⟨_, rfl⟩
      rw [← hid] at d0
      have HO := Lib.hid hown
      have HT := Lib.hid ht
      have HID := Lib.hid hid
      clear hown ht hid d1 d2
      by_cases he : id = i
      · subst he
        have ix2 : (k : Int) ≤ (cap : Int) := by omega
        have hR1 : Rd w (.slice (some ⟨b, 0, none⟩) k cap) k (rvs (T.take k)) := by
          have h1 := own_prefix (n := k) HO.out (by omega)
          rw [rvs_take] at h1
          exact Rd.of_own h1
        have hl1 : (rvs (T.take k)).length = k * 3 := by rw [rvs_len, List.length_take, ← HN.out, Nat.min_eq_left hk]
        have HR1 := Lib.hid hR1; have HL1 := Lib.hid hl1
        clear hR1 hl1
        have hl2 : (rvs (T.drop (k + 1))).length = (n - (k + 1)) * 3 := by rw [rvs_len, List.length_drop, ← HN.out]
        have HL2 := Lib.hid hl2
        have prep : ∀ v1 w1, w1.ownsRow w.heap.size 86 3 v1 (0 + k) ([] ++ rvs (T.take k)) → w.grownBy w1 (Value.slice none 0 0).ownBlock →
            w1.cell? ⟨r, 1, none⟩ = some (.slice (some ⟨b, 0, none⟩) n cap) ∧ w1.frozen? ⟨r, 1, none⟩ = false ∧ r < w1.heap.size ∧ Hid (Below w.heap.size w w1) ∧ ∃ ao1 cap1, v1 = .slice ao1 k cap1 ∧ Hid (w1.ownsRow w.heap.size 86 3 (.slice ao1 k cap1) k (rvs (T.take k))) := by
          intro v1 w1 ho hg
          have hB1 : Below w.heap.size w w1 := (Same.of_grown hg).belowB fun i hi => ⟨hi, fun e => by cases e⟩
          rw [Nat.zero_add, List.nil_append] at ho
          obtain ⟨ao1, cap1, rfl, _, _, _⟩ := own_open ho
          exact ⟨below_cell hB1 c1 hrl, (hB1.frozen (p := ⟨r, 1, none⟩) hrl).trans f1, Nat.lt_of_lt_of_le hrl hB1.size, Lib.hid hB1, ao1, cap1, rfl, Lib.hid ho⟩
        have fin : ∀ w1 v1 v2 w2, Hid (Below w.heap.size w w1) → Hid (w1.ownsRow w.heap.size 86 3 v1 k (rvs (T.take k))) → w2.ownsRow w.heap.size 86 3 v2 (k + (n - (k + 1))) (rvs (T.take k) ++ rvs (T.drop (k + 1))) → w1.grownBy w2 v1.ownBlock →
            (w2.cell? ⟨r, 1, none⟩ = some (.slice (some ⟨b, 0, none⟩) n cap) ∧ w2.frozen? ⟨r, 1, none⟩ = false) ∧ Ending.returned (.bool true) = Ending.returned (.bool (T.any fun t => t.id == id)) ∧ ∃ v', RfAt (w2.setCell ⟨r, 1, none⟩ v2) r now v' (without T id) ∧ Same (RF r (.slice (some ⟨b, 0, none⟩) n cap)) w (w2.setCell ⟨r, 1, none⟩ v2) ∧ ∀ c, RF r v' c → RF r (.slice (some ⟨b, 0, none⟩) n cap) c ∨ w.heap.size ≤ c := by
          intro w1 v1 v2 w2 HB1 HO1 ho hg
          have hB2 : Below w.heap.size w w2 := by
            refine HB1.out.grown hg HB1.out.size (fun q hq => ?_)
            exact (HO1.out.lt q hq).1
          rw [← rvs_append] at ho
          have hw : without T id = T.take k ++ T.drop (k + 1) := without_cut HI.out HT.out HID.out.symm
          have hlen : (without T id).length = k + (n - (k + 1)) := by rw [hw, List.length_append, List.length_take, List.length_drop, ← HN.out, Nat.min_eq_left hk]
          refine ⟨⟨below_cell hB2 (HW.out.blk.cell_some (i := 1) (by rw [HN.out]; rfl)) hrl, (hB2.frozen (p := ⟨r, 1, none⟩) hrl).trans (HW.out.blk.frozen 1)⟩, ?_, v2, ?_, ?_, fun c hc => ?_⟩
          · congr 2
            symm
            rw [List.any_eq_true]
            exact ⟨t, List.mem_of_getElem? HT.out, by simpa using HID.out.symm⟩
          · rw [← hlen, ← hw] at ho
            exact RfAt.store (HW.out.blk.later hB2) (own_mono ho (Nat.zero_le _))
          · exact (Same.of_below hB2 (RF r (.slice (some ⟨b, 0, none⟩) n cap))).setCell (p := ⟨r, 1, none⟩) (fun _ => .inl rfl) v2
          · rcases hc with rfl | hc
            · exact .inl (.inl rfl)
            · exact .inr ((ho.lt c hc).1)
        have FIN := Lib.hid fin
        have PREP := Lib.hid prep
        have ix3 : (k : Int) + 1 ≤ (n : Int) := by omega
        clear fin prep hl2
        rcases (show (k + 1 < n) ∨ (k + 1 = n ∧ n = cap) ∨ (k + 1 = n ∧ n < cap) by omega) with hc | ⟨hc, hc'⟩ | ⟨hc, hc'⟩
        · have ix4 : (k : Int) + 1 < (cap : Int) := by omega
          have hR2 : ∀ w1, Hid (Below w.heap.size w w1) → Rd w1 (.slice (some ⟨b, (k + 1) * 3, none⟩) (n - (k + 1)) (cap - (k + 1))) (n - (k + 1)) (rvs (T.drop (k + 1))) := fun w1 hB => by
            refine Rd.mk (by omega) (by simp only [maxLen]; omega) fun j u hu => ?_
            rw [← rvs_drop, List.getElem?_drop] at hu
            have := (own_later HO.out hB.out).cells (g := b) rfl _ u hu
            rwa [Addr.add_lit, Nat.zero_add] at this
          have HR2 := Lib.hid hR2
          clear hR2
          go_wp2_with (first
            | (at_builtin; (refine wpList_app El.rtm rfl (.const (.slice none 0 0)) (.tmp 31) rfl (World.ownsRow_nil _ w.heap.size _ _) rfl HR1.out rfl HL1.out (rvs_one _) (by omega) (Nat.le_refl _) ?_); intro v1 w1 hown1 hgr1 hN1; obtain ⟨c1, f1, hrl1, HB1, ao1, cap1, rfl, HO1⟩ := PREP.out v1 w1 hown1 hgr1; clear hown1 hgr1 hN1)
            | (at_builtin; go_loud (refine wpList_app El.rtm rfl (.tmp 34) (.tmp 41) rfl HO1.out rfl (HR2.out _ HB1) rfl HL2.out (rvs_one _) (by omega) HB1.out.size ?_); intro v2 w2 hown2 hgr2 hN2; obtain ⟨⟨c2, f2⟩, p1, p2⟩ := FIN.out _ _ v2 w2 HB1 HO1 hown2 hgr2; obtain ⟨ao2, cap2, rfl, _, _, _⟩ := own_open hown2; have P1 := Lib.hid p1; have P2 := Lib.hid p2; clear hown2 hgr2 hN2 p1 p2))
          go_ret
          exact ⟨P1.out, P2.out⟩
        · obtain rfl : n = k + 1 := hc.symm
          subst hc'
          have hd : T.drop (k + 1) = [] := List.drop_eq_nil_iff.2 (by rw [← HN.out]; exact Nat.le_refl _)
          have FIN2 := FIN.out
          rw [hd, Nat.sub_self] at FIN2
          have FIN3 := Lib.hid FIN2
          clear FIN2 hd hc ix2 ix3
          go_wp2_with (first
            | (at_builtin; (refine wpList_app El.rtm rfl (.const (.slice none 0 0)) (.tmp 31) rfl (World.ownsRow_nil _ w.heap.size _ _) rfl HR1.out rfl HL1.out (rvs_one _) (by omega) (Nat.le_refl _) ?_); intro v1 w1 hown1 hgr1 hN1; obtain ⟨c1, f1, hrl1, HB1, ao1, cap1, rfl, HO1⟩ := PREP.out v1 w1 hown1 hgr1; clear hown1 hgr1 hN1)
            | (at_builtin; go_loud (refine wpList_app (m := 0) El.rtm rfl (.tmp 34) (.tmp 41) rfl HO1.out rfl (Rd.empty (ao := some ⟨b, 0, none⟩) (cap := 0) (by simp [maxLen])) rfl rfl (rvs_one []) (by omega) HB1.out.size ?_); intro v2 w2 hown2 hgr2 hN2; obtain ⟨⟨c2, f2⟩, p1, p2⟩ := FIN3.out _ _ v2 w2 HB1 HO1 hown2 hgr2; obtain ⟨ao2, cap2, rfl, _, _, _⟩ := own_open hown2; have P1 := Lib.hid p1; have P2 := Lib.hid p2; clear hown2 hgr2 hN2 p1 p2))
          go_ret
          exact ⟨P1.out, P2.out⟩
        · obtain rfl : n = k + 1 := hc.symm
          have hd : T.drop (k + 1) = [] := List.drop_eq_nil_iff.2 (by rw [← HN.out]; exact Nat.le_refl _)
          have FIN2 := FIN.out
          rw [hd, Nat.sub_self] at FIN2
          have FIN3 := Lib.hid FIN2
          have ix4 : (k : Int) + 1 < (cap : Int) := by omega
          clear FIN2 hd hc ix3
          go_wp2_with (first
            | (at_builtin; (refine wpList_app El.rtm rfl (.const (.slice none 0 0)) (.tmp 31) rfl (World.ownsRow_nil _ w.heap.size _ _) rfl HR1.out rfl HL1.out (rvs_one _) (by omega) (Nat.le_refl _) ?_); intro v1 w1 hown1 hgr1 hN1; obtain ⟨c1, f1, hrl1, HB1, ao1, cap1, rfl, HO1⟩ := PREP.out v1 w1 hown1 hgr1; clear hown1 hgr1 hN1)
            | (at_builtin; go_loud (refine wpList_app (m := 0) El.rtm rfl (.tmp 34) (.tmp 41) rfl HO1.out rfl (Rd.empty (ao := some ⟨b, (k + 1) * 3, none⟩) (cap := cap - (k + 1)) (by simp only [maxLen]; omega)) rfl rfl (rvs_one []) (by omega) HB1.out.size ?_); intro v2 w2 hown2 hgr2 hN2; obtain ⟨⟨c2, f2⟩, p1, p2⟩ := FIN3.out _ _ v2 w2 HB1 HO1 hown2 hgr2; obtain ⟨ao2, cap2, rfl, _, _, _⟩ := own_open hown2; have P1 := Lib.hid p1; have P2 := Lib.hid p2; clear hown2 hgr2 hN2 p1 p2))
          go_ret
          exact ⟨P1.out, P2.out⟩
      · have hb : (id == i) = false := by simpa using he
        go_wp2_with fail
        go_round
        case rel => exact ⟨k + 1, by omega, by go_num, Lib.hid fun j u hj hu => by
          rcases Nat.lt_or_ge j k with h' | h'
          · exact HB.out j u h' hu
          · obtain rfl : j = k := by omega
            rw [HT.out] at hu
            injection hu with hu
            subst hu
            rw [← HID.out]
            exact he⟩
        case measure => simp [intOf]; omega
    · obtain rfl : k = n := by omega
      go_wp2_with fail
      go_ret
      have hno : ∀ t ∈ T, t.id ≠ i := fun t ht => by
        obtain ⟨j, hj⟩ := List.getElem?_of_mem ht
        exact HB.out j t (by rw [HN.out]; exact (List.getElem?_eq_some_iff.1 hj).1) hj
      refine ⟨?_, _, ?_, Same.refl _ _, fun b hb => .inl hb⟩
      · have : (T.any fun t => t.id == i) = false := by
          rw [List.any_eq_false]
          intro t ht
          simpa using hno t ht
        rw [this]
        rfl
      · have : without T i = T := by
          unfold without
          rw [List.filter_eq_self]
          intro t ht
          simpa using hno t ht
        rw [this]
        have := HW.out
        rwa [← HN.out] at this
end Go.Proofs.Ytnnkchgkebcblaa
