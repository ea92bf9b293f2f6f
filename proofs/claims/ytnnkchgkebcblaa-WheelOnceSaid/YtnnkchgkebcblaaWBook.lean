/- The book of WheelOnce: without, has; plain laws of what rings. -/
import Derived.Test.YtnnkchgkebcblaaWScript
import Derived.Test.YtnnkchgkebcblaaWT
namespace Go.Proofs.Ytnnkchgkebcblaa
set_option linter.unusedVariables false
set_option linter.unusedSimpArgs false
open Go.RowKit
theorem El.dues : El Try.prog 54 58 (.agg #[.int .i64 0, .int .u64 0]) 2 16 := ⟨Try.underlying54, by kernel_rfl, rfl, by decide, by decide⟩
def dv (t : Tm) : List Value := [.int .i64 t.id, .int .u64 (t.at_ : Int)]
def dvs (l : List Tm) : List Value := l.flatMap dv
theorem dvs_cons (t : Tm) (l : List Tm) : dvs (t :: l) = dv t ++ dvs l := rfl
theorem dvs_append (a b : List Tm) : dvs (a ++ b) = dvs a ++ dvs b := by simp [dvs]
theorem dvs_len : ∀ l : List Tm, (dvs l).length = l.length * 2
  | [] => rfl
  | t :: l => by rw [dvs_cons, List.length_append, dvs_len l, List.length_cons]; simp [dv]; omega
theorem dvs_at : ∀ (l : List Tm) (i : Nat) (t : Tm), l[i]? = some t → ∀ o, o < 2 → (dvs l)[i * 2 + o]? = (dv t)[o]?
  | [], i, t, h, o, ho => by simp at h
  | x :: l, 0, t, h, o, ho => by
    simp at h
    subst h
    rw [dvs_cons, Nat.zero_mul, Nat.zero_add, List.getElem?_append_left (by simp [dv]; omega)]
  | x :: l, i + 1, t, h, o, ho => by
    rw [dvs_cons, List.getElem?_append_right (by simp [dv]; omega)]
    have := dvs_at l i t (by simpa using h) o ho
    rw [← this]
    congr 1
    simp [dv]
    omega
theorem dvs_one (l : List Tm) : ∀ x ∈ dvs l, x.oneCell' = true := by
  intro x hx
  obtain ⟨t, _, ht⟩ := List.mem_flatMap.1 hx
  simp [dv] at ht
  rcases ht with rfl | rfl <;> rfl
theorem dcells {w : World} {v : Value} {L : List Tm} (h : Rd w v L.length (dvs L)) {i : Nat} {t : Tm} (hi : L[i]? = some t) : ∃ b off cap, v = .slice (some ⟨b, off, none⟩) L.length cap ∧
    w.cell? ⟨b, off + i * 2, none⟩ = some (.int .i64 t.id) ∧ w.cell? ⟨b, off + i * 2 + 1, none⟩ = some (.int .u64 (t.at_ : Int)) := by
  have h0 := dvs_at L i t hi 0 (by omega)
  have h1 := dvs_at L i t hi 1 (by omega)
  obtain ⟨b, off, cap, rfl, _, _, _, hc⟩ := h.form fun e => by rw [e] at h0; simp [dv] at h0
  refine ⟨b, off, cap, rfl, hc _ _ (by simpa [dv] using h0), ?_⟩
  have := hc _ _ (h1.trans (show (dv t)[1]? = some _ from rfl))
  rwa [← Nat.add_assoc] at this
set_option maxHeartbeats 2000000 in
set_option maxRecDepth 100000 in
theorem without_any (v : Value) (T : List Tm) (i : Int) (w : World) (h : Rd w v T.length (dvs T)) (hl : T.length ≤ 4398046511104) :
    Calls Try.prog 29 #[v, .int .i64 i] w fun e w' => ∃ v', e = .returned v' ∧ w'.ownsRow w.heap.size 58 2 v' (without T i).length (dvs (without T i)) ∧ Below w.heap.size w w' := by
  obtain ⟨ao, cap, rfl, hnc, hcm, -⟩ := id h
  have H := Lib.hid h
  obtain ⟨n, hn⟩ : ∃ n, n = T.length := ⟨_, rfl⟩
  rw [← hn] at hl hnc ⊢
  have HN := Lib.hid hn
  simp only [maxLen] at hcm
  clear h hn
  go_enter Try.func29, Try.ntmps29
  go_wp2
  go_loopw [5, 6] (fun s x wr => ∃ k : Nat, k ≤ n ∧ x = .int .i64 (k : Int) ∧ Hid (wr.ownsRow w.heap.size 58 2 s (without (T.take k) i).length (dvs (without (T.take k) i)) ∧ Below w.heap.size w wr)) (fun _ x _ => n - (intOf x).toNat)
  case atStart => exact ⟨0, Nat.zero_le _, rfl, Lib.hid ⟨World.ownsRow_nil _ _ _ _, Below.refl _ _⟩⟩
  case round =>
    obtain ⟨k, hk, rfl, HO⟩ := hrel
    by_cases hlt : k < n
    · have ix : (k : Int) < (n : Int) := by omega
      obtain ⟨t, ht⟩ : ∃ t, T[k]? = some t := ⟨_, List.getElem?_eq_getElem (by rw [← HN.out]; exact hlt)⟩
      obtain ⟨b, off, cap', heq, d0, d1⟩ := dcells H.out ht
      injection heq with e1 e2 e3
      subst e1
      have d0 := below_cell HO.out.2 d0 (World.block_lt_of_cell? _ _ d0)
      have d1 := below_cell HO.out.2 d1 (World.block_lt_of_cell? _ _ d1)
      have hst : without (T.take (k + 1)) i = without (T.take k) i ++ (if t.id != i then [t] else []) := by
        unfold without
        rw [List.take_add_one, ht, List.filter_append, Option.toList_some, List.filter_cons]
        rfl
      have hwl : (without (T.take k) i).length ≤ k := by
        have h1 := without_len_le (T.take k) i
        rw [List.length_take] at h1
        omega
      have HST := Lib.hid hst
      have HTT := Lib.hid ht
      obtain ⟨id, at_, ord, nev⟩ := t
      simp only at d0 d1
      obtain ⟨so, sc, rfl, -⟩ := own_open HO.out.1
      obtain ⟨m, hm⟩ : ∃ m, m = (without (T.take k) i).length := ⟨_, rfl⟩
      rw [← hm] at hwl ⊢
      have HM := Lib.hid hm
      clear hst ht e2 e3 hm
      by_cases he : id = i
      · have hb : (id != i) = false := by simpa using he
        have HO2 : Hid (wr.ownsRow w.heap.size 58 2 (.slice so m sc) (without (T.take (k + 1)) i).length (dvs (without (T.take (k + 1)) i)) ∧ Below w.heap.size w wr) := by
          have := HO.out
          have hs := HST.out
          simp only [hb] at hs
          rw [hs, HM.out]
          exact Lib.hid (by simpa using this)
        clear he
        go_wp2_with fail
        go_roundw
        case rel => exact ⟨k + 1, by omega, by go_num, HO2⟩
        case measure => simp [intOf]; omega
      · have hb : (id != i) = true := by simpa using he
        clear he
        have hbase := HO.out.2.size
        have hb16 : (m + 1) * 16 ≤ 140737488355328 := by omega
        have hown := HO.out.1
        rw [← HM.out] at hown
        have fin : ∀ v' w', w'.ownsRow w.heap.size 58 2 v' (m + 1) (dvs (without (T.take k) i) ++ [.int .i64 id, .int .u64 (at_ : Int)]) → wr.grownBy w' (Value.slice so m sc).ownBlock → Hid (w'.ownsRow w.heap.size 58 2 v' (without (T.take (k + 1)) i).length (dvs (without (T.take (k + 1)) i)) ∧ Below w.heap.size w w') := fun v' w' ho hg => by
          have hs := HST.out
          simp only [hb] at hs
          rw [hs]
          refine Lib.hid ⟨?_, HO.out.2.grown hg hbase fun q hq => (HO.out.1.lt q (by rw [← HM.out]; exact hq)).1⟩
          rw [if_pos trivial, List.length_append, dvs_append, ← HM.out]
          exact ho
        have FIN := Lib.hid fin
        clear fin
        go_wp2_with (at_builtin; go_loud (refine wpList_app1 El.dues rfl (.tmp 20) (.tmp 25) rfl hown rfl (cs := #[.int .i64 id, .int .u64 (at_ : Int)]) rfl rfl (by simp [Value.oneCell']) hb16 hbase ?_); intro v2 w2 hown2 hgr2 _; have HF := FIN.out v2 w2 hown2 hgr2; clear hown2 hgr2)
        go_roundw
        case rel => exact ⟨k + 1, by omega, by go_num, HF⟩
        case measure => simp [intOf]; omega
    · obtain rfl : k = n := by omega
      go_wp2_with fail
      go_ret
      have := HO.out
      rw [HN.out, List.take_length] at this
      exact ⟨_, rfl, this⟩
def atV (o : Option Tm) : Int := match o with | none => 0 | some t => (t.at_ : Int)
set_option maxHeartbeats 2000000 in
set_option maxRecDepth 100000 in
theorem has_any (v : Value) (T : List Tm) (i : Int) (w : World) (h : Rd w v T.length (dvs T)) :
    Calls Try.prog 30 #[v, .int .i64 i] w fun e w' => e = .returned (.tuple #[.int .u64 (atV (T.find? fun t => t.id == i)), .bool (T.find? fun t => t.id == i).isSome]) ∧ w' = w := by
  obtain ⟨ao, cap, rfl, hnc, hcm, -⟩ := id h
  have H := Lib.hid h
  obtain ⟨n, hn⟩ : ∃ n, n = T.length := ⟨_, rfl⟩
  rw [← hn] at hnc ⊢
  have HN := Lib.hid hn
  simp only [maxLen] at hcm
  clear h hn
  obtain ⟨q, hq⟩ : ∃ q, q = T.find? fun t => t.id == i := ⟨_, rfl⟩
  rw [← hq]
  have HQ := Lib.hid hq
  clear hq
  go_enter Try.func30, Try.ntmps30
  go_wp2
  go_loop [6] (fun x => ∃ k : Nat, k ≤ n ∧ x = .int .i64 (k : Int) ∧ Hid (q = (T.drop k).find? fun t => t.id == i)) (fun x => n - (intOf x).toNat)
  case atStart => exact ⟨0, Nat.zero_le _, rfl, HQ⟩
  case round =>
    obtain ⟨k, hk, rfl, HK⟩ := hrel
    by_cases hlt : k < n
    · have ix : (k : Int) < (n : Int) := by omega
      obtain ⟨t, ht⟩ : ∃ t, T[k]? = some t := ⟨_, List.getElem?_eq_getElem (by rw [← HN.out]; exact hlt)⟩
      obtain ⟨b, off, cap', heq, d0, d1⟩ := dcells H.out ht
      injection heq with e1 e2 e3
      subst e1
      have hd : T.drop k = t :: T.drop (k + 1) := by
        obtain ⟨h1, rfl⟩ := List.getElem?_eq_some_iff.1 ht
        exact (List.getElem_cons_drop h1).symm
      have HD := Lib.hid hd
      obtain ⟨id, at_, ord, nev⟩ := t
      simp only at d0 d1
      clear hd ht e2 e3
      by_cases he : id = i
      · have hb : (id == i) = true := by simpa using he
        have hq : q = some ⟨id, at_, ord, nev⟩ := by
          rw [HK.out, HD.out]
          exact List.find?_cons_of_pos (by simpa using he)
        subst hq
        clear he
        go_wp2
        go_ret2
        exact ⟨rfl, rfl⟩
      · have hb : (id == i) = false := by simpa using he
        have hq : q = (T.drop (k + 1)).find? fun t => t.id == i := by
          rw [HK.out, HD.out]
          exact List.find?_cons_of_neg (by simpa using he)
        have HK2 := Lib.hid hq
        clear he hq
        go_wp2
        go_round
        case rel => exact ⟨k + 1, by omega, by go_num, HK2⟩
        case measure => simp [intOf]; omega
    · obtain rfl : k = n := by omega
      have hq : q = none := by
        rw [HK.out, List.drop_eq_nil_iff.2 (by rw [← HN.out]; exact Nat.le_refl _)]
        rfl
      subst hq
      go_wp2
      go_ret2
      exact ⟨rfl, rfl⟩
/-! ### what rings, as timers -/
def ringsT (T : List Tm) (n : Nat) : List Tm := (List.range (n + 1)).flatMap fun a => due T a
theorem rings_map (T : List Tm) (n : Nat) : rings T n = (ringsT T n).map Tm.id := by
  unfold rings ringsT
  rw [List.map_flatMap]
theorem ringsT_snoc (T : List Tm) (n : Nat) : ringsT T (n + 1) = ringsT T n ++ due T (n + 1) := by
  unfold ringsT
  rw [List.range_succ, List.flatMap_append]
  simp
def rung (n : Nat) (t : Tm) : Bool := !t.nev && decide (t.at_ ≤ n)
theorem ringsT_perm (T : List Tm) : ∀ n, (ringsT T n).Perm (T.filter (rung n))
  | 0 => by
    have : ringsT T 0 = due T 0 := by simp [ringsT]
    rw [this]
    refine List.Perm.of_eq ?_
    unfold due rung
    refine List.filter_congr fun t _ => ?_
    rw [Bool.eq_iff_iff]
    cases t.nev <;> simp
  | n + 1 => by
    rw [ringsT_snoc]
    refine ((ringsT_perm T n).append_right _).trans ?_
    have e1 : T.filter (rung n) = (T.filter (rung (n + 1))).filter fun t => !(t.at_ == n + 1) := by
      rw [List.filter_filter]
      refine List.filter_congr fun t _ => ?_
      unfold rung
      rw [Bool.eq_iff_iff]
      cases t.nev <;> simp <;> omega
    have e2 : due T (n + 1) = (T.filter (rung (n + 1))).filter fun t => t.at_ == n + 1 := by
      unfold due
      rw [List.filter_filter]
      refine List.filter_congr fun t _ => ?_
      unfold rung
      rw [Bool.eq_iff_iff]
      cases t.nev <;> simp <;> omega
    rw [e1, e2]
    exact List.perm_append_comm.trans (List.filter_append_perm _ _)
theorem ringsT_mem {T : List Tm} {n : Nat} {t : Tm} (h : t ∈ ringsT T n) : t ∈ T ∧ t.nev = false ∧ t.at_ ≤ n := by
  have := (ringsT_perm T n).mem_iff.1 h
  obtain ⟨h1, h2⟩ := List.mem_filter.1 this
  unfold rung at h2
  simp at h2
  exact ⟨h1, h2.1, h2.2⟩
theorem ringsT_ids {T : List Tm} (h : T.Pairwise fun a b => a.id ≠ b.id) (n : Nat) : (ringsT T n).Pairwise fun a b => a.id ≠ b.id := by
  refine (ringsT_perm T n).symm.pairwise_iff (fun {a b} (hab : a.id ≠ b.id) => hab.symm) |>.1 ?_
  exact h.sublist List.filter_sublist
theorem pw_all {R : Tm → Tm → Prop} : ∀ {l : List Tm}, (∀ a ∈ l, ∀ b ∈ l, R a b) → l.Pairwise R
  | [], _ => List.Pairwise.nil
  | x :: l, h => List.pairwise_cons.2 ⟨fun b hb => h x (List.mem_cons_self ..) b (List.mem_cons_of_mem _ hb), pw_all fun a ha b hb => h a (List.mem_cons_of_mem _ ha) b (List.mem_cons_of_mem _ hb)⟩
theorem ringsT_sorted (T : List Tm) : ∀ n, (ringsT T n).Pairwise fun a b => a.at_ ≤ b.at_
  | 0 => by
    have : ringsT T 0 = due T 0 := by simp [ringsT]
    rw [this]
    refine pw_all fun a ha b hb => ?_
    have h1 := (List.mem_filter.1 ha).2
    have h2 := (List.mem_filter.1 hb).2
    simp at h1 h2
    omega
  | n + 1 => by
    rw [ringsT_snoc]
    refine List.pairwise_append.2 ⟨ringsT_sorted T n, ?_, fun a ha b hb => ?_⟩
    · refine pw_all fun a ha b hb => ?_
      have h1 := (List.mem_filter.1 ha).2
      have h2 := (List.mem_filter.1 hb).2
      simp at h1 h2
      omega
    · have h1 := (ringsT_mem ha).2.2
      have h2 := (List.mem_filter.1 hb).2
      simp at h2
      omega
/-- the book without the first that rang. -/
def bookAt (T Rt : List Tm) (j : Nat) : List Tm := T.filter fun t => !(Rt.take j).any fun r => r.id == t.id
theorem bookAt_mem {T Rt : List Tm} {j : Nat} {t : Tm} : t ∈ bookAt T Rt j ↔ t ∈ T ∧ ∀ r ∈ Rt.take j, r.id ≠ t.id := by
  unfold bookAt
  rw [List.mem_filter, Bool.not_eq_true', List.any_eq_false]
  exact ⟨fun ⟨a, b⟩ => ⟨a, fun r hr e => b r hr (by simpa using e)⟩, fun ⟨a, b⟩ => ⟨a, fun r hr e => b r hr (by simpa using e)⟩⟩
theorem bookAt_zero (T Rt : List Tm) : bookAt T Rt 0 = T := by
  unfold bookAt
  rw [List.filter_eq_self]
  intro t _
  rfl
theorem bookAt_succ {T Rt : List Tm} {j : Nat} {r : Tm} (h : Rt[j]? = some r) : bookAt T Rt (j + 1) = without (bookAt T Rt j) r.id := by
  unfold bookAt without
  rw [List.filter_filter]
  refine List.filter_congr fun t _ => ?_
  rw [List.take_add_one, h, Option.toList_some, List.any_append, List.any_cons, List.any_nil, Bool.or_false, Bool.not_or, Bool.and_comm]
  congr 1
  rw [bne, Bool.beq_comm]
theorem bookAt_find {T Rt : List Tm} {j : Nat} {r : Tm} (hT : T.Pairwise fun a b => a.id ≠ b.id) (hR : Rt.Pairwise fun a b => a.id ≠ b.id) (h : Rt[j]? = some r) (hr : r ∈ T) : (bookAt T Rt j).find? (fun t => t.id == r.id) = some r := by
  have hin : r ∈ bookAt T Rt j := by
    refine bookAt_mem.2 ⟨hr, fun q hq e => ?_⟩
    obtain ⟨k, hk⟩ := List.getElem?_of_mem hq
    rw [List.getElem?_take] at hk
    split at hk
    · rename_i hkj
      obtain ⟨k1, rfl⟩ := List.getElem?_eq_some_iff.1 hk
      obtain ⟨j1, rfl⟩ := List.getElem?_eq_some_iff.1 h
      rw [List.pairwise_iff_getElem] at hR
      exact hR k j k1 j1 hkj e
    · cases hk
  cases hf : (bookAt T Rt j).find? (fun t => t.id == r.id) with
  | none =>
    rw [List.find?_eq_none] at hf
    exact absurd (by simp) (hf r hin)
  | some t =>
    have h1 := List.find?_some hf
    have h2 := List.mem_of_find?_eq_some hf
    congr 1
    exact id_inj hT (bookAt_mem.1 h2).1 hr (by simpa using h1)
theorem bookAt_end {T : List Tm} (hT : T.Pairwise fun a b => a.id ≠ b.id) (n : Nat) : bookAt T (ringsT T n) (ringsT T n).length = stay T n := by
  unfold bookAt stay
  rw [List.take_length]
  refine List.filter_congr fun t ht => ?_
  rw [Bool.eq_iff_iff, Bool.not_eq_true', List.any_eq_false]
  simp only [Bool.or_eq_true, decide_eq_true_eq]
  constructor
  · intro hno
    by_cases hv : t.nev = true
    · exact .inl hv
    · refine .inr (Nat.lt_of_not_le fun hle => hno t ((ringsT_perm T n).mem_iff.2 (List.mem_filter.2 ⟨ht, ?_⟩)) (by simp))
      unfold rung
      simp at hv
      simp [hv, hle]
  · intro h r hr e
    obtain ⟨h1, h2, h3⟩ := ringsT_mem hr
    have := id_inj hT h1 ht (by simpa using e)
    subst this
    rcases h with h | h
    · rw [h2] at h; cases h
    · omega
def lastAt (l : List Tm) : Nat := l.foldl (fun _ t => t.at_) 0
theorem lastAt_snoc (l : List Tm) (t : Tm) : lastAt (l ++ [t]) = t.at_ := by simp [lastAt]
theorem lastAt_le {Rt : List Tm} (hs : Rt.Pairwise fun a b => a.at_ ≤ b.at_) {j : Nat} {r : Tm} (h : Rt[j]? = some r) : lastAt (Rt.take j) ≤ r.at_ := by
  cases j with
  | zero => simp [lastAt]
  | succ j =>
    obtain ⟨h1, rfl⟩ := List.getElem?_eq_some_iff.1 h
    rw [List.take_add_one, List.getElem?_eq_getElem (by omega), Option.toList_some, lastAt_snoc]
    rw [List.pairwise_iff_getElem] at hs
    exact hs j (j + 1) (by omega) h1 (by omega)
end Go.Proofs.Ytnnkchgkebcblaa
