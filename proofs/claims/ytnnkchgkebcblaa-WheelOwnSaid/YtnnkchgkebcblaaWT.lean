/- The timers that are set, as one list in the order of their Sets: what the rows and the map are of it; Stop and Set. Plain. -/
import Derived.Test.YtnnkchgkebcblaaWSet
namespace Go.Proofs.Ytnnkchgkebcblaa
set_option linter.unusedVariables false
set_option linter.unusedSimpArgs false
open Go.RowKit
def plT (t : Tm) (now : Nat) : Pl := if t.nev then ⟨0, 0, true⟩ else plOf t.at_ now
def inRow (now k : Nat) (t : Tm) : Bool := !t.nev && ix t.at_ now == k
structure TInv (now sets : Nat) (T : List Tm) (R : Nat → List Tm) (m : Int → Option Pl) (N : Nat) : Prop where
  top : now ≤ 281474976710655
  ids : T.Pairwise fun a b => a.id ≠ b.id
  ords : T.Pairwise fun a b => a.ord < b.ord
  le : ∀ t ∈ T, t.ord ≤ sets
  wf : ∀ t ∈ T, (key t.id).wf = true
  live : ∀ t ∈ T, t.nev = false → now < t.at_ ∧ t.at_ ≤ 281474976710655
  nev : ∀ t ∈ T, t.nev = true → now = 281474976710655
  rows : ∀ k, (R k).Perm (T.filter (inRow now k))
  map : ∀ t ∈ T, m t.id = some (plT t now)
  only : ∀ i p, m i = some p → ∃ t ∈ T, t.id = i
  cnt : N = T.length
theorem id_inj : ∀ {T : List Tm}, T.Pairwise (fun a b => a.id ≠ b.id) → ∀ {t u : Tm}, t ∈ T → u ∈ T → t.id = u.id → t = u
  | [], _, t, u, h, _, _ => by cases h
  | x :: T, hp, t, u, ht, hu, e => by
    obtain ⟨h1, h2⟩ := List.pairwise_cons.1 hp
    rcases List.mem_cons.1 ht with rfl | ht
    · rcases List.mem_cons.1 hu with rfl | hu
      · rfl
      · exact absurd e (h1 u hu)
    · rcases List.mem_cons.1 hu with hux | hu
      · exact absurd e.symm (by rw [hux]; exact h1 t ht)
      · exact id_inj h2 ht hu e
theorem without_len : ∀ {T : List Tm}, T.Pairwise (fun a b => a.id ≠ b.id) → ∀ {t : Tm}, t ∈ T → (without T t.id).length + 1 = T.length
  | [], _, t, h => by cases h
  | x :: T, hp, t, ht => by
    obtain ⟨h1, h2⟩ := List.pairwise_cons.1 hp
    unfold without
    rcases List.mem_cons.1 ht with rfl | ht
    · rw [List.filter_cons_of_neg (by simp), List.filter_eq_self.2 (fun u hu => by simpa using fun e => h1 u hu e.symm)]
      rfl
    · rw [List.filter_cons_of_pos (by simpa using h1 t ht)]
      have := without_len h2 ht
      unfold without at this
      simp only [List.length_cons]
      omega
theorem without_none {T : List Tm} {i : Int} (h : ∀ t ∈ T, t.id ≠ i) : without T i = T := by
  unfold without
  rw [List.filter_eq_self]
  intro t ht
  simpa using h t ht
theorem filter_without {T : List Tm} {i : Int} {f : Tm → Bool} : (without T i).filter f = without (T.filter f) i := by
  unfold without
  rw [List.filter_filter, List.filter_filter]
  apply List.filter_congr
  intro t _
  exact Bool.and_comm _ _
section
variable {now sets : Nat} {T : List Tm} {R : Nat → List Tm} {m : Int → Option Pl} {N : Nat}
theorem TInv.has (h : TInv now sets T R m N) (i : Int) : (m i).isSome = true ↔ ∃ t ∈ T, t.id = i := by
  constructor
  · intro hs
    obtain ⟨p, hp⟩ := Option.isSome_iff_exists.1 hs
    exact h.only i p hp
  · rintro ⟨t, ht, rfl⟩
    rw [h.map t ht]
    rfl
theorem TInv.plOk (h : TInv now sets T R m N) {i : Int} {p : Pl} (hp : m i = some p) : PlOk p := by
  obtain ⟨t, ht, rfl⟩ := h.only i p hp
  rw [h.map t ht] at hp
  injection hp with hp
  subst hp
  unfold plT
  split
  · exact ⟨by decide, by decide⟩
  · exact ⟨lvl_lt _ _, dg_lt _ _⟩
theorem TInv.rowLen (h : TInv now sets T R m N) (k : Nat) : (R k).length ≤ T.length := by
  rw [(h.rows k).length_eq]
  exact List.length_filter_le _ _
theorem TInv.stop (h : TInv now sets T R m N) (i : Int) : TInv now sets (without T i) (rowsStop R m i) (mapStop m i) (cntd m i N) := by
  have hsub : (without T i).Sublist T := List.filter_sublist
  have mem : ∀ t, t ∈ without T i → t ∈ T ∧ t.id ≠ i := fun t ht => by
    obtain ⟨h1, h2⟩ := List.mem_filter.1 ht
    exact ⟨h1, by simpa using h2⟩
  cases hm : m i with
  | none =>
    have hno : ∀ t ∈ T, t.id ≠ i := fun t ht e => by
      have := h.map t ht
      rw [e, hm] at this
      cases this
    rw [without_none hno]
    unfold rowsStop mapStop cntd
    rw [hm]
    exact h
  | some p =>
    obtain ⟨t, ht, rfl⟩ := h.only i p hm
    have hp : p = plT t now := by
      rw [h.map t ht] at hm
      injection hm with hm
      exact hm.symm
    have hmap : mapStop m t.id = mdel m t.id := by unfold mapStop; rw [hm]
    have hrow : rowsStop R m t.id = rowsDel R p t.id := by unfold rowsStop; rw [hm]
    have hcnt : cntd m t.id N = N - 1 := by unfold cntd; rw [hm]; rfl
    rw [hmap, hrow, hcnt]
    refine ⟨h.top, h.ids.sublist hsub, h.ords.sublist hsub, fun u hu => h.le u (mem u hu).1, fun u hu => h.wf u (mem u hu).1, fun u hu => h.live u (mem u hu).1, fun u hu => h.nev u (mem u hu).1, fun k => ?_, fun u hu => ?_, fun j q hq => ?_, ?_⟩
    · rw [filter_without]
      have other : inRow now k t = false → without (T.filter (inRow now k)) t.id = T.filter (inRow now k) := fun hk => without_none fun u hu e => by
        obtain ⟨h1, h2⟩ := List.mem_filter.1 hu
        rw [id_inj h.ids h1 ht e, hk] at h2
        cases h2
      unfold rowsDel
      cases hn : t.nev with
      | true =>
        rw [hp, plT, if_pos hn, if_pos rfl, other (by unfold inRow; rw [hn]; rfl)]
        exact h.rows k
      | false =>
        have hpv : p = plOf t.at_ now := by rw [hp]; unfold plT; rw [hn]; rfl
        subst hpv
        show (upd R (ix t.at_ now) (without (R (ix t.at_ now)) t.id) k).Perm _
        unfold upd
        by_cases hk : k = ix t.at_ now
        · subst hk
          rw [if_pos rfl]
          exact (h.rows _).filter _
        · rw [if_neg hk, other (by unfold inRow; rw [hn]; simpa using fun e => hk e.symm)]
          exact h.rows k
    · obtain ⟨h1, h2⟩ := mem u hu
      unfold mdel
      rw [if_neg h2]
      exact h.map u h1
    · unfold mdel at hq
      split at hq
      · cases hq
      · rename_i hj
        obtain ⟨u, hu, rfl⟩ := h.only j q hq
        exact ⟨u, List.mem_filter.2 ⟨hu, by simpa using hj⟩, rfl⟩
    · have := without_len h.ids ht
      rw [h.cnt]
      omega
end
end Go.Proofs.Ytnnkchgkebcblaa
