/- Set, on the list of timers. Plain. -/
import Derived.Test.YtnnkchgkebcblaaWT
namespace Go.Proofs.Ytnnkchgkebcblaa
set_option linter.unusedVariables false
set_option linter.unusedSimpArgs false
open Go.RowKit
section
variable {now sets : Nat} {T : List Tm} {R : Nat → List Tm} {m : Int → Option Pl} {N : Nat}
theorem mapStop_none (m : Int → Option Pl) (i : Int) : mapStop m i i = none := by
  unfold mapStop
  cases hm : m i with
  | none => exact hm
  | some p => simp [mdel]
theorem cnt_stop (m : Int → Option Pl) (i : Int) (N : Nat) : cnt (mapStop m i) i N = N + 1 := by
  unfold cnt
  rw [mapStop_none]
  rfl
theorem TInv.snoc (h : TInv now sets T R m N) {t : Tm} (hno : ∀ u ∈ T, u.id ≠ t.id) (ho : t.ord = sets + 1) (hw : (key t.id).wf = true) (hl : t.nev = false → now < t.at_ ∧ t.at_ ≤ 281474976710655) (hv : t.nev = true → now = 281474976710655)
    {R' : Nat → List Tm} (hR : ∀ k, R' k = if inRow now k t = true then R k ++ [t] else R k) : TInv now (sets + 1) (T ++ [t]) R' (mput m t.id (plT t now)) (N + 1) := by
  have mem : ∀ u, u ∈ T ++ [t] → u ∈ T ∨ u = t := fun u hu => by
    rcases List.mem_append.1 hu with hu | hu
    · exact .inl hu
    · exact .inr (by simpa using hu)
  refine ⟨h.top, ?_, ?_, fun u hu => ?_, fun u hu => ?_, fun u hu => ?_, fun u hu => ?_, fun k => ?_, fun u hu => ?_, fun j q hq => ?_, by rw [h.cnt]; simp⟩
  · refine List.pairwise_append.2 ⟨h.ids, List.pairwise_singleton _ _, fun a ha b hb => ?_⟩
    rw [show b = t by simpa using hb]
    exact hno a ha
  · refine List.pairwise_append.2 ⟨h.ords, List.pairwise_singleton _ _, fun a ha b hb => ?_⟩
    rw [show b = t by simpa using hb, ho]
    exact Nat.lt_succ_of_le (h.le a ha)
  · rcases mem u hu with hu | rfl
    · exact Nat.le_succ_of_le (h.le u hu)
    · exact Nat.le_of_eq ho
  · rcases mem u hu with hu | rfl
    · exact h.wf u hu
    · exact hw
  · rcases mem u hu with hu | rfl
    · exact h.live u hu
    · exact hl
  · rcases mem u hu with hu | rfl
    · exact h.nev u hu
    · exact hv
  · rw [hR, List.filter_append]
    cases hk : inRow now k t with
    | true =>
      rw [if_pos rfl, List.filter_cons_of_pos hk]
      exact (h.rows k).append_right _
    | false =>
      rw [if_neg (by decide), List.filter_cons_of_neg (by rw [hk]; decide), List.filter_nil, List.append_nil]
      exact h.rows k
  · unfold mput
    rcases mem u hu with hu | rfl
    · rw [if_neg (hno u hu)]
      exact h.map u hu
    · rw [if_pos rfl]
  · unfold mput at hq
    split at hq
    · rename_i e
      exact ⟨t, by simp, e.symm⟩
    · obtain ⟨u, hu, e⟩ := h.only j q hq
      exact ⟨u, by simp [hu], e⟩
theorem without_no (T : List Tm) (i : Int) : ∀ u ∈ without T i, u.id ≠ i := fun u hu => by simpa using (List.mem_filter.1 hu).2
theorem TInv.setMax (h : TInv 281474976710655 sets T R m N) (i : Int) (x : Nat) (hw : (key i).wf = true) :
    TInv 281474976710655 (sets + 1) (without T i ++ [⟨i, atOf x 281474976710655, sets + 1, true⟩]) (rowsStop R m i) (mput (mapStop m i) i ⟨0, 0, true⟩) (Go.Proofs.Ytnnkchgkebcblaa.cnt (mapStop m i) i (cntd m i N)) := by
  rw [cnt_stop]
  exact (h.stop i).snoc (t := ⟨i, atOf x 281474976710655, sets + 1, true⟩) (without_no T i) rfl hw (fun e => by cases e) (fun _ => rfl) (fun k => by rw [if_neg (by unfold inRow; simp)])
theorem TInv.setLt (h : TInv now sets T R m N) (i : Int) (x : Nat) (hw : (key i).wf = true) (hn : now < 281474976710655) :
    TInv now (sets + 1) (without T i ++ [⟨i, atOf x now, sets + 1, false⟩]) (upd (rowsStop R m i) (ix (atOf x now) now) (rowsStop R m i (ix (atOf x now) now) ++ [⟨i, atOf x now, sets + 1, false⟩])) (mput (mapStop m i) i (plOf (atOf x now) now)) (Go.Proofs.Ytnnkchgkebcblaa.cnt (mapStop m i) i (cntd m i N)) := by
  rw [cnt_stop]
  refine (h.stop i).snoc (t := ⟨i, atOf x now, sets + 1, false⟩) (without_no T i) rfl hw (fun _ => ?_) (fun e => by cases e) (fun k => ?_)
  · show now < atOf x now ∧ atOf x now ≤ 281474976710655
    unfold atOf
    omega
  · unfold upd inRow
    by_cases hk : k = ix (atOf x now) now
    · subst hk
      rw [if_pos rfl, if_pos (by simp)]
    · rw [if_neg hk, if_neg (by simpa using fun e => hk e.symm)]
/-- a wheel that was just made. -/
theorem TInv.made (n : Nat) (hn : n ≤ 281474976710655) : TInv n 0 [] (fun _ => []) (fun _ => none) 0 :=
  { top := hn, ids := List.Pairwise.nil, ords := List.Pairwise.nil, cnt := rfl, rows := fun k => List.Perm.refl _
    le := fun t h => (by cases h), wf := fun t h => (by cases h), live := fun t h => (by cases h), nev := fun t h => (by cases h), map := fun t h => (by cases h), only := fun i p h => (by cases h) }
end
end Go.Proofs.Ytnnkchgkebcblaa
