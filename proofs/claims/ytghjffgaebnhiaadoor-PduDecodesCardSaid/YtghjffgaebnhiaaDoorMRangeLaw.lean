/- RangeLaw, LeastLaw: joined. -/
import Derived.Test.YtghjffgaebnhiaaDoorMElR
section
/- Lists of ranges in least form: there is one for a set of numbers; merging a sorted list gives it. Plain Lean. -/
namespace Go.Proofs.YtghjffgaebnhiaaDoor
set_option linter.unusedVariables false
set_option linter.unusedSimpArgs false
/-- a number is in a list of ranges. -/
def Mem (x : Int) (l : List (Int × Int)) : Prop := ∃ g ∈ l, g.1 ≤ x ∧ x < g.2
def Canon (l : List (Int × Int)) : Prop := (∀ g ∈ l, g.1 < g.2) ∧ l.Pairwise fun a b => a.2 < b.1
theorem Mem.app {x : Int} {l m : List (Int × Int)} : Mem x (l ++ m) ↔ Mem x l ∨ Mem x m := by
  constructor
  · rintro ⟨g, hg, h⟩
    rcases List.mem_append.1 hg with h1 | h1
    · exact .inl ⟨g, h1, h⟩
    · exact .inr ⟨g, h1, h⟩
  · rintro (⟨g, hg, h⟩ | ⟨g, hg, h⟩)
    · exact ⟨g, List.mem_append.2 (.inl hg), h⟩
    · exact ⟨g, List.mem_append.2 (.inr hg), h⟩
theorem Mem.one {x : Int} {g : Int × Int} : Mem x [g] ↔ g.1 ≤ x ∧ x < g.2 := by
  constructor
  · rintro ⟨h, hh, h1⟩
    simp at hh; subst hh; exact h1
  · intro h
    exact ⟨g, by simp, h⟩
theorem Mem.cons {x : Int} {g : Int × Int} {l : List (Int × Int)} : Mem x (g :: l) ↔ (g.1 ≤ x ∧ x < g.2) ∨ Mem x l := by
  rw [show g :: l = [g] ++ l from rfl, Mem.app, Mem.one]
theorem canon_cons {g : Int × Int} {l : List (Int × Int)} (h : Canon (g :: l)) : g.1 < g.2 ∧ Canon l ∧ ∀ x, Mem x l → g.2 < x := by
  refine ⟨h.1 g (by simp), ⟨fun k hk => h.1 k (by simp [hk]), (List.pairwise_cons.1 h.2).2⟩, fun x hx => ?_⟩
  obtain ⟨k, hk, h1, _⟩ := hx
  have := (List.pairwise_cons.1 h.2).1 k hk
  omega
theorem canon_uniq : ∀ (l m : List (Int × Int)), Canon l → Canon m → (∀ x, Mem x l ↔ Mem x m) → l = m := by
  intro l
  induction l with
  | nil =>
    intro m _ hm h
    cases m with
    | nil => rfl
    | cons g m =>
      obtain ⟨k, hk, _⟩ := (h g.1).2 ⟨g, by simp, Int.le_refl _, (canon_cons hm).1⟩
      simp at hk
  | cons g l ih =>
    intro m hl hm h
    cases m with
    | nil =>
      obtain ⟨k, hk, _⟩ := (h g.1).1 ⟨g, by simp, Int.le_refl _, (canon_cons hl).1⟩
      simp at hk
    | cons k m =>
      obtain ⟨a1, a2, a3⟩ := canon_cons hl
      obtain ⟨b1, b2, b3⟩ := canon_cons hm
      have e1 : g.1 = k.1 := by
        have h1 := Mem.cons.1 ((h g.1).1 ⟨g, by simp, Int.le_refl _, a1⟩)
        have h2 := Mem.cons.1 ((h k.1).2 ⟨k, by simp, Int.le_refl _, b1⟩)
        rcases h1 with h1 | h1
        · rcases h2 with h2 | h2
          · omega
          · have := a3 _ h2; omega
        · have := b3 _ h1
          rcases h2 with h2 | h2
          · omega
          · have := a3 _ h2; omega
      have e2 : g.2 = k.2 := by
        rcases Int.lt_trichotomy g.2 k.2 with hlt | heq | hgt
        · have h1 := Mem.cons.1 ((h g.2).2 ⟨k, by simp, by omega, hlt⟩)
          rcases h1 with h1 | h1
          · omega
          · have := a3 _ h1; omega
        · exact heq
        · have h1 := Mem.cons.1 ((h k.2).1 ⟨g, by simp, by omega, hgt⟩)
          rcases h1 with h1 | h1
          · omega
          · have := b3 _ h1; omega
      have e : g = k := Prod.ext e1 e2
      subst e
      congr 1
      refine ih m a2 b2 fun x => ⟨fun hx => ?_, fun hx => ?_⟩
      · rcases Mem.cons.1 ((h x).1 (Mem.cons.2 (.inr hx))) with h1 | h1
        · have := a3 x hx; omega
        · exact h1
      · rcases Mem.cons.1 ((h x).2 (Mem.cons.2 (.inr hx))) with h1 | h1
        · have := b3 x hx; omega
        · exact h1
/-- one range more, behind a list whose last begins no later. -/
def pushR (out : List (Int × Int)) (g : Int × Int) : List (Int × Int) :=
  match out.getLast? with
  | none => [g]
  | some k => if g.1 ≤ k.2 then out.dropLast ++ [(k.1, max k.2 g.2)] else out ++ [g]
def mergeR (l : List (Int × Int)) : List (Int × Int) := l.foldl pushR []
theorem mergeR_snoc (l : List (Int × Int)) (g : Int × Int) : mergeR (l ++ [g]) = pushR (mergeR l) g := by simp [mergeR]
theorem push_inv {l out : List (Int × Int)} {g : Int × Int} (hg : g.1 < g.2) (hs : ∀ p ∈ l, p.1 ≤ g.1) (hc : Canon out) (hm : ∀ x, Mem x out ↔ Mem x l) (hf : ∀ k ∈ out, ∃ p ∈ l, k.1 = p.1) :
    Canon (pushR out g) ∧ (∀ x, Mem x (pushR out g) ↔ Mem x (l ++ [g])) ∧ ∀ k ∈ pushR out g, ∃ p ∈ l ++ [g], k.1 = p.1 := by
  unfold pushR
  cases he : out.getLast? with
  | none =>
    have ho : out = [] := by simpa using he
    subst ho
    refine ⟨⟨fun k hk => by simp at hk; subst hk; exact hg, by simp⟩, fun x => ?_, fun k hk => ⟨g, by simp, by simp at hk; rw [hk]⟩⟩
    rw [Mem.app, ← hm x]
    simp only [Mem.one]
    constructor
    · exact .inr
    · rintro (⟨_, h, _⟩ | h)
      · simp at h
      · exact h
  | some k =>
    obtain ⟨init, rfl⟩ : ∃ init, out = init ++ [k] := by
      have := List.getLast?_eq_some_iff.1 he
      exact this
    have hk1 : k.1 < k.2 := hc.1 k (by simp)
    have hkg : k.1 ≤ g.1 := by
      obtain ⟨p, hp, e⟩ := hf k (by simp)
      rw [e]; exact hs p hp
    have hpw := List.pairwise_append.1 hc.2
    have hin : ∀ h ∈ init, h.2 < k.1 := fun h hh => hpw.2.2 h hh k (by simp)
    simp only
    by_cases hle : g.1 ≤ k.2
    · rw [if_pos hle, List.dropLast_concat]
      refine ⟨⟨fun h hh => ?_, ?_⟩, fun x => ?_, fun h hh => ?_⟩
      · rcases List.mem_append.1 hh with h1 | h1
        · exact hc.1 h (by simp [h1])
        · simp at h1; subst h1; simp only; omega
      · rw [List.pairwise_append]
        refine ⟨hpw.1, by simp, fun a ha b hb => ?_⟩
        simp at hb; subst hb
        exact hin a ha
      · rw [Mem.app, Mem.app, ← hm x, Mem.app]
        simp only [Mem.one]
        have : (k.1 ≤ x ∧ x < max k.2 g.2) ↔ (k.1 ≤ x ∧ x < k.2) ∨ (g.1 ≤ x ∧ x < g.2) := by omega
        rw [this, or_assoc]
      · rcases List.mem_append.1 hh with h1 | h1
        · obtain ⟨p, hp, e⟩ := hf h (by simp [h1])
          exact ⟨p, by simp [hp], e⟩
        · simp at h1; subst h1
          obtain ⟨p, hp, e⟩ := hf k (by simp)
          exact ⟨p, by simp [hp], e⟩
    · rw [if_neg hle]
      refine ⟨⟨fun h hh => ?_, ?_⟩, fun x => ?_, fun h hh => ?_⟩
      · rcases List.mem_append.1 hh with h1 | h1
        · exact hc.1 h h1
        · simp at h1; subst h1; exact hg
      · rw [List.pairwise_append]
        refine ⟨hc.2, by simp, fun a ha b hb => ?_⟩
        simp at hb; subst hb
        rcases List.mem_append.1 ha with h1 | h1
        · have := hin a h1; omega
        · simp at h1; subst h1; omega
      · rw [Mem.app (l := l), Mem.app (m := [g]), ← hm x]
      · rcases List.mem_append.1 hh with h1 | h1
        · obtain ⟨p, hp, e⟩ := hf h h1
          exact ⟨p, by simp [hp], e⟩
        · simp at h1; subst h1
          exact ⟨h, by simp, rfl⟩
theorem merge_inv : ∀ (n : Nat) (l : List (Int × Int)), l.length = n → (∀ g ∈ l, g.1 < g.2) → l.Pairwise (fun a b => a.1 ≤ b.1) → Canon (mergeR l) ∧ (∀ x, Mem x (mergeR l) ↔ Mem x l) ∧ ∀ k ∈ mergeR l, ∃ p ∈ l, k.1 = p.1 := by
  intro n
  induction n with
  | zero =>
    intro l hl _ _
    obtain rfl : l = [] := List.length_eq_zero_iff.1 hl
    exact ⟨⟨by simp [mergeR], by simp [mergeR]⟩, fun x => Iff.rfl, by simp [mergeR]⟩
  | succ n ih =>
    intro l hl hg hs
    obtain ⟨init, g, rfl⟩ : ∃ init g, l = init ++ [g] := by
      have hne : l ≠ [] := by intro h; rw [h] at hl; simp at hl
      exact ⟨l.dropLast, l.getLast hne, (List.dropLast_concat_getLast hne).symm⟩
    have hpw := List.pairwise_append.1 hs
    obtain ⟨h1, h2, h3⟩ := ih init (by simpa using hl) (fun k hk => hg k (by simp [hk])) hpw.1
    rw [mergeR_snoc]
    exact push_inv (hg g (by simp)) (fun p hp => hpw.2.2 p hp g (by simp)) h1 h2 h3
theorem mergeR_len (l : List (Int × Int)) : (mergeR l).length ≤ l.length := by
  induction h : l.length generalizing l with
  | zero => obtain rfl : l = [] := List.length_eq_zero_iff.1 h; simp [mergeR]
  | succ n ih =>
    obtain ⟨init, g, rfl⟩ : ∃ init g, l = init ++ [g] := by
      have hne : l ≠ [] := by intro e; rw [e] at h; simp at h
      exact ⟨l.dropLast, l.getLast hne, (List.dropLast_concat_getLast hne).symm⟩
    have := ih init (by simpa using h)
    rw [mergeR_snoc]
    unfold pushR
    split
    · simp
    · split <;> simp <;> omega
end Go.Proofs.YtghjffgaebnhiaaDoor
end
section
/- The least form of a list of ranges. Plain Lean. -/
namespace Go.Proofs.YtghjffgaebnhiaaDoor
set_option linter.unusedVariables false
set_option linter.unusedSimpArgs false
def full (l : List (Int × Int)) : List (Int × Int) := l.filter fun g => decide (g.1 < g.2)
def leastR (l : List (Int × Int)) : List (Int × Int) := mergeR ((full l).mergeSort fun a b => decide (a.1 ≤ b.1))
theorem mem_full {x : Int} {l : List (Int × Int)} : Mem x (full l) ↔ Mem x l := by
  constructor
  · rintro ⟨g, hg, h⟩
    exact ⟨g, (List.mem_filter.1 hg).1, h⟩
  · rintro ⟨g, hg, h⟩
    exact ⟨g, List.mem_filter.2 ⟨hg, by simp; omega⟩, h⟩
theorem full_lt {l : List (Int × Int)} : ∀ g ∈ full l, g.1 < g.2 := fun g hg => by simpa using (List.mem_filter.1 hg).2
theorem mem_perm {x : Int} {l m : List (Int × Int)} (h : l.Perm m) : Mem x l ↔ Mem x m := by
  constructor
  · rintro ⟨g, hg, h1⟩
    exact ⟨g, h.mem_iff.1 hg, h1⟩
  · rintro ⟨g, hg, h1⟩
    exact ⟨g, h.mem_iff.2 hg, h1⟩
theorem mergeSort_sorted (l : List (Int × Int)) : (l.mergeSort fun a b => decide (a.1 ≤ b.1)).Pairwise fun a b => a.1 ≤ b.1 := by
  have := List.pairwise_mergeSort (le := fun (a b : Int × Int) => decide (a.1 ≤ b.1)) (fun a b c h1 h2 => by simp at *; omega) (fun a b => by simp; omega) l
  exact this.imp fun h => by simpa using h
theorem leastR_canon (l : List (Int × Int)) : Canon (leastR l) ∧ ∀ x, Mem x (leastR l) ↔ Mem x l := by
  obtain ⟨h1, h2, _⟩ := merge_inv _ ((full l).mergeSort fun a b => decide (a.1 ≤ b.1)) rfl (fun g hg => full_lt g ((List.mergeSort_perm _ _).mem_iff.1 hg)) (mergeSort_sorted _)
  refine ⟨h1, fun x => ?_⟩
  unfold leastR
  rw [h2 x, mem_perm (List.mergeSort_perm _ _), mem_full]
theorem least_uniq {l m : List (Int × Int)} (hc : Canon m) (hm : ∀ x, Mem x m ↔ Mem x l) : leastR l = m :=
  canon_uniq _ _ (leastR_canon l).1 hc fun x => ((leastR_canon l).2 x).trans (hm x).symm
/-- whichever sorted permutation is merged. -/
theorem merge_least {l d : List (Int × Int)} (hp : d.Perm (full l)) (hs : d.Pairwise fun a b => a.1 ≤ b.1) : mergeR d = leastR l := by
  obtain ⟨h1, h2, _⟩ := merge_inv _ d rfl (fun g hg => full_lt g (hp.mem_iff.1 hg)) hs
  exact (least_uniq h1 fun x => by rw [h2 x, mem_perm hp, mem_full]).symm
theorem leastR_len (l : List (Int × Int)) : (leastR l).length ≤ l.length := by
  have h1 := mergeR_len ((full l).mergeSort fun a b => decide (a.1 ≤ b.1))
  rw [List.length_mergeSort] at h1
  exact Nat.le_trans h1 (List.length_filter_le _ _)
theorem full_take_succ (l : List (Int × Int)) (k : Nat) (h : k < l.length) : full (l.take (k + 1)) = full (l.take k) ++ if l[k].1 < l[k].2 then [l[k]] else [] := by
  unfold full
  rw [List.take_succ_eq_append_getElem h, List.filter_append]
  congr 1
  by_cases hc : l[k].1 < l[k].2 <;> simp [hc]
theorem merge_take_succ (l : List (Int × Int)) (k : Nat) (h : k < l.length) : mergeR (l.take (k + 1)) = pushR (mergeR (l.take k)) l[k] := by
  rw [List.take_succ_eq_append_getElem h, mergeR_snoc]
end Go.Proofs.YtghjffgaebnhiaaDoor
end
