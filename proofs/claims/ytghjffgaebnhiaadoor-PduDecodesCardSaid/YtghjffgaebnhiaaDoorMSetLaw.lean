/- SetLaw, SetLaw2: joined. -/
import Derived.Test.YtghjffgaebnhiaaDoorMRangeLaw
section
/- Plain law: what is missing of a list of ranges, how many numbers it has; the reference's ways to the same lists. -/
namespace Go.Proofs.YtghjffgaebnhiaaDoor
set_option linter.unusedVariables false
set_option linter.unusedSimpArgs false
def missStep (n : Int) (st : List (Int × Int) × Int) (g : Int × Int) : List (Int × Int) × Int :=
  (if st.2 < min g.1 n then st.1 ++ [(st.2, min g.1 n)] else st.1, max st.2 g.2)
def missIn (n : Int) (L : List (Int × Int)) : List (Int × Int) × Int := L.foldl (missStep n) ([], 0)
def missR (L : List (Int × Int)) (n : Int) : List (Int × Int) := if (missIn n L).2 < n then (missIn n L).1 ++ [((missIn n L).2, n)] else (missIn n L).1
theorem missIn_snoc (n : Int) (L : List (Int × Int)) (g : Int × Int) : missIn n (L ++ [g]) = missStep n (missIn n L) g := by simp [missIn]
theorem canon_snoc {out : List (Int × Int)} {a b : Int} (h : Canon out) (hab : a < b) (hl : ∀ g ∈ out, g.2 < a) : Canon (out ++ [(a, b)]) := by
  refine ⟨fun g hg => ?_, ?_⟩
  · rcases List.mem_append.1 hg with h1 | h1
    · exact h.1 g h1
    · simp at h1; subst h1; exact hab
  · rw [List.pairwise_append]
    refine ⟨h.2, by simp, fun g hg k hk => ?_⟩
    simp at hk; subst hk
    exact hl g hg
theorem canon_nil : Canon ([] : List (Int × Int)) := ⟨by simp, by simp⟩
theorem mem_nil (x : Int) : ¬ Mem x [] := by rintro ⟨g, hg, _⟩; simp at hg
structure MissI (n : Int) (p : List (Int × Int)) (out : List (Int × Int)) (at_ : Int) : Prop where
  lo : 0 ≤ at_
  past : ∀ g ∈ p, g.2 ≤ at_
  is : at_ = 0 ∨ ∃ g ∈ p, at_ = g.2
  canon : Canon out
  ends : ∀ g ∈ out, g.2 < at_
  mem : ∀ x, Mem x out ↔ 0 ≤ x ∧ x < at_ ∧ x < n ∧ ¬ Mem x p
theorem miss_inv (n : Int) : ∀ (N : Nat) (L : List (Int × Int)), L.length = N → Canon L → MissI n L (missIn n L).1 (missIn n L).2 := by
  intro N
  induction N with
  | zero =>
    intro L hl _
    obtain rfl : L = [] := List.length_eq_zero_iff.1 hl
    refine ⟨Int.le_refl _, by simp, .inl rfl, canon_nil, by simp [missIn], fun x => ?_⟩
    constructor
    · intro h; exact absurd h (mem_nil x)
    · rintro ⟨h0, h1, _⟩
      have : x < 0 := h1
      omega
  | succ N ih =>
    intro L hl hc
    obtain ⟨p, g, rfl⟩ : ∃ p g, L = p ++ [g] := by
      have hne : L ≠ [] := by intro h; rw [h] at hl; simp at hl
      exact ⟨L.dropLast, L.getLast hne, (List.dropLast_concat_getLast hne).symm⟩
    have hpw := List.pairwise_append.1 hc.2
    have hp : Canon p := ⟨fun k hk => hc.1 k (by simp [hk]), hpw.1⟩
    have hg := hc.1 g (by simp)
    have hlt : ∀ k ∈ p, k.2 < g.1 := fun k hk => hpw.2.2 k hk g (by simp)
    have I := ih p (by simpa using hl) hp
    rw [missIn_snoc]
    obtain ⟨out, a, ho⟩ : ∃ out a, missIn n p = (out, a) := ⟨_, _, rfl⟩
    rw [ho] at I ⊢
    have hag : a = 0 ∨ a < g.1 := by
      rcases I.is with h | ⟨k, hk, h⟩
      · exact .inl h
      · right; have h' : a = k.2 := h; have := hlt k hk; omega
    have ha : 0 ≤ a := I.lo
    have hpast : ∀ x, a ≤ x → ¬ Mem x p := fun x hx ⟨k, hk, h1, h2⟩ => by
      have h3 : k.2 ≤ a := I.past k hk
      omega
    have hmem : ∀ x, Mem x out ↔ 0 ≤ x ∧ x < a ∧ x < n ∧ ¬ Mem x p := I.mem
    have hends : ∀ k ∈ out, k.2 < a := I.ends
    unfold missStep
    simp only
    refine ⟨by show 0 ≤ max a g.2; omega, fun k hk => ?_, ?_, ?_, fun k hk => ?_, fun x => ?_⟩
    · show k.2 ≤ max a g.2
      rcases List.mem_append.1 hk with h | h
      · have : k.2 ≤ a := I.past k h; omega
      · simp at h; subst h; omega
    · show max a g.2 = 0 ∨ ∃ k ∈ p ++ [g], max a g.2 = k.2
      by_cases h : a < g.2
      · exact .inr ⟨g, by simp, by omega⟩
      · rcases hag with h0 | h0
        · left; omega
        · omega
    · show Canon (if a < min g.1 n then _ else _)
      split
      · next h => exact canon_snoc I.canon h hends
      · exact I.canon
    · show k.2 < max a g.2
      have hk : k ∈ (if a < min g.1 n then out ++ [(a, min g.1 n)] else out) := hk
      split at hk
      · next h =>
        rcases List.mem_append.1 hk with h1 | h1
        · have := hends k h1; omega
        · simp at h1; subst h1; simp only; omega
      · have := hends k hk; omega
    · show Mem x (if a < min g.1 n then out ++ [(a, min g.1 n)] else out) ↔ 0 ≤ x ∧ x < max a g.2 ∧ x < n ∧ ¬ Mem x (p ++ [g])
      rw [Mem.app, Mem.one]
      by_cases h : a < min g.1 n
      · rw [if_pos h, Mem.app, Mem.one, hmem x]
        simp only
        by_cases hxa : x < a
        · constructor
          · rintro (⟨b1, b2, b3, b4⟩ | ⟨b1, b2⟩)
            · exact ⟨b1, by omega, b3, fun hh => hh.elim b4 (fun h5 => by omega)⟩
            · omega
          · rintro ⟨b1, b2, b3, b4⟩
            exact .inl ⟨b1, hxa, b3, fun hh => b4 (.inl hh)⟩
        · have hnp := hpast x (by omega)
          constructor
          · rintro (⟨b1, b2, b3, b4⟩ | ⟨b1, b2⟩)
            · omega
            · exact ⟨by omega, by omega, by omega, fun hh => hh.elim hnp (fun h5 => by omega)⟩
          · rintro ⟨b1, b2, b3, b4⟩
            refine .inr ⟨by omega, ?_⟩
            have : ¬ (g.1 ≤ x ∧ x < g.2) := fun hh => b4 (.inr hh)
            omega
      · rw [if_neg h, hmem x]
        constructor
        · rintro ⟨b1, b2, b3, b4⟩
          refine ⟨b1, by omega, b3, fun hh => hh.elim b4 (fun h5 => ?_)⟩
          rcases hag with h0 | h0
          · omega
          · omega
        · rintro ⟨b1, b2, b3, b4⟩
          have hng : ¬ (g.1 ≤ x ∧ x < g.2) := fun hh => b4 (.inr hh)
          refine ⟨b1, ?_, b3, fun hh => b4 (.inl hh)⟩
          rcases hag with h0 | h0
          · omega
          · omega
theorem miss_law {L : List (Int × Int)} (hc : Canon L) (n : Int) : Canon (missR L n) ∧ ∀ x, Mem x (missR L n) ↔ 0 ≤ x ∧ x < n ∧ ¬ Mem x L := by
  have I := miss_inv n _ L rfl hc
  obtain ⟨out, a, ho⟩ : ∃ out a, missIn n L = (out, a) := ⟨_, _, rfl⟩
  unfold missR
  rw [ho] at I ⊢
  have hmem : ∀ x, Mem x out ↔ 0 ≤ x ∧ x < a ∧ x < n ∧ ¬ Mem x L := I.mem
  have ha : 0 ≤ a := I.lo
  have hpast : ∀ x, a ≤ x → ¬ Mem x L := fun x hx ⟨k, hk, h1, h2⟩ => by
    have h3 : k.2 ≤ a := I.past k hk
    omega
  simp only
  by_cases h : a < n
  · rw [if_pos h]
    refine ⟨canon_snoc I.canon h I.ends, fun x => ?_⟩
    rw [Mem.app, Mem.one, hmem x]
    simp only
    by_cases hxa : x < a
    · constructor
      · rintro (⟨b1, b2, b3, b4⟩ | ⟨b1, b2⟩)
        · exact ⟨b1, b3, b4⟩
        · omega
      · rintro ⟨b1, b3, b4⟩
        exact .inl ⟨b1, hxa, b3, b4⟩
    · have hnp := hpast x (by omega)
      constructor
      · rintro (⟨b1, b2, b3, b4⟩ | ⟨b1, b2⟩)
        · omega
        · exact ⟨by omega, b2, hnp⟩
      · rintro ⟨b1, b3, b4⟩
        exact .inr ⟨by omega, b3⟩
  · rw [if_neg h]
    refine ⟨I.canon, fun x => ?_⟩
    rw [hmem x]
    constructor
    · rintro ⟨b1, b2, b3, b4⟩; exact ⟨b1, b3, b4⟩
    · rintro ⟨b1, b3, b4⟩; exact ⟨b1, by omega, b3, b4⟩
/-- how many numbers. -/
def sumR (L : List (Int × Int)) : Int := (L.map fun g => g.2 - g.1).sum
theorem sumR_snoc (L : List (Int × Int)) (g : Int × Int) : sumR (L ++ [g]) = sumR L + (g.2 - g.1) := by simp [sumR]
theorem sumR_cons (L : List (Int × Int)) (g : Int × Int) : sumR (g :: L) = (g.2 - g.1) + sumR L := by simp [sumR]
theorem sumR_bound : ∀ (L : List (Int × Int)) (lo hi : Int), Canon L → (∀ g ∈ L, lo ≤ g.1 ∧ g.2 ≤ hi) → lo ≤ hi → 0 ≤ sumR L ∧ sumR L ≤ hi - lo := by
  intro L
  induction L with
  | nil => intro lo hi _ _ h; simp [sumR]; omega
  | cons g L ih =>
    intro lo hi hc hb h
    obtain ⟨h1, h2, h3⟩ := canon_cons hc
    have hg := hb g (by simp)
    have := ih g.2 hi h2 (fun k hk => ⟨by
      have := (List.pairwise_cons.1 hc.2).1 k hk
      omega, (hb k (by simp [hk])).2⟩) hg.2
    rw [sumR_cons]
    omega
theorem leastR_in {l : List (Int × Int)} {lo hi : Int} (h : ∀ g ∈ l, lo ≤ g.1 ∧ g.2 ≤ hi) : ∀ g ∈ leastR l, lo ≤ g.1 ∧ g.2 ≤ hi := by
  obtain ⟨hc, hm⟩ := leastR_canon l
  intro g hg
  have hlt := hc.1 g hg
  obtain ⟨k, hk, h1, h2⟩ := (hm g.1).1 ⟨g, hg, Int.le_refl _, hlt⟩
  obtain ⟨k', hk', h3, h4⟩ := (hm (g.2 - 1)).1 ⟨g, hg, by omega, by omega⟩
  have a := h k hk
  have b := h k' hk'
  omega
/-- the least number from a on that is there. -/
def NextIs (l : List (Int × Int)) (a : Int) (r : Option Int) : Prop :=
  match r with
  | none => ∀ x, a ≤ x → ¬ Mem x l
  | some y => a ≤ y ∧ Mem y l ∧ ∀ x, a ≤ x → x < y → ¬ Mem x l
def EndIs (l : List (Int × Int)) (a e : Int) : Prop := a < e ∧ (∀ x, a ≤ x → x < e → Mem x l) ∧ ¬ Mem e l
/-- the reference's Least on its way: all below b is told. -/
structure LeastI (l out : List (Int × Int)) (b : Int) : Prop where
  canon : Canon out
  ends : ∀ g ∈ out, g.2 ≤ b
  gap : out = [] ∨ ¬ Mem b l
  mem : ∀ x, Mem x out ↔ Mem x l ∧ x < b
theorem LeastI.step {l out : List (Int × Int)} {b f e : Int} (h : LeastI l out b) (hn : NextIs l b (some f)) (he : EndIs l f e) : LeastI l (out ++ [(f, e)]) e := by
  obtain ⟨n1, n2, n3⟩ := hn
  obtain ⟨e1, e2, e3⟩ := he
  refine ⟨canon_snoc h.canon e1 fun g hg => ?_, fun g hg => ?_, .inr e3, fun x => ?_⟩
  · have := h.ends g hg
    rcases h.gap with h0 | h0
    · rw [h0] at hg; simp at hg
    · by_cases hbf : b = f
      · subst hbf; exact absurd n2 h0
      · omega
  · rcases List.mem_append.1 hg with h1 | h1
    · have := h.ends g h1; omega
    · simp at h1; subst h1; exact Int.le_refl _
  · rw [Mem.app, Mem.one, h.mem x]
    simp only
    constructor
    · rintro (⟨h1, h2⟩ | ⟨h1, h2⟩)
      · exact ⟨h1, by omega⟩
      · exact ⟨e2 x h1 h2, h2⟩
    · rintro ⟨h1, h2⟩
      by_cases hb : x < b
      · exact .inl ⟨h1, hb⟩
      · refine .inr ⟨?_, h2⟩
        by_cases hf : x < f
        · exact absurd h1 (n3 x (by omega) hf)
        · omega
theorem LeastI.done {l out : List (Int × Int)} {b : Int} (h : LeastI l out b) (hn : NextIs l b none) : out = leastR l :=
  (least_uniq h.canon fun x => by
    rw [h.mem x]
    constructor
    · exact fun h => h.1
    · intro hx
      refine ⟨hx, ?_⟩
      by_cases hb : x < b
      · exact hb
      · exact absurd hx (hn x (by omega))).symm
/-- the reference's Missing on its way. -/
structure GapI (l out : List (Int × Int)) (a : Int) : Prop where
  lo : 0 ≤ a
  canon : Canon out
  ends : ∀ g ∈ out, g.2 < a
  mem : ∀ x, Mem x out ↔ 0 ≤ x ∧ x < a ∧ ¬ Mem x l
theorem GapI.start (l : List (Int × Int)) : GapI l [] 0 := ⟨Int.le_refl _, canon_nil, by simp, fun x => ⟨fun h => absurd h (mem_nil x), fun ⟨a, b, _⟩ => by omega⟩⟩
def gapTo (out : List (Int × Int)) (a f : Int) : List (Int × Int) := if a < f then out ++ [(a, f)] else out
theorem GapI.step {l out : List (Int × Int)} {a f e : Int} (h : GapI l out a) (hn : NextIs l a (some f)) (he : EndIs l f e) : GapI l (gapTo out a f) e := by
  obtain ⟨n1, n2, n3⟩ := hn
  obtain ⟨e1, e2, e3⟩ := he
  have h0 := h.lo
  unfold gapTo
  refine ⟨by omega, ?_, fun g hg => ?_, fun x => ?_⟩
  · split
    · next hh => exact canon_snoc h.canon hh h.ends
    · exact h.canon
  · split at hg
    · rcases List.mem_append.1 hg with h1 | h1
      · have := h.ends g h1; omega
      · simp at h1; subst h1; exact e1
    · have := h.ends g hg; omega
  · have hx : (Mem x out ∨ a ≤ x ∧ x < f) ↔ 0 ≤ x ∧ x < e ∧ ¬ Mem x l := by
      rw [h.mem x]
      constructor
      · rintro (⟨b1, b2, b3⟩ | ⟨b1, b2⟩)
        · exact ⟨b1, by omega, b3⟩
        · exact ⟨by omega, by omega, n3 x b1 b2⟩
      · rintro ⟨b1, b2, b3⟩
        by_cases hxa : x < a
        · exact .inl ⟨b1, hxa, b3⟩
        · refine .inr ⟨by omega, ?_⟩
          by_cases hf : x < f
          · exact hf
          · exact absurd (e2 x (by omega) b2) b3
    split
    · rw [Mem.app, Mem.one]; exact hx
    · next hh =>
      rw [← hx]
      constructor
      · exact .inl
      · rintro (h1 | ⟨h1, h2⟩)
        · exact h1
        · omega
/-- the end: nothing of the list lies from a to n. -/
theorem GapI.done {l out : List (Int × Int)} {a n : Int} (h : GapI l out a) (han : a ≤ n) (hn : ∀ x, a ≤ x → x < n → ¬ Mem x l) : gapTo out a n = missR (leastR l) n := by
  obtain ⟨c1, m1⟩ := miss_law (leastR_canon l).1 n
  have h0 := h.lo
  refine canon_uniq _ _ ?_ c1 fun x => ?_
  · unfold gapTo
    split
    · next hh => exact canon_snoc h.canon hh h.ends
    · exact h.canon
  · rw [m1 x, (leastR_canon l).2 x]
    have hx : (Mem x out ∨ a ≤ x ∧ x < n) ↔ 0 ≤ x ∧ x < n ∧ ¬ Mem x l := by
      rw [h.mem x]
      constructor
      · rintro (⟨b1, b2, b3⟩ | ⟨b1, b2⟩)
        · exact ⟨b1, by omega, b3⟩
        · exact ⟨by omega, by omega, hn x b1 b2⟩
      · rintro ⟨b1, b2, b3⟩
        by_cases hxa : x < a
        · exact .inl ⟨b1, hxa, b3⟩
        · exact .inr ⟨by omega, b2⟩
    unfold gapTo
    split
    · rw [Mem.app, Mem.one]; exact hx
    · next hh =>
      rw [← hx]
      constructor
      · exact .inl
      · rintro (h1 | ⟨h1, h2⟩)
        · exact h1
        · omega
/-- the end, where n was reached or passed. -/
theorem GapI.full {l out : List (Int × Int)} {a n : Int} (h : GapI l out a) (han : n ≤ a) (hsm : ∀ g ∈ out, g.2 ≤ n) : out = missR (leastR l) n := by
  obtain ⟨c1, m1⟩ := miss_law (leastR_canon l).1 n
  refine canon_uniq _ _ h.canon c1 fun x => ?_
  rw [m1 x, (leastR_canon l).2 x, h.mem x]
  constructor
  · rintro ⟨b1, b2, b3⟩
    refine ⟨b1, ?_, b3⟩
    obtain ⟨g, hg, h1, h2⟩ := (h.mem x).2 ⟨b1, b2, b3⟩
    have := hsm g hg
    omega
  · rintro ⟨b1, b2, b3⟩
    exact ⟨b1, by omega, b3⟩
end Go.Proofs.YtghjffgaebnhiaaDoor
end
section
/- Plain law: the reference's next and end, step by step. -/
namespace Go.Proofs.YtghjffgaebnhiaaDoor
set_option linter.unusedVariables false
set_option linter.unusedSimpArgs false
section
variable {p : List (Int × Int)} {a y : Int} {r : Option Int} {x : Int × Int}
theorem mem_snoc_no {z : Int} (h : ¬ Mem z p) (hx : ¬ (x.1 ≤ z ∧ z < x.2)) : ¬ Mem z (p ++ [x]) := fun hh => by
  rcases Mem.app.1 hh with h1 | h1
  · exact h h1
  · exact hx (Mem.one.1 h1)
theorem next_nil : NextIs [] a none := fun x _ => mem_nil x
theorem next_skip (h : NextIs p a r) (hx : x.2 ≤ x.1 ∨ x.2 ≤ a) : NextIs (p ++ [x]) a r := by
  cases r with
  | none => exact fun z hz => mem_snoc_no (h z hz) (by omega)
  | some y => exact ⟨h.1, Mem.app.2 (.inl h.2.1), fun z hz hy => mem_snoc_no (h.2.2 z hz hy) (by have := h.1; omega)⟩
theorem next_first (h : NextIs p a none) (h1 : x.1 < x.2) (h2 : a < x.2) : NextIs (p ++ [x]) a (some (max x.1 a)) :=
  ⟨by omega, Mem.app.2 (.inr (Mem.one.2 (by omega))), fun z hz hy => mem_snoc_no (h z hz) (by omega)⟩
theorem next_less (h : NextIs p a (some y)) (h1 : x.1 < x.2) (h2 : a < x.2) (hf : max x.1 a < y) : NextIs (p ++ [x]) a (some (max x.1 a)) :=
  ⟨by omega, Mem.app.2 (.inr (Mem.one.2 (by omega))), fun z hz hy => mem_snoc_no (h.2.2 z hz (by omega)) (by omega)⟩
theorem next_keep (h : NextIs p a (some y)) (hf : ¬ max x.1 a < y) : NextIs (p ++ [x]) a (some y) :=
  ⟨h.1, Mem.app.2 (.inl h.2.1), fun z hz hy => mem_snoc_no (h.2.2 z hz hy) (by omega)⟩
end
def cntR (l : List (Int × Int)) (b : Int) : Nat := l.countP fun g => decide (g.2 ≤ b)
theorem cntR_le (l : List (Int × Int)) (b : Int) : cntR l b ≤ l.length := List.countP_le_length
theorem cntR_mono (l : List (Int × Int)) {b e : Int} (h : b ≤ e) : cntR l b ≤ cntR l e :=
  List.countP_mono_left fun g _ hg => by simp at hg ⊢; omega
theorem cntR_step : ∀ {l : List (Int × Int)} {b e : Int}, b < e → (∃ g ∈ l, g.2 = e) → cntR l b + 1 ≤ cntR l e := by
  intro l
  induction l with
  | nil => rintro b e _ ⟨g, hg, _⟩; simp at hg
  | cons x l ih =>
    rintro b e h ⟨g, hg, he⟩
    unfold cntR at ih ⊢
    rw [List.countP_cons, List.countP_cons]
    rcases List.mem_cons.1 hg with h1 | h1
    · subst h1
      have := cntR_mono l (Int.le_of_lt h)
      unfold cntR at this
      rw [if_neg (by simp; omega), if_pos (by simp; omega)]
      omega
    · have := ih h ⟨g, h1, he⟩
      have hx : (if decide (x.2 ≤ b) = true then 1 else 0) ≤ (if decide (x.2 ≤ e) = true then 1 else 0) := by
        by_cases hb : x.2 ≤ b
        · rw [if_pos (by simpa using hb), if_pos (by simp; omega)]; exact Nat.le_refl _
        · rw [if_neg (by simpa using hb)]; omega
      omega
theorem EndIs.at {l : List (Int × Int)} {a e : Int} (h : EndIs l a e) : ∃ g ∈ l, g.2 = e := by
  obtain ⟨h1, h2, h3⟩ := h
  obtain ⟨g, hg, g1, g2⟩ := h2 (e - 1) (by omega) (by omega)
  refine ⟨g, hg, ?_⟩
  have : ¬ (g.1 ≤ e ∧ e < g.2) := fun hh => h3 ⟨g, hg, hh⟩
  omega
theorem mem_take {l : List (Int × Int)} {k : Nat} {x : Int} (h : Mem x (l.take k)) : Mem x l := by
  obtain ⟨g, hg, h1⟩ := h
  exact ⟨g, List.mem_of_mem_take hg, h1⟩
theorem not_mem_of {l : List (Int × Int)} {b : Int} (h : ∀ (i : Nat) (g : Int × Int), l[i]? = some g → ¬ (g.1 ≤ b ∧ b < g.2)) : ¬ Mem b l := by
  rintro ⟨g, hg, h1⟩
  obtain ⟨i, hi, rfl⟩ := List.mem_iff_getElem.1 hg
  exact h i _ (List.getElem?_eq_getElem hi) h1
end Go.Proofs.YtghjffgaebnhiaaDoor
end
