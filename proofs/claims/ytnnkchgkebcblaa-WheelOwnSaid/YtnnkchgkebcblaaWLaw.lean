/- Plain laws of the wheel: where a timer stands, the nearest row, what rings. No program in sight. -/
import Derived.Test.YtnnkchgkebcblaaBase
namespace Go.Proofs.Ytnnkchgkebcblaa
set_option linter.unusedVariables false
set_option linter.unusedSimpArgs false
def hi (l x : Nat) : Nat := x / 64 ^ l
def dg (x l : Nat) : Nat := x / 64 ^ l % 64
theorem hi_succ (l x : Nat) : hi (l + 1) x = hi l x / 64 := by unfold hi; rw [Nat.pow_succ, Nat.div_div_eq_div_mul]
theorem dg_hi (x l : Nat) : dg x l = hi l x % 64 := rfl
theorem dg_lt (x l : Nat) : dg x l < 64 := Nat.mod_lt _ (by decide)
theorem hi_mono {x y : Nat} (h : x ≤ y) (l : Nat) : hi l x ≤ hi l y := Nat.div_le_div_right h
theorem hi_eight {x : Nat} (h : x < 64 ^ 8) : hi 8 x = 0 := Nat.div_eq_of_lt h
theorem lt_of_hi {l x y : Nat} (h : hi l x < hi l y) : x < y := Nat.lt_of_not_le fun h' => absurd (hi_mono h' l) (by omega)
theorem hi_up {l x y : Nat} (h : hi l x = hi l y) : ∀ k, hi (l + k) x = hi (l + k) y
  | 0 => h
  | k + 1 => by rw [← Nat.add_assoc, hi_succ, hi_succ, hi_up h k]
theorem hi_up' {l x y : Nat} (h : hi l x = hi l y) (k : Nat) (hk : l ≤ k) : hi k x = hi k y := by
  have := hi_up h (k - l)
  rwa [show l + (k - l) = k by omega] at this
structure Lv (L x n : Nat) : Prop where
  lt : L < 8
  up : hi (L + 1) x = hi (L + 1) n
  lo : hi L n < hi L x
theorem Lv.dig {L x n : Nat} (h : Lv L x n) : dg n L < dg x L := by
  have h1 := h.up
  have h2 := h.lo
  rw [hi_succ, hi_succ] at h1
  simp only [dg_hi]
  omega
theorem lv_exists {x n : Nat} (hn : n < x) (hx : x < 64 ^ 8) : ∃ L, Lv L x n := by
  have key : ∀ m, m ≤ 8 → hi m x = hi m n → ∃ L, Lv L x n := by
    intro m
    induction m with
    | zero => intro _ h; simp [hi] at h; omega
    | succ m ih =>
      intro hm h
      by_cases e : hi m x = hi m n
      · exact ih (by omega) e
      · have := hi_mono (Nat.le_of_lt hn) m
        exact ⟨m, by omega, h, by omega⟩
  exact key 8 (Nat.le_refl _) (by rw [hi_eight hx, hi_eight (Nat.lt_trans hn hx)])
/-- lay's loop: the highest of the first k digits in which they are unlike. -/
def lvk (x n : Nat) : Nat → Nat
  | 0 => 0
  | k + 1 => if dg x k = dg n k then lvk x n k else k
def lvl (x n : Nat) : Nat := lvk x n 8
theorem lvk_le (x n : Nat) : ∀ k, lvk x n (k + 1) ≤ k
  | 0 => by unfold lvk lvk; split <;> omega
  | k + 1 => by
    unfold lvk
    have := lvk_le x n k
    split <;> omega
theorem lvl_lt (x n : Nat) : lvl x n < 8 := Nat.lt_succ_of_le (lvk_le x n 7)
theorem Lv.lvl {L x n : Nat} (h : Lv L x n) : lvl x n = L := by
  have : ∀ k, L < k → lvk x n k = L := by
    intro k
    induction k with
    | zero => intro h; omega
    | succ k ih =>
      intro hk
      unfold lvk
      by_cases e : L = k
      · subst e
        rw [if_neg (by have := h.dig; omega)]
      · have hu := hi_up' h.up k (by omega)
        rw [if_pos (by simp only [dg_hi, hu]), ih (by omega)]
  exact this 8 h.lt
def ix (x n : Nat) : Nat := Go.Proofs.Ytnnkchgkebcblaa.lvl x n * 64 + dg x (Go.Proofs.Ytnnkchgkebcblaa.lvl x n)
theorem ix_lt (x n : Nat) : ix x n < 512 := by
  have h1 := lvl_lt x n
  have h2 := dg_lt x (Go.Proofs.Ytnnkchgkebcblaa.lvl x n)
  unfold ix
  omega
theorem Lv.ix {L x n : Nat} (h : Lv L x n) : ix x n = L * 64 + dg x L := by unfold Go.Proofs.Ytnnkchgkebcblaa.ix; rw [h.lvl]
/-- the time at which a row begins. -/
def bg (now L s : Nat) : Nat := hi (L + 1) now * 64 ^ (L + 1) + s * 64 ^ L
theorem bg_eq (now L s : Nat) : bg now L s = (hi (L + 1) now * 64 + s) * 64 ^ L := by
  unfold bg
  rw [Nat.pow_succ, Nat.add_mul, Nat.mul_assoc, Nat.mul_comm 64]
theorem hi_bg (now L s : Nat) : hi L (bg now L s) = hi (L + 1) now * 64 + s := by
  rw [bg_eq]
  exact Nat.mul_div_cancel _ (Nat.pow_pos (by decide))
theorem bg_le {now L s x : Nat} : bg now L s ≤ x ↔ hi (L + 1) now * 64 + s ≤ hi L x := by
  rw [bg_eq]
  exact (Nat.le_div_iff_mul_le (Nat.pow_pos (by decide))).symm
/-- the first row to come that is not empty. -/
structure Near (now : Nat) (full : Nat → Prop) (L s : Nat) : Prop where
  lt : L < 8
  dig : dg now L < s
  slt : s < 64
  here : full (L * 64 + s)
  below : ∀ l, l < L → ∀ u, dg now l < u → u < 64 → ¬ full (l * 64 + u)
  left : ∀ u, dg now L < u → u < s → ¬ full (L * 64 + u)
theorem Near.after {now L s : Nat} {full : Nat → Prop} (h : Near now full L s) : now < bg now L s := by
  refine lt_of_hi (l := L) ?_
  have h1 := h.dig
  rw [hi_bg, hi_succ]
  rw [dg_hi] at h1
  omega
theorem Near.cls {now L s x : Nat} {full : Nat → Prop} (h : Near now full L s) (hx : now < x) (hx8 : x < 64 ^ 8) (hf : full (ix x now)) :
    (ix x now = L * 64 + s ∧ hi L x = hi (L + 1) now * 64 + s ∨ ix x now ≠ L * 64 + s ∧ hi (L + 1) now * 64 + s < hi L x) ∧
    ∀ n, now ≤ n → hi L n ≤ hi (L + 1) now * 64 + s → hi L n < hi L x → ix x n = ix x now := by
  obtain ⟨K, hK⟩ := lv_exists hx hx8
  have hix := hK.ix
  have hd := hK.dig
  have hdl := dg_lt x K
  have hs := h.slt
  rw [hix] at hf ⊢
  rcases Nat.lt_trichotomy K L with hlt | rfl | hgt
  · exact absurd hf (h.below K hlt _ hd hdl)
  · have e1 : hi K x = hi (K + 1) now * 64 + dg x K := by
      have := hK.up
      rw [← this, hi_succ, dg_hi]; omega
    have hge : s ≤ dg x K := Nat.le_of_not_lt fun hl => h.left _ hd hl hf
    refine ⟨?_, fun n h1 h2 h3 => ?_⟩
    · rcases Nat.eq_or_lt_of_le hge with e | e
      · exact .inl ⟨by rw [e], by rw [e1, e]⟩
      · exact .inr ⟨by omega, by omega⟩
    · have m1 := hi_mono h1 (K + 1)
      have : hi (K + 1) n = hi (K + 1) now := by rw [hi_succ K n] at m1 ⊢; omega
      exact (show Lv K x n from ⟨hK.lt, hK.up.trans this.symm, h3⟩).ix
  · have m0 : hi (L + 1) now < hi (L + 1) x := by
      have := hi_mono (Nat.le_of_lt hx) (L + 1)
      rcases Nat.eq_or_lt_of_le this with e | e
      · have := hi_up' e K (by omega)
        have := hK.lo
        omega
      · exact e
    refine ⟨.inr ⟨by omega, ?_⟩, fun n h1 h2 h3 => ?_⟩
    · rw [hi_succ L x] at m0; omega
    · have m1 := hi_mono h1 (L + 1)
      have : hi (L + 1) n = hi (L + 1) now := by rw [hi_succ L n] at m1 ⊢; omega
      exact (show Lv K x n from ⟨hK.lt, hK.up.trans (hi_up' this (K + 1) (by omega)).symm, by rw [hi_up' this K (by omega)]; exact hK.lo⟩).ix
/-! ### Timers -/
structure Tm where
  id : Int
  at_ : Nat
  ord : Nat
  nev : Bool
deriving Inhabited, DecidableEq
def due (T : List Tm) (a : Nat) : List Tm := T.filter fun t => !t.nev && t.at_ == a
def rings (T : List Tm) (n : Nat) : List Int := (List.range (n + 1)).flatMap fun a => (due T a).map Tm.id
def stay (T : List Tm) (n : Nat) : List Tm := T.filter fun t => t.nev || decide (n < t.at_)
theorem due_nil {T : List Tm} {a : Nat} (h : ∀ t ∈ T, t.nev = false → t.at_ ≠ a) : due T a = [] := by
  unfold due
  rw [List.filter_eq_nil_iff]
  intro t ht
  have := h t ht
  cases hn : t.nev <;> simp_all
theorem flatMap_nil {f : Nat → List Int} : ∀ {l : List Nat}, (∀ a ∈ l, f a = []) → l.flatMap f = []
  | [], _ => rfl
  | a :: l, h => by rw [List.flatMap_cons, h a (List.mem_cons_self ..), flatMap_nil fun b hb => h b (List.mem_cons_of_mem _ hb)]; rfl
theorem flatMap_eq {f g : Nat → List Int} : ∀ {l : List Nat}, (∀ a ∈ l, f a = g a) → l.flatMap f = l.flatMap g
  | [], _ => rfl
  | a :: l, h => by rw [List.flatMap_cons, List.flatMap_cons, h a (List.mem_cons_self ..), flatMap_eq fun b hb => h b (List.mem_cons_of_mem _ hb)]
theorem rings_none {T : List Tm} {n : Nat} (h : ∀ t ∈ T, t.nev = false → n < t.at_) : rings T n = [] := by
  refine flatMap_nil fun a ha => ?_
  rw [due_nil fun t ht hn => by have := h t ht hn; have := List.mem_range.1 ha; omega]
  rfl
theorem range_cut (m n : Nat) (h : m ≤ n) : List.range n = List.range m ++ (List.range (n - m)).map (m + ·) := by
  have := List.range_add (n := m) (m := n - m)
  rw [show m + (n - m) = n by omega] at this
  exact this
theorem rings_step {T : List Tm} {m n : Nat} (h : ∀ t ∈ T, t.nev = false → m ≤ t.at_) (hm : m ≤ n) :
    rings T n = (due T m).map Tm.id ++ rings (T.filter fun t => t.nev || t.at_ != m) n := by
  have e : ∀ (U : List Tm), (∀ t ∈ U, t.nev = false → m ≤ t.at_) → rings U n = (due U m).map Tm.id ++ ((List.range (n - m)).map (m + 1 + ·)).flatMap fun a => (due U a).map Tm.id := by
    intro U hU
    unfold rings
    rw [range_cut m (n + 1) (by omega), List.flatMap_append, flatMap_nil (l := List.range m) (fun a ha => by
      rw [due_nil fun t ht hn => by have := hU t ht hn; have := List.mem_range.1 ha; omega]; rfl)]
    rw [show n + 1 - m = (n - m) + 1 by omega, List.range_succ_eq_map, List.map_cons, List.flatMap_cons, List.map_map]
    simp only [Nat.add_zero, List.nil_append]
    congr 1
    congr 1
    apply List.map_congr_left
    intro a _
    simp only [Function.comp]
    omega
  rw [e T h, e (T.filter fun t => t.nev || t.at_ != m) (fun t ht hn => h t (List.mem_filter.1 ht).1 hn)]
  have e0 : due (T.filter fun t => t.nev || t.at_ != m) m = [] := due_nil fun t ht hn => by
    have := (List.mem_filter.1 ht).2
    simp [hn] at this
    exact this
  rw [e0]
  simp only [List.map_nil, List.nil_append]
  congr 1
  refine flatMap_eq fun a ha => ?_
  obtain ⟨b, _, rfl⟩ := List.mem_map.1 ha
  congr 1
  unfold due
  rw [List.filter_filter]
  apply List.filter_congr
  intro t _
  cases hn : t.nev <;> simp <;> intro h1 <;> omega
theorem rings_split (T : List Tm) {n m : Nat} (h : n ≤ m) : rings T m = rings T n ++ rings (stay T n) m := by
  unfold rings
  rw [range_cut (n + 1) (m + 1) (by omega), List.flatMap_append, List.flatMap_append]
  rw [flatMap_nil (f := fun a => (due (stay T n) a).map Tm.id) (l := List.range (n + 1)) (fun a ha => by
    rw [due_nil fun t ht hn => by
      have h2 := (List.mem_filter.1 ht).2
      simp [hn] at h2
      have := List.mem_range.1 ha
      omega]
    rfl)]
  rw [List.nil_append]
  congr 1
  refine flatMap_eq fun a ha => ?_
  obtain ⟨b, _, rfl⟩ := List.mem_map.1 ha
  congr 1
  unfold due stay
  rw [List.filter_filter]
  apply List.filter_congr
  intro t _
  cases hn : t.nev <;> simp <;> intro h1 <;> omega
theorem rings_first {T : List Tm} {m n : Nat} {t : Tm} {ds : List Tm} (hm : m ≤ n) (h : ∀ t ∈ T, t.nev = false → m ≤ t.at_) (hd : due T m = t :: ds) (hid : T.Pairwise fun a b => a.id ≠ b.id) :
    rings T n = t.id :: rings (T.filter fun u => u.id != t.id) n := by
  rw [rings_step h hm, rings_step (T := T.filter fun u => u.id != t.id) (fun u hu hn => h u (List.mem_filter.1 hu).1 hn) hm, hd]
  have ht : t ∈ due T m := by rw [hd]; exact List.mem_cons_self ..
  have htm := List.mem_filter.1 ht
  have e1 : due (T.filter fun u => u.id != t.id) m = ds := by
    have : due (T.filter fun u => u.id != t.id) m = (due T m).filter fun u => u.id != t.id := by
      unfold due
      rw [List.filter_filter, List.filter_filter]
      apply List.filter_congr
      intro u _
      exact Bool.and_comm _ _
    rw [this, hd]
    have hp : (t :: ds).Pairwise fun a b => a.id ≠ b.id := by rw [← hd]; exact hid.sublist List.filter_sublist
    rw [List.filter_cons_of_neg (by simp), List.filter_eq_self]
    intro u hu
    have := (List.pairwise_cons.1 hp).1 u hu
    simp
    exact fun e => this e.symm
  have e2 : (T.filter fun u => u.id != t.id).filter (fun t => t.nev || t.at_ != m) = T.filter fun t => t.nev || t.at_ != m := by
    rw [List.filter_filter]
    apply List.filter_congr
    intro u hu
    cases hq : (u.nev || u.at_ != m) with
    | false => simp
    | true =>
      simp only [Bool.true_and, bne_iff_ne, ne_eq]
      intro e
      have : u = t := by
        rcases Classical.em (u = t) with h' | h'
        · exact h'
        · obtain ⟨i, hi, rfl⟩ := List.mem_iff_getElem.1 hu
          obtain ⟨j, hj, hje⟩ := List.mem_iff_getElem.1 htm.1
          rw [List.pairwise_iff_getElem] at hid
          rcases Nat.lt_trichotomy i j with h1 | h1 | h1
          · exact absurd (by rw [hje]; exact e) (hid i j hi hj h1)
          · subst h1; exact hje
          · exact absurd (by rw [hje]; exact e.symm) (hid j i hj hi h1)
      rw [this] at hq
      have := htm.2
      simp_all
  rw [e1, e2]
  rfl
end Go.Proofs.Ytnnkchgkebcblaa
