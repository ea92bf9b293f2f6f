/- A region that draws its order, walked in phases: quiet operations in a class of worlds, then one operation that writes, then quiet ones again in another class, and so on. Nothing of the program in it. -/
import Derived.Test.YtfaemjlemaclbaaGreatMBase
import Derived.Deep.LoopGhost
namespace Go.Proofs.YtfaemjlemaclbaaGreat
set_option linter.unusedVariables false
set_option linter.unusedSimpArgs false
/-- the first n of N are listed. -/
def front (N n : Nat) : Array Bool := ((List.range N).map fun i => decide (i < n)).toArray
theorem front_size (N n : Nat) : (front N n).size = N := by simp [front]
theorem front_get {N n j : Nat} (h : j < N) (d : Bool) : (front N n).getD j d = decide (j < n) := by simp [front, h]
theorem front_zero (N : Nat) : front N 0 = Array.replicate N false := by
  apply Array.ext
  · simp [front]
  · intro i h1 h2; simp [front]
theorem front_uniq {N n : Nat} {L : Array Bool} (hs : L.size = N) (h : ∀ j, j < N → L.getD j true = decide (j < n)) : L = front N n := by
  apply Array.ext
  · rw [hs, front_size]
  · intro i h1 h2
    have h3 := h i (by omega)
    have h4 := front_get (n := n) (show i < N by omega) true
    simp only [Array.getD, h1, h2, dif_pos] at h3 h4
    exact h3.trans h4.symm
theorem front_set (N n : Nat) (h : n < N) : (front N n).setIfInBounds n true = front N (n + 1) := by
  refine front_uniq (by simp [front_size]) fun j hj => ?_
  by_cases e : n = j
  · subst e
    simp [Array.getD, front_size, h]
  · rw [getD_set_ne true e, front_get hj]
    simp only [decide_eq_decide]
    omega
/-- n stands behind all ahead of it, and ahead of all behind it. -/
def barB (ops : Array Oper) (n : Nat) : Bool :=
  (List.range ops.size).all fun i => ((ops[i]?).map fun o =>
    (o.after.all (fun e => !Region.binds .any e || decide (e.on < i)) && (match o.guard with | none => true | some (g, _) => decide (g < i))) &&
    (if i < n then (List.range ops.size).any fun k => decide (i < k) && decide (k ≤ n) && ((ops[k]?).map fun o' => o'.after.any fun e => Region.binds .any e && e.on == i).getD false
     else if i = n then true else o.after.any fun e => Region.binds .any e && decide (n ≤ e.on))).getD false
structure Bar (ops : Array Oper) (n : Nat) : Prop where
  back : ∀ i o, ops[i]? = some o → ∀ e ∈ o.after, Region.binds .any e = true → e.on < i
  wait : ∀ i, i < n → i < ops.size → ∃ k o, i < k ∧ k ≤ n ∧ ops[k]? = some o ∧ ∃ e ∈ o.after, Region.binds .any e = true ∧ e.on = i
  post : ∀ i o, n < i → ops[i]? = some o → ∃ e ∈ o.after, Region.binds .any e = true ∧ n ≤ e.on
  guard : ∀ (i : Nat) (o : Oper) (g : Nat) (b : Bool), ops[i]? = some o → o.guard = some (g, b) → g < i
theorem barB_spec {ops : Array Oper} {n : Nat} (h : barB ops n = true) : Bar ops n := by
  unfold barB at h
  rw [List.all_eq_true] at h
  have key : ∀ i o, ops[i]? = some o → (o.after.all (fun e => !Region.binds .any e || decide (e.on < i)) = true ∧ (match o.guard with | none => true | some (g, _) => decide (g < i)) = true) ∧
      (if i < n then (List.range ops.size).any fun k => decide (i < k) && decide (k ≤ n) && ((ops[k]?).map fun o' => o'.after.any fun e => Region.binds .any e && e.on == i).getD false
       else if i = n then true else o.after.any fun e => Region.binds .any e && decide (n ≤ e.on)) = true := fun i o ho => by
    have := h i (List.mem_range.2 (Array.getElem?_eq_some_iff.1 ho).1)
    rw [ho] at this
    simpa only [Option.map_some, Option.getD_some, Bool.and_eq_true] using this
  refine ⟨fun i o ho e he hb => ?_, fun i hi hs => ?_, fun i o hi ho => ?_, fun i o g b ho hg => ?_⟩
  · have := (key i o ho).1.1
    rw [Array.all_eq_true'] at this
    have := this e he
    rw [hb] at this
    simpa using this
  · have := (key i _ (Array.getElem?_eq_getElem hs)).2
    rw [if_pos hi, List.any_eq_true] at this
    obtain ⟨k, _, hk⟩ := this
    simp only [Bool.and_eq_true, decide_eq_true_eq] at hk
    obtain ⟨⟨h1, h2⟩, h3⟩ := hk
    cases ho : ops[k]? with
    | none => rw [ho] at h3; cases h3
    | some o' =>
      rw [ho] at h3
      simp only [Option.map_some, Option.getD_some] at h3
      rw [Array.any_eq_true'] at h3
      obtain ⟨e, he, h4⟩ := h3
      simp only [Bool.and_eq_true, beq_iff_eq] at h4
      exact ⟨k, o', h1, h2, ho, e, he, h4.1, h4.2⟩
  · have := (key i o ho).2
    rw [if_neg (by omega), if_neg (by omega), Array.any_eq_true'] at this
    obtain ⟨e, he, h4⟩ := this
    simp only [Bool.and_eq_true, decide_eq_true_eq] at h4
    exact ⟨e, he, h4.1, h4.2⟩
  · have := (key i o ho).1.2
    rw [hg] at this
    simpa using this
structure Inv (ops : Array Oper) (n : Nat) (L : Array Bool) : Prop where
  size : L.size = ops.size
  hi : ∀ j, n ≤ j → j < ops.size → L.getD j true = false
  dc : ∀ i o, i < n → ops[i]? = some o → L.getD i true = true → ∀ e ∈ o.after, Region.binds .any e = true → L.getD e.on false = true
theorem getD_flip {L : Array Bool} {j : Nat} (h : L.getD j true = false) : L.getD j false = false := by
  by_cases hj : j < L.size
  · simp [Array.getD, hj] at h ⊢; exact h
  · simp [Array.getD, hj] at h
section
variable {P : Program} {ops ops' : Array Oper} {n : Nat} {L : Array Bool} {Q : Exit → Act → World → Prop} {C : World → Prop}
theorem Inv.early (hB : Bar ops n) (hI : Inv ops n L) (hn : n < ops.size) {i : Nat} (hi : i < n) (hu : L.getD i true = false) : ∀ j ∈ Region.ready .any ops L, j < n := by
  intro j hj
  obtain ⟨h1, o, ho, h2⟩ := mem_ready.1 hj
  have hjs := (Array.getElem?_eq_some_iff.1 ho).1
  rcases Nat.lt_trichotomy j n with h | rfl | h
  · exact h
  · exfalso
    have claim : ∀ d i, j - i ≤ d → i < j → L.getD i true = false → False := by
      intro d
      induction d with
      | zero => intro i h1 h2; omega
      | succ d ih =>
        intro i hd hij hui
        obtain ⟨k, o', k1, k2, ho', e, he, hb, heq⟩ := hB.wait i hij (by omega)
        rcases Nat.eq_or_lt_of_le k2 with rfl | k3
        · rw [ho] at ho'
          injection ho' with ho'
          subst ho'
          have := h2 e he hb
          rw [heq, getD_flip hui] at this
          cases this
        · cases hk : L.getD k true with
          | false => exact ih k (by omega) k3 hk
          | true =>
            have := hI.dc k o' k3 ho' hk e he hb
            rw [heq, getD_flip hui] at this
            cases this
    exact claim _ i (Nat.le_refl _) hi hu
  · exfalso
    obtain ⟨e, he, hb, hne⟩ := hB.post j o h ho
    have := h2 e he hb
    have hlt := hB.back j o ho e he hb
    rw [getD_flip (hI.hi e.on hne (by omega))] at this
    cases this
theorem Inv.set (hI : Inv ops n L) {i : Nat} (hi : i < n) (hr : i ∈ Region.ready .any ops L) : Inv ops n (L.setIfInBounds i true) := by
  obtain ⟨_, o, ho, hall⟩ := mem_ready.1 hr
  refine ⟨by simp [hI.size], fun j h1 h2 => ?_, fun k o' h1 h2 h3 e he hb => ?_⟩
  · rw [getD_set_ne true (by omega)]
    exact hI.hi j h1 h2
  · by_cases e' : i = k
    · subst e'
      rw [ho] at h2
      injection h2 with h2
      subst h2
      exact getD_set_true (hall e he hb)
    · rw [getD_set_ne true e'] at h3
      exact getD_set_true (hI.dc k o' h1 h2 h3 e he hb)
theorem wpAny_more : ∀ (fuel : Nat) (L : Array Bool) (a : Act) (w : World), wpAny P .any ops Q fuel L a w → wpAny P .any ops Q (fuel + 1) L a w
  | 0, L, a, w, h => ⟨fun _ => h.2, fun i hi => (by rw [h.1] at hi; cases hi)⟩
  | fuel + 1, L, a, w, h => ⟨h.1, fun i hi => wpOp_mono (fun a w => wpAny_more fuel _ a w) (h.2 i hi)⟩
theorem wpAny_add (fuel m : Nat) (L : Array Bool) (a : Act) (w : World) (h : wpAny P .any ops Q fuel L a w) : wpAny P .any ops Q (m + fuel) L a w := by
  induction m with
  | zero => rwa [Nat.zero_add]
  | succ m ih => rw [Nat.add_right_comm]; exact wpAny_more _ _ _ _ ih
theorem lift (hB : Bar ops n) (hn : n < ops.size) (hs : ops'.size = n) (hp : ∀ i, i < n → ops'[i]? = ops[i]?) {Q' : Act → Prop} {M : Nat} (hQ : ∀ a w, C w → Q' a → wpAny P .any ops Q M (front ops.size n) a w) :
    ∀ (fuel : Nat) (L : Array Bool) (a : Act), Inv ops n L → wpAnyQ P .any ops' C Q' fuel L a → ∀ w, C w → wpAny P .any ops Q (fuel + M) L a w := by
  intro fuel
  induction fuel with
  | zero =>
    intro L a hI h w hw
    by_cases hall : ∀ i, i < n → L.getD i true = true
    · have hL : L = front ops.size n := front_uniq hI.size fun j hj => by
        by_cases hjn : j < n
        · rw [hall j hjn, decide_eq_true hjn]
        · rw [hI.hi j (by omega) hj, decide_eq_false hjn]
      rw [hL, Nat.zero_add]
      exact hQ a w hw h.2
    · exfalso
      have : ∃ i, i < n ∧ L.getD i true = false := Classical.byContradiction fun hno => hall fun i hi => by
        cases hd : L.getD i true with
        | true => rfl
        | false => exact absurd ⟨i, hi, hd⟩ hno
      obtain ⟨i0, hm, hmin⟩ := exists_least this
      have hin : i0 ∈ Region.ready .any ops' L := by
        rw [mem_ready]
        refine ⟨hm.2, ops[i0]'(by omega), by rw [hp i0 hm.1, Array.getElem?_eq_getElem], fun e he hb => ?_⟩
        have hlt := hB.back i0 _ (Array.getElem?_eq_getElem (by omega)) e he hb
        cases hd : L.getD e.on true with
        | true =>
          have hz := hI.size
          have : e.on < L.size := by omega
          simp [Array.getD, this] at hd ⊢
          exact hd
        | false => have := hmin e.on ⟨by omega, hd⟩; omega
      rw [h.1] at hin
      cases hin
  | succ fuel ih =>
    intro L a hI h w hw
    by_cases hall : ∀ i, i < n → L.getD i true = true
    · have hL : L = front ops.size n := front_uniq hI.size fun j hj => by
        by_cases hjn : j < n
        · rw [hall j hjn, decide_eq_true hjn]
        · rw [hI.hi j (by omega) hj, decide_eq_false hjn]
      have hr : Region.ready .any ops' L = [] := by
        rw [List.eq_nil_iff_forall_not_mem]
        intro j hj
        obtain ⟨h1, o, ho, _⟩ := mem_ready.1 hj
        have hjs := (Array.getElem?_eq_some_iff.1 ho).1
        rw [hall j (by omega)] at h1
        cases h1
      have := hQ a w hw (h.1 hr)
      rw [hL]
      exact wpAny_add _ _ _ _ _ this
    · have : ∃ i, i < n ∧ L.getD i true = false := Classical.byContradiction fun hno => hall fun i hi => by
        cases hd : L.getD i true with
        | true => rfl
        | false => exact absurd ⟨i, hi, hd⟩ hno
      obtain ⟨i0, hm, hmin⟩ := exists_least this
      have hin : i0 ∈ Region.ready .any ops L := by
        rw [mem_ready]
        refine ⟨hm.2, ops[i0]'(by omega), by rw [Array.getElem?_eq_getElem], fun e he hb => ?_⟩
        have hlt := hB.back i0 _ (Array.getElem?_eq_getElem (by omega)) e he hb
        cases hd : L.getD e.on true with
        | true =>
          have hz := hI.size
          have : e.on < L.size := by omega
          simp [Array.getD, this] at hd ⊢
          exact hd
        | false => have := hmin e.on ⟨by omega, hd⟩; omega
      have hearly := Inv.early hB hI hn hm.1 hm.2
      rw [Nat.add_right_comm]
      refine ⟨fun hr => (by rw [hr] at hin; cases hin), fun i hi => ?_⟩
      have hin2 := hearly i hi
      have hi' : i ∈ Region.ready .any ops' L := by
        rw [mem_ready] at hi ⊢
        obtain ⟨h1, o, ho, h2⟩ := hi
        exact ⟨h1, o, by rw [hp i hin2]; exact ho, h2⟩
      have hq := h.2 i hi'
      have hq2 : qOp P ops C i (wpAnyQ P .any ops' C Q' fuel (L.setIfInBounds i true)) a := by
        obtain ⟨_, o, ho, _⟩ := mem_ready.1 hi
        unfold qOp at hq ⊢
        rw [hp i hin2, ho] at hq
        rw [ho]
        simp only at hq ⊢
        have hy : Region.wanted o (yielded ops' a.tmps) = Region.wanted o (yielded ops a.tmps) := by
          unfold Region.wanted
          cases hg : o.guard with
          | none => rfl
          | some gb =>
            obtain ⟨g, b⟩ := gb
            have hgi := hB.guard i o g b ho hg
            simp only [yielded, hp g (by omega)]
        rwa [hy] at hq
      exact wpOp_of_qOp hw (fun a' w' hw' hk => ih _ a' (hI.set hin2 hi) hk w' hw') hq2
end
/-- the operations ahead of each of the numbers are quiet in a class of worlds; the operation of that number goes by its own. -/
def wpPhases (P : Program) (l : List Oper) (Q : Exit → Act → World → Prop) : List Nat → Nat → Act → World → Prop
  | [], k, a, w => ∃ C : World → Prop, C w ∧ wpQuiet P l.toArray C (fun a' => ∀ w', C w' → Q .normal a' w') (l.drop k) a
  | n :: ns, k, a, w => ∃ C : World → Prop, C w ∧ wpQuiet P (l.take n).toArray C (fun a1 => ∀ w1, C w1 → wpOp P l.toArray Q n (wpPhases P l Q ns (n + 1)) a1 w1) ((l.take n).drop k) a
def phasesB (l : List Oper) : List Nat → Nat → Bool
  | [], k => Region.noSelect l.toArray && Region.lexFrom .any l.toArray (l.length - k) k (front l.length k)
  | n :: ns, k => decide (k ≤ n) && decide (n < l.length) && barB l.toArray n && Region.noSelect (l.take n).toArray && Region.lexFrom .any (l.take n).toArray (n - k) k (front l.length k) && phasesB l ns (n + 1)
theorem inv_front {ops : Array Oper} {n k : Nat} (hB : Bar ops n) (hk : k ≤ n) : Inv ops n (front ops.size k) := by
  refine ⟨front_size _ _, fun j h1 h2 => ?_, fun i o h1 h2 h3 e he hb => ?_⟩
  · rw [front_get h2, decide_eq_false (by omega)]
  · have hi := (Array.getElem?_eq_some_iff.1 h2).1
    rw [front_get hi] at h3
    have hlt := hB.back i o h2 e he hb
    rw [front_get (by omega)]
    simp at h3 ⊢
    omega
theorem wpPhases_any {P : Program} {l : List Oper} {Q : Exit → Act → World → Prop} : ∀ (ns : List Nat) (k : Nat) (a : Act) (w : World), k ≤ l.length → phasesB l ns k = true → wpPhases P l Q ns k a w → wpAny P .any l.toArray Q (l.length - k) (front l.length k) a w
  | [], k, a, w, hk, hB, h => by
    obtain ⟨C, hC, h⟩ := h
    simp only [phasesB, Bool.and_eq_true] at hB
    have hl : (l.drop k).length = l.length - k := List.length_drop
    have := wpAnyQ_lex (P := P) (C := C) (md := .any) (ops := l.toArray) hB.1 (l.drop k) k (front l.length k) a (fun j => by simp) (by rw [hl]; exact hB.2) h
    rw [hl] at this
    exact wpAny_of_quiet (Q := fun a' => ∀ w', C w' → Q .normal a' w') (fun _ w' hw' h => h w' hw') _ _ _ _ hC this
  | n :: ns, k, a, w, hk, hB, h => by
    obtain ⟨C, hC, h⟩ := h
    simp only [phasesB, Bool.and_eq_true, decide_eq_true_eq] at hB
    obtain ⟨⟨⟨⟨⟨h1, h2⟩, h3⟩, h4⟩, h5⟩, h6⟩ := hB
    have hbar := barB_spec h3
    have hl : ((l.take n).drop k).length = n - k := by rw [List.length_drop, List.length_take]; omega
    have hq := wpAnyQ_lex (P := P) (C := C) (md := .any) (ops := (l.take n).toArray) h4 ((l.take n).drop k) k (front l.length k) a (fun j => by simp) (by rw [hl]; exact h5) h
    rw [hl] at hq
    have hsz : l.toArray.size = l.length := List.size_toArray
    have := lift (P := P) (ops := l.toArray) (ops' := (l.take n).toArray) (n := n) (Q := Q) (C := C) hbar (by rw [hsz]; exact h2) (by simp; omega) (fun i hi => by simp [List.getElem?_take, hi]) (M := l.length - n)
      (Q' := fun a1 => ∀ w1, C w1 → wpOp P l.toArray Q n (wpPhases P l Q ns (n + 1)) a1 w1) (fun a1 w1 hw1 hq1 => by
        obtain ⟨m, hm⟩ : ∃ m, l.length - n = m + 1 := ⟨l.length - (n + 1), by omega⟩
        rw [hm, hsz]
        have hm2 : m = l.length - (n + 1) := by omega
        have honly : ∀ j ∈ Region.ready .any l.toArray (front l.length n), j = n := fun j hj => by
          obtain ⟨g1, o, ho, g2⟩ := mem_ready.1 hj
          have hjs := (Array.getElem?_eq_some_iff.1 ho).1
          rw [hsz] at hjs
          rw [front_get hjs] at g1
          have hge : n ≤ j := by simpa using g1
          rcases Nat.eq_or_lt_of_le hge with e | e
          · exact e.symm
          · obtain ⟨d, hd, hb, hne⟩ := hbar.post j o e ho
            have hlt := hbar.back j o ho d hd hb
            have := g2 d hd hb
            rw [front_get (by omega)] at this
            simp at this
            omega
        have hin : n ∈ Region.ready .any l.toArray (front l.length n) := by
          rw [mem_ready]
          refine ⟨by rw [front_get h2]; simp, l[n], by simp [h2], fun d hd hb => ?_⟩
          have hlt := hbar.back n l[n] (by simp [h2]) d hd hb
          rw [front_get (by omega)]
          simpa using hlt
        refine ⟨fun hr => (by rw [hr] at hin; cases hin), fun i hi => ?_⟩
        have := honly i hi
        subst this
        rw [front_set _ _ h2, hm2]
        exact wpOp_mono (fun a w => wpPhases_any ns (i + 1) a w (by omega) h6) (hq1 w1 hw1))
      (n - k) (front l.length k) a (by have := inv_front (k := k) hbar h1; rwa [hsz] at this) hq w hC
    rwa [show n - k + (l.length - n) = l.length - k by omega] at this
/-- a region that draws its order, in phases. -/
theorem region_phases {P : Program} {id : Nat} {Q : Exit → Act → World → Prop} {a : Act} {w : World} {l : List Oper} (ns : List Nat) (hm : P.follows .mixedOrders = true) (hB : phasesB l ns 0 = true)
    (h : wpPhases P l Q ns 0 a w.drew) : (Code.region id l.toArray true).wp P Q a w := by
  refine wp_region_any hm ?_
  have := wpPhases_any (P := P) (Q := Q) ns 0 a w.drew (Nat.zero_le _) hB h
  rw [Nat.sub_zero, front_zero] at this
  simpa using this
section
variable {P : Program} {Q : Exit → Act → World → Prop} {a : Act} {w : World} {l : List Oper} {n k : Nat} {ns : List Nat}
/-- a phase ahead of operation n. -/
theorem phases_more (C : World → Prop) (hC : C w) (h : wpQuiet P (l.take n).toArray C (fun a1 => ∀ w1, C w1 → wpOp P l.toArray Q n (wpPhases P l Q ns (n + 1)) a1 w1) ((l.take n).drop k) a) : wpPhases P l Q (n :: ns) k a w := ⟨C, hC, h⟩
/-- the last phase. -/
theorem phases_last (C : World → Prop) (hC : C w) (h : wpQuiet P l.toArray C (fun a' => ∀ w', C w' → Q .normal a' w') (l.drop k) a) : wpPhases P l Q [] k a w := ⟨C, hC, h⟩
/-- the operation between two phases. -/
theorem phases_op {K : Act → World → Prop} {o : Oper} (ho : l.toArray[n]? = some o) (hw : Region.wanted o (yielded l.toArray a.tmps) = true) (h : ∀ K' : Act → World → Prop, (∀ a w, K a w → K' a w) → o.wp P a w K' Q) : wpOp P l.toArray Q n K a w := by
  unfold wpOp
  rw [ho]
  simp only [hw, if_true]
  exact .inl (h K fun _ _ h => h)
end
end Go.Proofs.YtfaemjlemaclbaaGreat
