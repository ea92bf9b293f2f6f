/- A region that draws its order, of operations that only read and of a chain of operations that write or call: walked in an order of one's own choosing. Nothing of the program in it. -/
import Derived.Test.YtghjffgaebnhiaaDoorMClass
namespace Go.Proofs.YtghjffgaebnhiaaDoor
set_option linter.unusedVariables false
set_option linter.unusedSimpArgs false
section
variable {P : Program} {ops : Array Oper} {md : Region.Mode} {eff : Nat → Bool} {C : World → Prop} {Q : Act → World → Prop}
/-- what an operation with an effect is asked: its value, its world. -/
def effUpon (P : Program) (K : Value → World → Prop) : Result Next → Prop
  | .ok (.value u) w' => K u w'
  | .ok .skip w' => K undef w'
  | .ok (.enter f args) w' => Calls P f args w' (fun e w'' => ∃ v, e = .returned v ∧ K v w'')
  | _ => False
def effAt (P : Program) (o : Oper) (a : Act) (w : World) (K : Value → World → Prop) : Prop := effUpon P K ((execOp a.eval o).run P w)
theorem effAt_mono {o : Oper} {a : Act} {w : World} {K K' : Value → World → Prop} (h : ∀ v w', K v w' → K' v w') (hh : effAt P o a w K) : effAt P o a w K' := by
  unfold effAt at *
  generalize (execOp a.eval o).run P w = r at *
  cases r with
  | ok n w' =>
    cases n <;> simp only [effUpon] at hh ⊢
    case value u => exact h _ _ hh
    case skip => exact h _ _ hh
    case enter f args => exact hh.mono fun e w'' ⟨v, he, hk⟩ => ⟨v, he, h _ _ hk⟩
  | halt x w' => simp only [effUpon] at hh
theorem wp_of_effAt {o : Oper} {a : Act} {w : World} {K : Value → World → Prop} {K' : Act → World → Prop} {Q' : Exit → Act → World → Prop} (h : ∀ v w', K v w' → K' (a.put o.dst v) w') (hh : effAt P o a w K) : o.wp P a w K' Q' := by
  unfold effAt at hh
  unfold Oper.wp
  generalize (execOp a.eval o).run P w = r at *
  cases r with
  | ok n w' =>
    cases n <;> simp only [effUpon] at hh <;> simp only [Oper.upon]
    case value u => exact h _ _ hh
    case skip => exact h _ _ hh
    case enter f args => exact hh.mono fun e w'' ⟨v, he, hk⟩ => by subst he; exact h _ _ hk
  | halt x w' => simp only [effUpon] at hh
/-- an operation that only reads: one value in every world of the class, the world as it was. -/
def still (P : Program) (C : World → Prop) (o : Oper) (a : Act) (v : Value) : Prop := ∀ w, C w → o.quietAt P a (fun w' => w' = w) w v
def mOp (P : Program) (ops : Array Oper) (eff : Nat → Bool) (C : World → Prop) (i : Nat) (K : Act → World → Prop) (a : Act) (w : World) : Prop :=
  match ops[i]? with
  | none => K a w
  | some o => if Region.wanted o (yielded ops a.tmps) = true then (if eff i = true then effAt P o a w (fun v w' => C w' ∧ K (a.put o.dst v) w') else ∃ v, still P C o a v ∧ K (a.put o.dst v) w) else K (a.put o.dst undef) w
def wpAnyM (P : Program) (md : Region.Mode) (ops : Array Oper) (eff : Nat → Bool) (C : World → Prop) (Q : Act → World → Prop) : Nat → Array Bool → Act → World → Prop
  | 0, listed, a, w => Region.ready md ops listed = [] ∧ Q a w
  | fuel + 1, listed, a, w => (Region.ready md ops listed = [] → Q a w) ∧ ∀ i ∈ Region.ready md ops listed, mOp P ops eff C i (wpAnyM P md ops eff C Q fuel (listed.setIfInBounds i true)) a w
def wpMix (P : Program) (ops : Array Oper) (eff : Nat → Bool) (C : World → Prop) (Q : Act → World → Prop) : List Nat → Act → World → Prop
  | [], a, w => Q a w
  | i :: rest, a, w => mOp P ops eff C i (wpMix P ops eff C Q rest) a w
theorem mOp_mono {i : Nat} {K K' : Act → World → Prop} {a : Act} {w : World} (hC : C w) (h : ∀ a w, C w → K a w → K' a w) (hh : mOp P ops eff C i K a w) : mOp P ops eff C i K' a w := by
  unfold mOp at *
  split
  · next ho => rw [ho] at hh; exact h _ _ hC hh
  · next o ho =>
    rw [ho] at hh
    simp only at hh
    split
    · next hw =>
      rw [if_pos hw] at hh
      split
      · next he =>
        rw [if_pos he] at hh
        exact effAt_mono (fun v w' hk => ⟨hk.1, h _ _ hk.1 hk.2⟩) hh
      · next he =>
        rw [if_neg he] at hh
        obtain ⟨v, h1, h2⟩ := hh
        exact ⟨v, h1, h _ _ hC h2⟩
    · next hw =>
      rw [if_neg hw] at hh
      exact h _ _ hC hh
theorem wp_of_still {o : Oper} {a : Act} {v : Value} {K : Act → World → Prop} {Q' : Exit → Act → World → Prop} {w : World} (hC : C w) (h1 : still P C o a v) (h2 : K (a.put o.dst v) w) : o.wp P a w K Q' :=
  Oper.wp_of_quiet (C := fun w' => w' = w) (K := fun a' => a' = a.put o.dst v) rfl (fun a' w' hw' ha => by subst hw'; subst ha; exact h2) ⟨v, fun w' hw' => by subst hw'; exact h1 _ hC, rfl⟩
theorem wpOp_of_mOp {i : Nat} {a : Act} {K K' : Act → World → Prop} {Q' : Exit → Act → World → Prop} {w : World} (hC : C w) (h : ∀ a w', C w' → K a w' → K' a w') (hh : mOp P ops eff C i K a w) : wpOp P ops Q' i K' a w := by
  unfold mOp at hh
  unfold wpOp
  split
  · next ho => rw [ho] at hh; exact h _ _ hC hh
  · next o ho =>
    rw [ho] at hh
    simp only at hh
    split
    · next hw =>
      rw [if_pos hw] at hh
      split at hh
      · exact .inl (wp_of_effAt (fun v w' hk => h _ _ hk.1 hk.2) hh)
      · obtain ⟨v, h1, h2⟩ := hh
        exact .inl (wp_of_still hC h1 (h _ _ hC h2))
    · next hw =>
      rw [if_neg hw] at hh
      exact h _ _ hC hh
theorem wpAny_of_mix {Q' : Exit → Act → World → Prop} (hQ : ∀ a w, C w → Q a w → Q' .normal a w) : ∀ (fuel : Nat) (listed : Array Bool) (a : Act) (w : World), C w → wpAnyM P md ops eff C Q fuel listed a w → wpAny P md ops Q' fuel listed a w
  | 0, _, _, _, hw, h => ⟨h.1, hQ _ _ hw h.2⟩
  | fuel + 1, _, _, _, hw, h => ⟨fun h0 => hQ _ _ hw (h.1 h0), fun i hi => wpOp_of_mOp hw (fun a' w' hw' => wpAny_of_mix hQ fuel _ a' w' hw') (h.2 i hi)⟩
/-- operation o leaves v, whether it is wanted or not. -/
def stillY (P : Program) (ops : Array Oper) (C : World → Prop) (o : Oper) (v : Value) (a : Act) : Prop :=
  (Region.wanted o (yielded ops a.tmps) = true ∧ still P C o a v) ∨ (Region.wanted o (yielded ops a.tmps) = false ∧ v = undef)
theorem stillY.of_same {o : Oper} {v : Value} {a a' : Act} (hy : stillY P ops C o v a) (he : execOp a'.eval o = execOp a.eval o) (hw : Region.wanted o (yielded ops a'.tmps) = Region.wanted o (yielded ops a.tmps)) : stillY P ops C o v a' := by
  unfold stillY still Oper.quietAt at *
  rw [he, hw]
  exact hy
theorem stillY.mOp {i : Nat} {o : Oper} {v : Value} {a : Act} {w : World} (hi : ops[i]? = some o) (hy : stillY P ops C o v a) (he : eff i = false ∨ Region.wanted o (yielded ops a.tmps) = false) {K : Act → World → Prop} (h : K (a.put o.dst v) w) : mOp P ops eff C i K a w := by
  unfold Proofs.YtghjffgaebnhiaaDoor.mOp
  rw [hi]
  simp only
  rcases hy with ⟨hw, hv⟩ | ⟨hw, rfl⟩
  · rw [if_pos hw, if_neg]
    · exact ⟨v, hv, h⟩
    · rcases he with he | he
      · rw [he]; decide
      · rw [he] at hw; cases hw
  · rw [if_neg (by rw [hw]; decide)]
    exact h
theorem mOp_put {j : Nat} {oi oj : Oper} {v : Value} (hj : ops[j]? = some oj) (hap : oi.apart ops oj = true)
    (hsi : ∀ cs b, oi.op ≠ .select cs b) (hsj : ∀ cs b, oj.op ≠ .select cs b) {K : Act → World → Prop} {a : Act} {w : World}
    (hy : stillY P ops C oi v a) (hjw : eff j = true → True) (h : mOp P ops eff C j K (a.put oi.dst v) w) :
    mOp P ops eff C j (fun a' w' => stillY P ops C oi v a' ∧ Region.wanted oi (yielded ops a'.tmps) = Region.wanted oi (yielded ops a.tmps) ∧ K (a'.put oi.dst v) w') a w := by
  obtain ⟨h1, h2, h3⟩ := Oper.apart_spec hap
  have keep : ∀ u, stillY P ops C oi v (a.put oj.dst u) := fun u => hy.of_same (execOp_put oi hsi a oj.dst u h3) (wanted_put oi a oj.dst u h3)
  have keepw : ∀ u, Region.wanted oi (yielded ops (a.put oj.dst u).tmps) = Region.wanted oi (yielded ops a.tmps) := fun u => wanted_put oi a oj.dst u h3
  unfold Proofs.YtghjffgaebnhiaaDoor.mOp at *
  rw [hj] at h ⊢
  simp only at h ⊢
  rw [wanted_put oj a oi.dst v h1] at h
  split
  · next hw =>
    rw [if_pos hw] at h
    split
    · next he =>
      rw [if_pos he] at h
      unfold effAt at h ⊢
      rw [execOp_put oj hsj a oi.dst v h1] at h
      exact effAt_mono (o := oj) (a := a) (fun u w' hk => ⟨hk.1, keep u, keepw u, by rw [← Act.put_comm a v u h2]; exact hk.2⟩) h
    · next he =>
      rw [if_neg he] at h
      obtain ⟨u, hu, hn⟩ := h
      refine ⟨u, fun w0 hw0 => ?_, keep u, keepw u, by rw [← Act.put_comm a v u h2]; exact hn⟩
      have := hu w0 hw0
      unfold Oper.quietAt at *
      rwa [execOp_put oj hsj a oi.dst v h1] at this
  · next hw =>
    rw [if_neg hw] at h
    exact ⟨keep _, keepw _, by rw [← Act.put_comm a v undef h2]; exact h⟩
/-- an operation that only reads may be taken first. -/
theorem wpAnyM_first {i : Nat} {oi : Oper} {v : Value} (hi : ops[i]? = some oi) (hsel : ∀ (j : Nat) (o : Oper) cs b, ops[j]? = some o → o.op ≠ .select cs b) :
    ∀ (fuel : Nat) (listed : Array Bool) (a : Act) (w : World), C w → (eff i = false ∨ Region.wanted oi (yielded ops a.tmps) = false) →
      (∀ j oj, ops[j]? = some oj → j ≠ i → listed.getD j true = false → (∀ e ∈ oj.after, Region.binds md e = true → e.on ≠ i) → oi.apart ops oj = true) →
      i ∈ Region.ready md ops listed → stillY P ops C oi v a →
      wpAnyM P md ops eff C Q fuel (listed.setIfInBounds i true) (a.put oi.dst v) w → wpAnyM P md ops eff C Q (fuel + 1) listed a w := by
  intro fuel
  induction fuel with
  | zero =>
    intro listed a w hC he _ hr hy H
    refine ⟨fun h => (by rw [h] at hr; cases hr), fun j hj => ?_⟩
    by_cases hji : j = i
    · subst hji; exact hy.mOp hi he H
    · have := ready_mono hj hji
      rw [H.1] at this
      cases this
  | succ fuel ih =>
    intro listed a w hC he hfree hr hy H
    refine ⟨fun h => (by rw [h] at hr; cases hr), fun j hj => ?_⟩
    by_cases hji : j = i
    · subst hji; exact hy.mOp hi he H
    · have h1 := H.2 j (ready_mono hj hji)
      obtain ⟨hjun, oj, hoj, hall⟩ := mem_ready.1 hj
      have hnot : ∀ e ∈ oj.after, Region.binds md e = true → e.on ≠ i := fun e he hb heq => by
        have h1 := hall e he hb
        have h0 := (mem_ready.1 hr).1
        rw [heq] at h1
        rcases Nat.lt_or_ge i listed.size with h' | h'
        · simp [h'] at h0 h1; rw [h0] at h1; cases h1
        · simp [Array.getElem?_eq_none h'] at h1
      have h2 := mOp_put hoj (hfree j oj hoj hji hjun hnot) (fun cs b => hsel i oi cs b hi) (fun cs b => hsel j oj cs b hoj) hy (fun _ => trivial) h1
      have hfree' : ∀ k ok, ops[k]? = some ok → k ≠ i → (listed.setIfInBounds j true).getD k true = false →
          (∀ e ∈ ok.after, Region.binds md e = true → e.on ≠ i) → oi.apart ops ok = true := fun k ok hk hki hun hno => by
        refine hfree k ok hk hki ?_ hno
        by_cases hjk : j = k
        · subst hjk; exact hjun
        · rw [getD_set_ne true hjk] at hun; exact hun
      refine mOp_mono hC (fun a' w' hC' h3 => ih (listed.setIfInBounds j true) a' w' hC' (he.imp id fun h => by rw [h3.2.1]; exact h) hfree' (ready_mono hr (Ne.symm hji)) h3.1 ?_) h2
      rw [Array.setIfInBounds_comm _ _ hji]
      exact h3.2.2
/-- may this order be walked? -/
def mixB (md : Region.Mode) (ops : Array Oper) (eff : Nat → Bool) : List Nat → Array Bool → Bool
  | [], listed => (Region.ready md ops listed).isEmpty
  | i :: rest, listed => (if eff i then Region.ready md ops listed == [i] else (Region.ready md ops listed).contains i && Region.free md ops listed i) && mixB md ops eff rest (listed.setIfInBounds i true)
theorem stillY_of_mOp {i : Nat} {o : Oper} {a : Act} {w : World} {K : Act → World → Prop} (hi : ops[i]? = some o) (he : eff i = false) (h : mOp P ops eff C i K a w) : ∃ v, stillY P ops C o v a ∧ K (a.put o.dst v) w := by
  unfold mOp at h
  rw [hi] at h
  simp only at h
  by_cases hw : Region.wanted o (yielded ops a.tmps) = true
  · rw [if_pos hw, if_neg (by rw [he]; decide)] at h
    obtain ⟨v, h1, h2⟩ := h
    exact ⟨v, .inl ⟨hw, h1⟩, h2⟩
  · rw [if_neg hw] at h
    exact ⟨undef, .inr ⟨by simpa using hw, rfl⟩, h⟩
theorem wpAnyM_mix (hs : Region.noSelect ops = true) : ∀ (l : List Nat) (listed : Array Bool) (a : Act) (w : World), C w → mixB md ops eff l listed = true → wpMix P ops eff C Q l a w → wpAnyM P md ops eff C Q l.length listed a w
  | [], listed, a, w, _, hB, h => ⟨by simpa [mixB] using hB, h⟩
  | i :: l, listed, a, w, hC, hB, h => by
    simp only [mixB, Bool.and_eq_true] at hB
    obtain ⟨hB1, hB2⟩ := hB
    by_cases he : eff i = true
    · rw [if_pos he] at hB1
      have hr : Region.ready md ops listed = [i] := by simpa using hB1
      refine ⟨fun h0 => (by rw [h0] at hr; cases hr), fun j hj => ?_⟩
      rw [hr] at hj
      obtain rfl := List.mem_singleton.1 hj
      exact mOp_mono hC (fun a' w' hC' h3 => wpAnyM_mix hs l _ a' w' hC' hB2 h3) h
    · rw [if_neg he, Bool.and_eq_true] at hB1
      obtain ⟨hr, hf⟩ := hB1
      have hr' : i ∈ Region.ready md ops listed := by simpa using hr
      obtain ⟨_, o, h0, _⟩ := mem_ready.1 hr'
      have hef : eff i = false := by simpa using he
      obtain ⟨v, hy, hK⟩ := stillY_of_mOp h0 hef h
      exact wpAnyM_first h0 (Region.noSelect_spec hs) l.length listed a w hC (.inl hef) (Region.free_spec h0 hf) hr' hy (wpAnyM_mix hs l _ _ w hC hB2 hK)
/-- a region that draws its order, of reads and of a chain of operations with effects: walked in the order ord. -/
theorem region_mix {id : Nat} {Q : Exit → Act → World → Prop} {a : Act} {w : World} {l : List Oper} (C : World → Prop) (eff : Nat → Bool) (ord : List Nat) (hm : P.follows .mixedOrders = true) (hB : (Region.noSelect l.toArray && (ord.length == l.length) && mixB .any l.toArray eff ord (Array.replicate l.length false)) = true) (hC : C w.drew)
    (h : wpMix P l.toArray eff C (fun a' w' => Q .normal a' w') ord a w.drew) : (Code.region id l.toArray true).wp P Q a w := by
  simp only [Bool.and_eq_true, beq_iff_eq] at hB
  obtain ⟨⟨hs, hl⟩, hb⟩ := hB
  refine wp_region_any hm (wpAny_of_mix (eff := eff) (Q := fun a' w' => Q .normal a' w') (fun _ _ _ h => h) _ _ _ _ hC ?_)
  have := wpAnyM_mix (C := C) (md := .any) hs ord (Array.replicate l.length false) a w.drew hC hb h
  rw [hl] at this
  simpa using this
theorem mix_pure {i : Nat} {o : Oper} {rest : List Nat} {a : Act} {w : World} (ho : ops[i]? = some o) (he : eff i = false) (hw : Region.wanted o (yielded ops a.tmps) = true) (h : ∃ v, (∀ w', C w' → o.quietAt P a (fun x => x = w') w' v) ∧ wpMix P ops eff C Q rest (a.put o.dst v) w) : wpMix P ops eff C Q (i :: rest) a w := by
  show mOp P ops eff C i _ a w
  unfold mOp
  rw [ho]
  simp only
  rw [if_pos hw, if_neg (by rw [he]; decide)]
  exact h
theorem mix_skip {i : Nat} {o : Oper} {rest : List Nat} {a : Act} {w : World} (ho : ops[i]? = some o) (hw : Region.wanted o (yielded ops a.tmps) = false) (h2 : wpMix P ops eff C Q rest (a.put o.dst undef) w) : wpMix P ops eff C Q (i :: rest) a w := by
  show mOp P ops eff C i _ a w
  unfold mOp
  rw [ho]
  simp only
  rw [if_neg (by rw [hw]; decide)]
  exact h2
theorem mix_eff {i : Nat} {o : Oper} {rest : List Nat} {a : Act} {w : World} (ho : ops[i]? = some o) (he : eff i = true) (hw : Region.wanted o (yielded ops a.tmps) = true) (h : effAt P o a w (fun v w' => C w' ∧ wpMix P ops eff C Q rest (a.put o.dst v) w')) : wpMix P ops eff C Q (i :: rest) a w := by
  show mOp P ops eff C i _ a w
  unfold mOp
  rw [ho]
  simp only
  rw [if_pos hw, if_pos he]
  exact h
theorem mix_nil {a : Act} {w : World} (h : Q a w) : wpMix P ops eff C Q [] a w := h
end
end Go.Proofs.YtghjffgaebnhiaaDoor
