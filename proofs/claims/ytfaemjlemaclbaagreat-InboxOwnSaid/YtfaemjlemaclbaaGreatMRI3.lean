/- How the reference's inbox goes from state to state. -/
import Derived.Test.YtfaemjlemaclbaaGreatMRI2
namespace Go.Proofs.YtfaemjlemaclbaaGreat
set_option linter.unusedVariables false
set_option linter.unusedSimpArgs false
open Go.RowKit Go.Maps
section
variable {w w' : World} {d : Nat} {vo vs v' : Value} {L A B : List RO} {m : IM} {o : RO}
/-- the box of one turned. -/
theorem RIAt.rebox (h : RIAt w d vo vs (A ++ o :: B) m) {F' : Nat → Prop} {b' : BoxS} (hb : RB w' o.r F' b') (t : Turn o.F F' w w') :
    RIAt w' d vo vs (A ++ ⟨o.s, o.r, F', b'⟩ :: B) { m with O := (A ++ ⟨o.s, o.r, F', b'⟩ :: B).map RO.m } ∧ Turn (RIF d vo vs (A ++ o :: B)) (RIF d vo vs (A ++ ⟨o.s, o.r, F', b'⟩ :: B)) w w' := by
  have ho : o ∈ A ++ o :: B := by simp
  have hdj := h.dj
  rw [List.pairwise_append, List.pairwise_cons] at hdj
  obtain ⟨d1, ⟨d2, d3⟩, d4⟩ := hdj
  have hne : ∀ a, a ∈ A ∨ a ∈ B → ∀ k, a.F k → ¬ o.F k := fun a ha k hk hk' => by
    rcases ha with ha | ha
    · exact d4 a ha o (List.mem_cons_self ..) k hk hk'
    · exact d2 a ha k hk' hk
  have hmem : ∀ a, a ∈ A ∨ a ∈ B → a ∈ A ++ o :: B := fun a ha => by
    rcases ha with ha | ha
    · exact List.mem_append_left _ ha
    · exact List.mem_append_right _ (List.mem_cons_of_mem _ ha)
  have hne' : ∀ a, a ∈ A ∨ a ∈ B → ∀ k, a.F k → ¬ F' k := fun a ha k hk hk' => by
    rcases t.foot k hk' with e | e
    · exact hne a ha k hk e
    · have := (h.bx a (hmem a ha)).lt hk
      omega
  have hbx : ∀ k, o.F k → k ≠ d ∧ vo.ownBlock ≠ some k ∧ vs.ownBlock ≠ some k := fun k hk => h.bx_ne ho hk
  have e1 : (A ++ (⟨o.s, o.r, F', b'⟩ : RO) :: B).map RO.e = (A ++ o :: B).map RO.e := by simp [RO.e]
  refine ⟨⟨h.blk.same t.same fun hk => (hbx d hk).1 rfl, ?_, own_same h.rs t.same fun k e hk => (hbx k hk).2.2 e, fun a ha => ?_, ?_, rfl⟩, t.same.mono fun k _ hk => .inr (.inr (.inr ⟨o, ho, hk⟩)), fun k hk => ?_⟩
  · rw [e1]
    have := own_same h.ro t.same fun k e hk => (hbx k hk).2.1 e
    simpa using this
  · rcases List.mem_append.1 ha with ha | ha
    · exact (h.bx a (hmem a (.inl ha))).same t.same (hne a (.inl ha))
    · rcases List.mem_cons.1 ha with rfl | ha
      · exact hb
      · exact (h.bx a (hmem a (.inr ha))).same t.same (hne a (.inr ha))
  · rw [List.pairwise_append, List.pairwise_cons]
    refine ⟨d1, ⟨fun a ha k hk hk' => hne' a (.inr ha) k hk' hk, d3⟩, fun a ha c hc k hk hk' => ?_⟩
    rcases List.mem_cons.1 hc with rfl | hc
    · exact hne' a (.inl ha) k hk hk'
    · exact d4 a ha c (List.mem_cons_of_mem _ hc) k hk hk'
  · rcases hk with e | e | e | ⟨a, ha, e⟩
    · exact .inl (.inl e)
    · exact .inl (.inr (.inl e))
    · exact .inl (.inr (.inr (.inl e)))
    · rcases List.mem_append.1 ha with ha | ha
      · exact .inl (.inr (.inr (.inr ⟨a, hmem a (.inl ha), e⟩)))
      · rcases List.mem_cons.1 ha with rfl | ha
        · exact (t.foot k e).imp (fun e => .inr (.inr (.inr ⟨o, ho, e⟩))) id
        · exact .inl (.inr (.inr (.inr ⟨a, hmem a (.inr ha), e⟩)))
theorem rif_sub {L' : List RO} (hs : ∀ a ∈ L', a ∈ L) {k : Nat} (h : RIF d vo vs L' k) : RIF d vo vs L k := by
  rcases h with e | e | e | ⟨a, ha, e⟩
  · exact .inl e
  · exact .inr (.inl e)
  · exact .inr (.inr (.inl e))
  · exact .inr (.inr (.inr ⟨a, hs a ha, e⟩))
/-- an open one came. -/
theorem RIAt.addO (h : RIAt w d vo vs L m) (hb : RB w o.r o.F o.box) (hdj : ∀ a ∈ L, ∀ k, a.F k → ¬ o.F k) (ho : w'.ownsRow 0 80 3 v' (L.length + 1) (e3s (L.map RO.e) ++ e3 o.e)) (hg : w.grownBy w' vo.ownBlock) (hN : Newer w vo v') :
    RIAt (w'.setCell ⟨d, 3, none⟩ v') d v' vs (L ++ [o]) { m with O := m.O ++ [o.m] } ∧ Turn (fun k => RIF d vo vs L k ∨ o.F k) (RIF d v' vs (L ++ [o])) w (w'.setCell ⟨d, 3, none⟩ v') := by
  have hS : Same (fun k => k = d ∨ vo.ownBlock = some k) w (w'.setCell ⟨d, 3, none⟩ v') := ((Same.of_grown hg).mono fun i hi e => (.inr e.symm : i = d ∨ vo.ownBlock = some i)).setCell (p := ⟨d, 3, none⟩) (fun _ => .inl rfl) v'
  have hbd := hb
  have oF : ∀ k, o.F k → ¬ (k = d ∨ vo.ownBlock = some k) := fun k hk e => by
    rcases e with e | e
    · exact hb.ne hk h.blk (by decide) (by decide) (by decide) e
    · obtain ⟨cs, hc⟩ := own_at h.ro e
      exact hb.ne hk hc (by decide) (by decide) (by decide) rfl
  have hdn := h.d_ne
  refine ⟨⟨?_, ?_, own_same h.rs hS fun k e hk => ?_, fun a ha => ?_, ?_, by rw [List.map_append, h.eo]; rfl⟩, hS.mono fun k _ e => ?_, fun k hk => ?_⟩
  · have := (h.blk.grown hg hdn.1).set 3 v'
    exact this
  · have e1 : e3s ((L ++ [o]).map RO.e) = e3s (L.map RO.e) ++ e3 o.e := by rw [List.map_append, e3s_append]; simp [e3s]
    rw [e1, List.length_append]
    exact own_same ho ((Same.refl (at1 d) w').setCell (p := ⟨d, 3, none⟩) (fun _ => rfl) v') fun k e hk => own_blk_ne ho (h.blk.grown hg hdn.1) (by decide) (by rw [e, show k = d from hk])
  · rcases hk with hk | hk
    · exact hdn.2 (by rw [e, hk])
    · rcases h.so_ne with h1 | h1
      · rw [h1] at e; cases e
      · exact h1 (e.trans hk.symm)
  · rcases List.mem_append.1 ha with ha | ha
    · exact (h.bx a ha).same hS fun k hk e => by
        have := h.bx_ne ha hk
        rcases e with e | e
        · exact this.1 e
        · exact this.2.1 e
    · simp at ha
      subst ha
      exact hb.same hS oF
  · rw [List.pairwise_append]
    refine ⟨h.dj, List.pairwise_singleton _ _, fun a ha c hc k hk => ?_⟩
    simp at hc
    subst hc
    exact hdj a ha k hk
  · rcases e with e | e
    · exact .inl (.inl e)
    · exact .inl (.inr (.inl e))
  · rcases hk with e | e | e | ⟨a, ha, e⟩
    · exact .inl (.inl (.inl e))
    · rcases hN with h1 | ⟨k', h1, h2⟩
      · exact .inl (.inl (.inr (.inl (h1 ▸ e))))
      · rw [h1] at e
        injection e with e
        exact .inr (by omega)
    · exact .inl (.inl (.inr (.inr (.inl e))))
    · rcases List.mem_append.1 ha with ha | ha
      · exact .inl (.inl (.inr (.inr (.inr ⟨a, ha, e⟩))))
      · simp at ha
        subst ha
        exact .inl (.inr e)
/-- a decided one came. -/
theorem RIAt.addC (h : RIAt w d vo vs L m) {p : Sess × Int} (ho : w'.ownsRow 0 82 3 v' (m.C.length + 1) (e3s (m.C.map ce) ++ e3 (ce p))) (hg : w.grownBy w' vs.ownBlock) (hN : Newer w vs v') :
    RIAt (w'.setCell ⟨d, 4, none⟩ v') d vo v' L { m with C := m.C ++ [p] } ∧ Turn (RIF d vo vs L) (RIF d vo v' L) w (w'.setCell ⟨d, 4, none⟩ v') := by
  have hS : Same (fun k => k = d ∨ vs.ownBlock = some k) w (w'.setCell ⟨d, 4, none⟩ v') := ((Same.of_grown hg).mono fun i hi e => (.inr e.symm : i = d ∨ vs.ownBlock = some i)).setCell (p := ⟨d, 4, none⟩) (fun _ => .inl rfl) v'
  have hdn := h.d_ne
  refine ⟨⟨?_, own_same h.ro hS fun k e hk => ?_, ?_, fun a ha => (h.bx a ha).same hS fun k hk e => ?_, h.dj, h.eo⟩, hS.mono fun k _ e => ?_, fun k hk => ?_⟩
  · have := (h.blk.grown hg hdn.2).set 4 v'
    exact this
  · rcases hk with hk | hk
    · exact hdn.1 (by rw [e, hk])
    · rcases h.os_ne with h1 | h1
      · rw [h1] at e; cases e
      · exact h1 (e.trans hk.symm)
  · have e1 : e3s ((m.C ++ [p]).map ce) = e3s (m.C.map ce) ++ e3 (ce p) := by rw [List.map_append, e3s_append]; simp [e3s]
    show World.ownsRow _ 0 _ 3 v' (m.C ++ [p]).length (e3s ((m.C ++ [p]).map ce))
    rw [e1, List.length_append]
    exact own_same ho ((Same.refl (at1 d) w').setCell (p := ⟨d, 4, none⟩) (fun _ => rfl) v') fun k e hk => own_blk_ne ho (h.blk.grown hg hdn.2) (by decide) (by rw [e, show k = d from hk])
  · have := h.bx_ne ha hk
    rcases e with e | e
    · exact this.1 e
    · exact this.2.2 e
  · rcases e with e | e
    · exact .inl e
    · exact .inr (.inr (.inl e))
  · rcases hk with e | e | e | e
    · exact .inl (.inl e)
    · exact .inl (.inr (.inl e))
    · rcases hN with h1 | ⟨k', h1, h2⟩
      · exact .inl (.inr (.inr (.inl (h1 ▸ e))))
      · rw [h1] at e
        injection e with e
        exact .inr (by omega)
    · exact .inl (.inr (.inr (.inr e)))
/-- what a call on the reference's inbox leaves. -/
def TookR (w w' : World) (d : Nat) (U : Nat → Prop) (m' : IM) : Prop := ∃ vo' vs' L', RIAt w' d vo' vs' L' m' ∧ Turn U (RIF d vo' vs' L') w w'
theorem RIAt.took (h : RIAt w' d vo vs L m) {U : Nat → Prop} (t : Turn U (RIF d vo vs L) w w') {g : Nat} {cs : List Value} (hg : Blk w' g 47 cs) (hgw : w.heap.size ≤ g) (a b c e : Value) :
    TookR w ((((w'.setCell ⟨g, 0, none⟩ a).setCell ⟨g, 1, none⟩ b).setCell ⟨g, 2, none⟩ c).setCell ⟨g, 3, none⟩ e) d U m := by
  have hS8 : Same (at1 g) w' ((((w'.setCell ⟨g, 0, none⟩ a).setCell ⟨g, 1, none⟩ b).setCell ⟨g, 2, none⟩ c).setCell ⟨g, 3, none⟩ e) :=
    ((((Same.refl (at1 g) w').setCell (p := ⟨g, 0, none⟩) (fun _ => rfl) a).setCell (p := ⟨g, 1, none⟩) (fun _ => rfl) b).setCell (p := ⟨g, 2, none⟩) (fun _ => rfl) c).setCell (p := ⟨g, 3, none⟩) (fun _ => rfl) e
  refine ⟨vo, vs, L, h.same hS8 fun k hk hkg => ?_, t.same.trans hS8 fun i hi hkg => ?_, t.foot⟩
  · have hkg : k = g := hkg
    subst hkg
    rcases hk with e | e | e | ⟨o, ho, e⟩
    · exact h.blk.ne hg (by decide) e.symm
    · exact own_blk_ne h.ro hg (by decide) e
    · exact own_blk_ne h.rs hg (by decide) e
    · exact (h.bx o ho).ne e hg (by decide) (by decide) (by decide) rfl
  · have : i = g := hkg
    omega
end
end Go.Proofs.YtfaemjlemaclbaaGreat
