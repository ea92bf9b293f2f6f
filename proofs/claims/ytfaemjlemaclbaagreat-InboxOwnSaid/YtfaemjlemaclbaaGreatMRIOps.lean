/- The calls on the reference's inbox, over what the mind has of it. -/
import Derived.Test.YtfaemjlemaclbaaGreatMRDec
namespace Go.Proofs.YtfaemjlemaclbaaGreat
set_option linter.unusedVariables false
set_option linter.unusedSimpArgs false
open Go.RowKit Go.Maps
structure RIn (w : World) (d : Nat) (F : Nat → Prop) (m : IM) : Prop where
  ex : ∃ vo vs L, RIAt w d vo vs L m ∧ ∀ k, RIF d vo vs L k ↔ F k
section
variable {w w' : World} {d : Nat} {F S : Nat → Prop} {m : IM}
theorem RIn.same (h : RIn w d F m) (hs : Same S w w') (hS : ∀ k, F k → ¬ S k) : RIn w' d F m := by
  obtain ⟨vo, vs, L, h1, h2⟩ := h
  exact ⟨vo, vs, L, h1.same hs fun k hk => hS k ((h2 k).1 hk), h2⟩
theorem RIn.later (h : RIn w d F m) (hb : Below w.heap.size w w') : RIn w' d F m := h.same (Same.of_below hb no) fun _ _ h => h
theorem RIn.lt (h : RIn w d F m) {k : Nat} (hk : F k) : k < w.heap.size := by
  obtain ⟨vo, vs, L, h1, h2⟩ := h
  exact h1.lt ((h2 k).2 hk)
theorem tookR_in {U : Nat → Prop} (h : TookR w w' d U m) (hU : ∀ k, U k ↔ F k) : ∃ F', RIn w' d F' m ∧ Turn F F' w w' := by
  obtain ⟨vo, vs, L, h1, h2⟩ := h
  exact ⟨_, ⟨vo, vs, L, h1, fun k => Iff.rfl⟩, h2.congr (fun k hk => (hU k).1 hk) fun k hk => .inl hk⟩
end
/-- what a Take of the reference answers. -/
def RAnswers (w w' : World) (d : Nat) (F : Nat → Prop) (m' : IM) (a : Ans) (e : Ending) : Prop :=
  ∃ gv bv, e = .returned (.agg #[.int .i64 a.st, .int .i64 a.code, gv, bv]) ∧ w'.ownsRow w.heap.size 63 2 gv a.got.length (rvs a.got) ∧ w'.ownsRow w.heap.size 5 1 bv a.blk.length (a.blk.map ub) ∧ ∃ F', RIn w' d F' m' ∧ Turn F F' w w'
theorem ranswers {w w' : World} {d : Nat} {F U : Nat → Prop} {m' : IM} {a : Ans} {e : Ending} (h : AnswersR w w' d U m' a e) (hU : ∀ k, U k ↔ F k) : RAnswers w w' d F m' a e := by
  obtain ⟨gv, bv, h1, h2, h3, h4⟩ := h
  exact ⟨gv, bv, h1, h2, h3, tookR_in h4 hU⟩
theorem rturn_below {w w' : World} {d : Nat} {F : Nat → Prop} {m : IM} (h : RIn w d F m) (hB : Below w.heap.size w w') : ∃ F', RIn w' d F' m ∧ Turn F F' w w' := ⟨F, h.later hB, Turn.of_below hB F⟩
theorem ri_take {w : World} {d : Nat} {F : Nat → Prop} {m : IM} (h : RIn w d F m) (hi : IInv m) (u : UD) (dp gp : Option Addr) (dc gc : Nat) (hd : Bs w (.slice dp u.data.length dc) u.data) (hdn : u.data ≠ [] → ∀ k, (Value.slice dp u.data.length dc).ownBlock = some k → k < w.heap.size ∧ ¬ F k) :
    Calls Tryz.prog 15 #[.pointer (some ⟨d, 0, none⟩), uv u (.slice dp u.data.length dc) (.slice gp u.got.length gc)] w fun e w' => RAnswers w w' d F (m.take u).1 (m.take u).2 e := by
  obtain ⟨vo, vs, L, hA, hF⟩ := h
  by_cases hdat : u.isData
  · by_cases hs : u.ep.toNat < m.ep.toNat
    · have e1 : m.take u = (m, ⟨1, 0, [], []⟩) := by rw [IM.take, if_neg (not_not_intro hdat), if_pos hs]
      rw [e1]
      refine (rtake_stale hA u dp gp dc gc hdat hs).mono ?_
      rintro e w' ⟨rfl, hT⟩
      exact ranswers (rans_none hT) hF
    · have e1 : m.take u = (m.rise u.ep).late u := by rw [IM.take, if_neg (not_not_intro hdat), if_neg hs]
      rw [e1]
      cases hc : lk (m.rise u.ep).C (u.ep, u.ses) with
      | some cd =>
        have e2 : (m.rise u.ep).late u = ((m.rise u.ep).touch (u.ep, u.ses) cd, ⟨5, cd, [], []⟩) := by rw [IM.late, hc]
        rw [e2]
        refine (rtake_shut hA u dp gp dc gc hi hdat hs hc).mono ?_
        rintro e w' ⟨rfl, hT⟩
        exact ranswers (rans_none hT) hF
      | none =>
        have e2 : (m.rise u.ep).late u = (m.rise u.ep).seg (u.ep, u.ses) u := by rw [IM.late, hc]
        rw [e2]
        have hne : u.data ≠ [] := fun e => by
          have h1 := hdat.2.2.2.2.2.2.2.2.1
          rw [e] at h1
          simp at h1
        refine (rtake_seg hA u dp gp dc gc hi hd (fun k e => ⟨(hdn hne k e).1, fun hk => (hdn hne k e).2 ((hF k).1 hk)⟩) hdat hs hc).mono ?_
        intro e w' hT
        exact ranswers hT hF
  · have e1 : m.take u = (m, ⟨2, 0, [], []⟩) := by rw [IM.take, if_pos hdat]
    rw [e1]
    refine (rtake_bad hA u dp gp dc gc hdat).mono ?_
    rintro e w' ⟨rfl, hT⟩
    exact ranswers (rans_none hT) hF
theorem ri_dec {w : World} {d : Nat} {F : Nat → Prop} {m : IM} (h : RIn w d F m) (hi : IInv m) (s : Sess) (code : Int) :
    Calls Tryz.prog 30 #[.pointer (some ⟨d, 0, none⟩), .agg #[.int .u64 (s.1.toNat : Int), .int .u64 (s.2.toNat : Int)], .int .i64 code] w fun e w' => e = .returned (.int .i64 (m.dec s code).2) ∧ ∃ F', RIn w' d F' (m.dec s code).1 ∧ Turn F F' w w' := by
  have hR := h
  obtain ⟨vo, vs, L, hA, hF⟩ := h
  by_cases hg : badD s code
  · have e1 : m.dec s code = (m, 1) := if_pos hg
    rw [e1]
    refine (rdec_bad hA s code hg).mono ?_
    rintro e w' ⟨rfl, hB⟩
    exact ⟨rfl, rturn_below hR hB⟩
  · by_cases ho : s.1.toNat < m.ep.toNat
    · have e1 : m.dec s code = (m, 83) := by rw [IM.dec, if_neg hg, if_pos ho]
      rw [e1]
      refine (rdec_old hA s code hg ho).mono ?_
      rintro e w' ⟨rfl, hB⟩
      exact ⟨rfl, rturn_below hR hB⟩
    · cases hl : lk m.C s with
      | some c =>
        have e1 : m.dec s code = (m, 3) := by rw [IM.dec, if_neg hg, if_neg ho, hl]; rfl
        rw [e1]
        refine (rdec_twice hA s code hi hg ho hl).mono ?_
        rintro e w' ⟨rfl, hB⟩
        exact ⟨rfl, rturn_below hR hB⟩
      | none =>
        have e1 : m.dec s code = ((m.rise s.1).shut s code, 0) := by rw [IM.dec, if_neg hg, if_neg ho, hl, if_neg (by decide)]
        rw [e1]
        refine (rdec_ok hA s code hi hg ho hl).mono ?_
        rintro e w' ⟨rfl, hT⟩
        exact ⟨rfl, tookR_in hT hF⟩
theorem ri_drop {w : World} {d : Nat} {F : Nat → Prop} {m : IM} (h : RIn w d F m) (hi : IInv m) (s : Sess) :
    Calls Tryz.prog 32 #[.pointer (some ⟨d, 0, none⟩), .agg #[.int .u64 (s.1.toNat : Int), .int .u64 (s.2.toNat : Int)]] w fun e w' => e = .returned (.bool (m.drop s).2) ∧ ∃ F', RIn w' d F' (m.drop s).1 ∧ Turn F F' w w' := by
  have hR := h
  obtain ⟨vo, vs, L, hA, hF⟩ := h
  cases hl : lk m.O s with
  | none =>
    have e1 : m.drop s = (m, false) := by rw [IM.drop, hl, if_neg (by decide)]
    rw [e1]
    refine (rdrop_no hA s hi hl).mono ?_
    rintro e w' ⟨rfl, hB⟩
    exact ⟨rfl, rturn_below hR hB⟩
  | some b =>
    have e1 : m.drop s = ({ m with O := wo m.O s }, true) := by rw [IM.drop, hl]; rfl
    rw [e1]
    refine (rdrop_yes hA s hi hl).mono ?_
    rintro e w' ⟨rfl, hT⟩
    exact ⟨rfl, tookR_in hT hF⟩
theorem ri_new (a b : Nat) (w : World) (h : 1 ≤ (a : Int) ∧ (a : Int) ≤ 64 ∧ 1 ≤ (b : Int) ∧ (b : Int) ≤ 4096) :
    Calls Tryz.prog 23 #[.int .i64 (a : Int), .int .i64 (b : Int)] w fun e w' => ∃ d F, e = .returned (.tuple #[.pointer (some ⟨d, 0, none⟩), .int .i64 0]) ∧ RIn w' d F ⟨a, b, 0, [], []⟩ ∧ (∀ k, F k → w.heap.size ≤ k) ∧ Below w.heap.size w w' := by
  refine (rinew_in a b w h).mono ?_
  rintro e w' ⟨d, rfl, h1, h2, h3⟩
  refine ⟨d, _, rfl, ⟨_, _, _, h1, fun k => Iff.rfl⟩, fun k hk => ?_, h3⟩
  rcases hk with e | e | e | ⟨o, ho, e⟩
  · omega
  · cases e
  · cases e
  · cases ho
end Go.Proofs.YtfaemjlemaclbaaGreat
