/- The calls on an inbox, over what the mind has of it. -/
import Derived.Test.YtfaemjlemaclbaaGreatMITake7
import Derived.Test.YtfaemjlemaclbaaGreatMBase
namespace Go.Proofs.YtfaemjlemaclbaaGreat
set_option linter.unusedVariables false
set_option linter.unusedSimpArgs false
open Go.RowKit Go.Maps
structure In (w : World) (x : Nat) (S : Nat → Prop) (n : Nat) (m : IM) : Prop where
  ex : ∃ bo bd t O C, IAt w x bo bd t O C m ∧ t ≤ n ∧ ∀ b, IF x bo bd O C b ↔ S b
  room : Room m
section
variable {w w' : World} {x n : Nat} {S U : Nat → Prop} {m : IM}
theorem In.same (h : In w x S n m) (hs : Same U w w') (hS : ∀ b, S b → ¬ U b) : In w' x S n m := by
  obtain ⟨⟨bo, bd, t, O, C, h1, h2, h3⟩, hr⟩ := h
  exact ⟨⟨bo, bd, t, O, C, h1.same hs fun b hb => hS b ((h3 b).1 hb), h2, h3⟩, hr⟩
theorem In.later (h : In w x S n m) (hb : Below w.heap.size w w') : In w' x S n m := h.same (Same.of_below hb no) fun _ _ h => h
theorem In.lt (h : In w x S n m) {b : Nat} (hb : S b) : b < w.heap.size := by
  obtain ⟨⟨bo, bd, t, O, C, h1, h2, h3⟩, hr⟩ := h
  exact h1.lt ((h3 b).2 hb)
theorem In.inv (h : In w x S n m) : IInv m := by
  obtain ⟨⟨bo, bd, t, O, C, h1, h2, h3⟩, hr⟩ := h
  exact h1.inv
theorem In.mono (h : In w x S n m) {n' : Nat} (hn : n ≤ n') : In w x S n' m := by
  obtain ⟨⟨bo, bd, t, O, C, h1, h2, h3⟩, hr⟩ := h
  exact ⟨⟨bo, bd, t, O, C, h1, Nat.le_trans h2 hn, h3⟩, hr⟩
/-- none of its blocks is of another type. -/
theorem In.ne (h : In w x S n m) {b g : Nat} {ty : TypeId} {cs : List Value} (hb : S b) (hg : Blk w g ty cs) (n1 : 87 ≠ ty) (n2 : 101 ≠ ty) (n3 : 93 ≠ ty) (n4 : 124 ≠ ty) : b ≠ g := by
  obtain ⟨⟨bo, bd, t, O, C, h1, h2, h3⟩, hr⟩ := h
  exact h1.alien hg n1 n2 n3 n4 b ((h3 b).2 hb)
theorem In.row (h : In w x S n m) {base k sz : Nat} {ty : TypeId} {v : Value} {cs : List Value} (hg : w.ownsRow base ty sz v k cs) (n1 : 87 ≠ ty) (n2 : 101 ≠ ty) (n3 : 93 ≠ ty) (n4 : 124 ≠ ty) :
    ∀ b, v.ownBlock = some b → ¬ S b := fun b e hb => by
  obtain ⟨_, ⟨rfl, _⟩ | ⟨g, cap, cur, rfl, _, h3, _⟩⟩ := hg
  · cases e
  · have : g = b := by simpa [Value.ownBlock] using e
    subst this
    exact h.ne (g := g) (cs := cur.toList) hb (by unfold Blk; simpa using h3) n1 n2 n3 n4 rfl
end
theorem took_in {w w' : World} {x bo bd t n : Nat} {O : List OE} {C : List CE} {S : Nat → Prop} {m' : IM} (h : Took w w' x bo bd t O C m') (hf : ∀ b, IF x bo bd O C b ↔ S b) (hr : Room m') (ht : t ≤ n) : ∃ S', In w' x S' n m' ∧ Turn S S' w w' := by
  obtain ⟨O', C', h1, h2, h3⟩ := h
  exact ⟨_, ⟨⟨bo, bd, t, O', C', h1, ht, fun b => Iff.rfl⟩, hr⟩, h2.mono fun b _ hb => (hf b).1 hb, fun b hb => (h3 b hb).imp (hf b).1 id⟩
/-- what Take answers. -/
def Answers (w w' : World) (x n : Nat) (S : Nat → Prop) (m' : IM) (a : Ans) (e : Ending) : Prop :=
  ∃ gv bv, e = .returned (.agg #[.int .i64 a.st, .int .i64 a.code, gv, bv]) ∧ w'.ownsRow w.heap.size 63 2 gv a.got.length (rvs a.got) ∧ w'.ownsRow w.heap.size 5 1 bv a.blk.length (a.blk.map ub) ∧
    ∃ S', In w' x S' n m' ∧ Turn S S' w w' ∧ ∀ b, gv.ownBlock = some b ∨ bv.ownBlock = some b → ¬ S' b
theorem answers_mk {w w' : World} {x n : Nat} {S : Nat → Prop} {m' : IM} {a : Ans} {gv bv : Value} (h1 : w'.ownsRow w.heap.size 63 2 gv a.got.length (rvs a.got)) (h2 : w'.ownsRow w.heap.size 5 1 bv a.blk.length (a.blk.map ub))
    (h : ∃ S', In w' x S' n m' ∧ Turn S S' w w') : Answers w w' x n S m' a (.returned (.agg #[.int .i64 a.st, .int .i64 a.code, gv, bv])) := by
  obtain ⟨S', h3, h4⟩ := h
  refine ⟨gv, bv, rfl, h1, h2, S', h3, h4, ?_⟩
  rintro b (e | e)
  · exact h3.row h1 (by decide) (by decide) (by decide) (by decide) b e
  · exact h3.row h2 (by decide) (by decide) (by decide) (by decide) b e
theorem answers_none {w w' : World} {x n : Nat} {S : Nat → Prop} {m' : IM} {st cd : Int} (h : ∃ S', In w' x S' n m' ∧ Turn S S' w w') : Answers w w' x n S m' ⟨st, cd, [], []⟩ (.returned (.agg #[.int .i64 st, .int .i64 cd, .slice none 0 0, .slice none 0 0])) :=
  answers_mk (a := ⟨st, cd, [], []⟩) (World.ownsRow_nil _ _ _ _) (World.ownsRow_nil _ _ _ _) h
theorem take_new {u : UD} {m : IM} {s : Sess} (hl : lk m.O s = none) (he : errOf (newBox u) u = 0) : m.seg s u = ({ m with O := m.evict ++ [(s, (newBox u).put u.idx u.data)] }, ansOf ((newBox u).put u.idx u.data)) := by
  unfold IM.seg
  rw [hl]
  exact if_pos he
theorem take_newN {u : UD} {m : IM} {s : Sess} (hl : lk m.O s = none) (he : ¬ errOf (newBox u) u = 0) : m.seg s u = (m, ⟨2, 0, [], []⟩) := by
  unfold IM.seg
  rw [hl]
  exact if_neg he
theorem take_old {u : UD} {m : IM} {s : Sess} {b : BoxS} (hl : lk m.O s = some b) (he : (b.cnt : Int) = u.cnt ∧ (errOf b u = 0 ∨ errOf b u = 3)) : m.seg s u = ({ m with O := wo m.O s ++ [(s, b.put u.idx u.data)] }, ansOf (b.put u.idx u.data)) := by
  unfold IM.seg
  rw [hl]
  exact if_pos he
theorem take_oldN {u : UD} {m : IM} {s : Sess} {b : BoxS} (hl : lk m.O s = some b) (he : ¬ ((b.cnt : Int) = u.cnt ∧ (errOf b u = 0 ∨ errOf b u = 3))) : m.seg s u = (m, ⟨2, 0, [], []⟩) := by
  unfold IM.seg
  rw [hl]
  exact if_neg he
theorem in_take {w : World} {x n : Nat} {S : Nat → Prop} {m : IM} (h : In w x S n m) (u : UD) (dp gp : Option Addr) (dc gc : Nat) (hd : Bs w (.slice dp u.data.length dc) u.data) (hdn : ∀ b, (Value.slice dp u.data.length dc).ownBlock = some b → ¬ S b) (hn : n < 4611686018427387904) :
    Calls Tryz.prog 14 #[.pointer (some ⟨x, 0, none⟩), uv u (.slice dp u.data.length dc) (.slice gp u.got.length gc)] w fun e w' => Answers w w' x (n + 1) S (m.take u).1 (m.take u).2 e := by
  have hI := h
  obtain ⟨⟨bo, bd, t, O, C, hA, ht, hf⟩, hr⟩ := h
  have hrt := hr.take hA.inv u
  have hdn' : ∀ b, (Value.slice dp u.data.length dc).ownBlock = some b → ¬ IF x bo bd O C b := fun b e hb => hdn b e ((hf b).1 hb)
  by_cases hdat : u.isData
  · have hk : u.kind = 1 := hdat.1
    by_cases hs : u.ep.toNat < m.ep.toNat
    · have e1 : m.take u = (m, ⟨1, 0, [], []⟩) := by rw [IM.take, if_neg (not_not_intro hdat), if_pos hs]
      rw [e1]
      refine (take_stale hA u dp gp dc gc hk hdat hs).mono ?_
      rintro e w' ⟨rfl, hB⟩
      exact answers_none ⟨S, (hI.later hB).mono (Nat.le_succ n), Turn.of_below hB S⟩
    · have e1 : m.take u = (m.rise u.ep).late u := by rw [IM.take, if_neg (not_not_intro hdat), if_neg hs]
      rw [e1] at hrt ⊢
      have hin := (hA.inv.rise u.ep).late (u := u) (rise_ep hs).symm hdat.2.2.2
      cases hc : lk (m.rise u.ep).C (u.ep, u.ses) with
      | some cd =>
        have e2 : (m.rise u.ep).late u = ((m.rise u.ep).touch (u.ep, u.ses) cd, ⟨5, cd, [], []⟩) := by rw [IM.late, hc]
        rw [e2] at hrt ⊢
        refine (take_shut hA u dp gp dc gc hk hdat hs hc (by omega)).mono ?_
        rintro e w' ⟨rfl, hT⟩
        exact answers_none (took_in hT hf hrt (by omega))
      | none =>
        have e2 : (m.rise u.ep).late u = (m.rise u.ep).seg (u.ep, u.ses) u := by rw [IM.late, hc]
        rw [e2] at hrt ⊢
        cases ho : lk (m.rise u.ep).O (u.ep, u.ses) with
        | none =>
          by_cases he : errOf (newBox u) u = 0
          · rw [take_new ho he] at hrt ⊢
            refine (take_new_ok hA u dp gp dc gc hd hdn' hk hdat hs hc ho he (by omega)).mono ?_
            rintro e w' ⟨gv, bv, rfl, h1, h2, hT⟩
            exact answers_mk h1 h2 (took_in hT hf hrt (by omega))
          · rw [take_newN ho he] at hrt ⊢
            refine (take_new_bad hA u dp gp dc gc hd hdn' hk hdat hs hc ho he).mono ?_
            rintro e w' ⟨rfl, hT⟩
            exact answers_none (took_in hT hf hrt (by omega))
        | some b =>
          by_cases hcnt : (b.cnt : Int) = u.cnt
          · by_cases he : errOf b u = 0 ∨ errOf b u = 3
            · rw [take_old ho ⟨hcnt, he⟩] at hrt ⊢
              refine (take_old_ok hA u dp gp dc gc hd hdn' hk hdat hs hc ho hcnt he (by omega)).mono ?_
              rintro e w' ⟨gv, bv, rfl, h1, h2, hT⟩
              exact answers_mk h1 h2 (took_in hT hf hrt (by omega))
            · rw [take_oldN ho (fun h => he h.2)] at hrt ⊢
              refine (take_old_err hA u dp gp dc gc hd hdn' hk hdat hs hc ho hcnt (fun h => he (.inl h)) (fun h => he (.inr h))).mono ?_
              rintro e w' ⟨rfl, hT⟩
              exact answers_none (took_in hT hf hrt (by omega))
          · rw [take_oldN ho (fun h => hcnt h.1)] at hrt ⊢
            refine (take_old_count hA u dp gp dc gc hd hdn' hk hdat hs hc ho hcnt).mono ?_
            rintro e w' ⟨rfl, hT⟩
            exact answers_none (took_in hT hf hrt (by omega))
  · have e1 : m.take u = (m, ⟨2, 0, [], []⟩) := by rw [IM.take, if_pos hdat]
    rw [e1]
    by_cases hk : u.kind = 1
    · refine (take_bad hA u dp gp dc gc hk hdat).mono ?_
      rintro e w' ⟨rfl, hB⟩
      exact answers_none ⟨S, (hI.later hB).mono (Nat.le_succ n), Turn.of_below hB S⟩
    · refine (take_kind hA u dp gp dc gc hk).mono ?_
      rintro e w' ⟨rfl, hB⟩
      exact answers_none ⟨S, (hI.later hB).mono (Nat.le_succ n), Turn.of_below hB S⟩
theorem in_dec {w : World} {x n : Nat} {S : Nat → Prop} {m : IM} (h : In w x S n m) (s : Sess) (code : Int) (hn : n < 4611686018427387904) :
    Calls Tryz.prog 26 #[.pointer (some ⟨x, 0, none⟩), .agg #[.int .u64 (s.1.toNat : Int), .int .u64 (s.2.toNat : Int)], .int .i64 code] w fun e w' => e = .returned (.int .i64 (m.dec s code).2) ∧ ∃ S', In w' x S' (n + 1) (m.dec s code).1 ∧ Turn S S' w w' := by
  have hI := h
  obtain ⟨⟨bo, bd, t, O, C, hA, ht, hf⟩, hr⟩ := h
  have hrt := hr.dec s code
  by_cases hg : badD s code
  · have e1 : m.dec s code = (m, 1) := if_pos hg
    rw [e1]
    refine (dec_bad hA s code hg).mono ?_
    rintro e w' ⟨rfl, hB⟩
    exact ⟨rfl, S, (hI.later hB).mono (Nat.le_succ n), Turn.of_below hB S⟩
  · by_cases ho : s.1.toNat < m.ep.toNat
    · have e1 : m.dec s code = (m, 83) := by rw [IM.dec, if_neg hg, if_pos ho]
      rw [e1]
      refine (dec_old hA s code hg ho).mono ?_
      rintro e w' ⟨rfl, hB⟩
      exact ⟨rfl, S, (hI.later hB).mono (Nat.le_succ n), Turn.of_below hB S⟩
    · cases hl : lk m.C s with
      | some c =>
        have e1 : m.dec s code = (m, 3) := by rw [IM.dec, if_neg hg, if_neg ho, hl]; rfl
        rw [e1]
        obtain ⟨ce, hc, hs, -⟩ := hA.memC hl
        refine (dec_twice hA s code hg ho hc hs).mono ?_
        rintro e w' ⟨rfl, hB⟩
        exact ⟨rfl, S, (hI.later hB).mono (Nat.le_succ n), Turn.of_below hB S⟩
      | none =>
        have e1 : m.dec s code = ((m.rise s.1).shut s code, 0) := by rw [IM.dec, if_neg hg, if_neg ho, hl, if_neg (by decide)]
        rw [e1] at hrt ⊢
        refine (dec_ok hA s code hg ho hl hr (by omega)).mono ?_
        rintro e w' ⟨rfl, hT⟩
        exact ⟨rfl, took_in (n := n + 1) hT hf hrt (by omega)⟩
theorem in_drop {w : World} {x n : Nat} {S : Nat → Prop} {m : IM} (h : In w x S n m) (s : Sess) :
    Calls Tryz.prog 31 #[.pointer (some ⟨x, 0, none⟩), .agg #[.int .u64 (s.1.toNat : Int), .int .u64 (s.2.toNat : Int)]] w fun e w' => e = .returned (.bool (m.drop s).2) ∧ ∃ S', In w' x S' n (m.drop s).1 ∧ Turn S S' w w' := by
  have hI := h
  obtain ⟨⟨bo, bd, t, O, C, hA, ht, hf⟩, hr⟩ := h
  cases hl : lk m.O s with
  | none =>
    have e1 : m.drop s = (m, false) := by rw [IM.drop, hl, if_neg (by decide)]
    rw [e1]
    refine (drop_no hA s hl).mono ?_
    rintro e w' ⟨rfl, hB⟩
    exact ⟨rfl, S, hI.later hB, Turn.of_below hB S⟩
  | some b =>
    have e1 : m.drop s = ({ m with O := wo m.O s }, true) := by rw [IM.drop, hl]; rfl
    have hin := hA.inv.drop s
    rw [e1] at hin ⊢
    obtain ⟨o, ho, rfl, -⟩ := hA.memO hl
    refine (drop_yes hA o ho).mono ?_
    rintro e w' ⟨rfl, hm, hS⟩
    have hmo : (owo O o.s).map OE.m = wo m.O o.s := by rw [owo_m, hA.eo]
    have h2 := hA.delO (owo_sub O o.s) (by rw [owo_kv]; exact hm) hS (by rw [hmo]; exact hin)
    rw [hmo] at h2
    refine ⟨rfl, took_in (n := n) ⟨owo O o.s, C, h2, hS.mono fun i _ e => .inr (.inl e), fun c hc => .inl ?_⟩ hf hr ht⟩
    rcases hc with e | e | e | ⟨a, ha, e⟩ | ⟨a, ha, e⟩
    · exact .inl e
    · exact .inr (.inl e)
    · exact .inr (.inr (.inl e))
    · exact .inr (.inr (.inr (.inl ⟨a, (owo_sub O _).subset ha, e⟩)))
    · exact .inr (.inr (.inr (.inr ⟨a, ha, e⟩)))
theorem in_epoch {w : World} {x n : Nat} {S : Nat → Prop} {m : IM} (h : In w x S n m) :
    Calls Tryz.prog 27 #[.pointer (some ⟨x, 0, none⟩)] w fun e w' => e = .returned (.int .u64 (m.ep.toNat : Int)) ∧ w' = w := by
  obtain ⟨⟨bo, bd, t, O, C, hA, ht, hf⟩, hr⟩ := h
  exact epoch_any hA
theorem in_open {w : World} {x n : Nat} {S : Nat → Prop} {m : IM} (h : In w x S n m) :
    Calls Tryz.prog 17 #[.pointer (some ⟨x, 0, none⟩)] w fun e w' => ∃ v, e = .returned v ∧ w'.ownsRow w.heap.size 66 2 v m.O.length ((m.O.map (·.1)).flatMap sc) ∧ Below w.heap.size w w' := by
  obtain ⟨⟨bo, bd, t, O, C, hA, ht, hf⟩, hr⟩ := h
  exact open_any hA
theorem in_decided {w : World} {x n : Nat} {S : Nat → Prop} {m : IM} (h : In w x S n m) :
    Calls Tryz.prog 18 #[.pointer (some ⟨x, 0, none⟩)] w fun e w' => ∃ v, e = .returned v ∧ w'.ownsRow w.heap.size 66 2 v m.C.length ((m.C.map (·.1)).flatMap sc) ∧ Below w.heap.size w w' := by
  obtain ⟨⟨bo, bd, t, O, C, hA, ht, hf⟩, hr⟩ := h
  exact decided_any hA
def newOk (a b : Int) : Prop := 1 ≤ a ∧ a ≤ 64 ∧ 1 ≤ b ∧ b ≤ 4096
instance (a b : Int) : Decidable (newOk a b) := inferInstanceAs (Decidable (_ ∧ _))
set_option maxHeartbeats 1000000 in
set_option maxRecDepth 100000 in
theorem inew_no (a b : Int) (w : World) (h : ¬ newOk a b) :
    Calls Tryz.prog 22 #[.int .i64 a, .int .i64 b] w fun e w' => e = .returned (.tuple #[.pointer none, .int .i64 1]) ∧ w' = w := by
  have hor : a < 1 ∨ (¬ a < 1 ∧ 64 < a) ∨ (¬ a < 1 ∧ ¬ 64 < a ∧ b < 1) ∨ (¬ a < 1 ∧ ¬ 64 < a ∧ ¬ b < 1 ∧ 4096 < b) := by
    unfold newOk at h
    omega
  clear h
  rcases hor with h | ⟨h, h1⟩ | ⟨h, h1, h2⟩ | ⟨h, h1, h2, h3⟩
  all_goals
    go_enter Tryz.func22, Tryz.ntmps22
    go_wp2
    go_ret2
    exact ⟨rfl, rfl⟩
def IMade (w : World) (a b : Nat) (e : Ending) (w' : World) : Prop := ∃ x S, e = .returned (.tuple #[.pointer (some ⟨x, 0, none⟩), .int .i64 0]) ∧ In w' x S 0 ⟨a, b, 0, [], []⟩ ∧ (∀ c, S c → w.heap.size ≤ c) ∧ Below w.heap.size w w'
set_option maxHeartbeats 1000000 in
set_option maxRecDepth 100000 in
theorem inew_in (a b : Nat) (w : World) (h : newOk a b) :
    Calls Tryz.prog 22 #[.int .i64 a, .int .i64 b] w fun e w' => IMade w a b e w' := by
  obtain ⟨h1, h2, h3, h4⟩ := h
  have g1 : ¬ (a : Int) < 1 := by omega
  have g2 : ¬ 64 < (a : Int) := by omega
  have g3 : ¬ (b : Int) < 1 := by omega
  have g4 : ¬ 4096 < (b : Int) := by omega
  have hmm := @run_makeMap Tryz.prog
  go_enter Tryz.func22, Tryz.ntmps22
  go_wp2
  go_ret2
  have m1 : MapAt (w.alloc (.map #[] 0)) w.heap.size [] := LMap.made w
  have m2 : MapAt ((w.alloc (.map #[] 0)).alloc (.map #[] 0)) (w.heap.size + 1) ([] : List (Sess × Option Nat)) := by
    have := LMap.made (P := Tryz.prog) (k := 66) (kv := sv) (R := pR) (dat := pdat) (w.alloc (.map #[] 0))
    rwa [show (w.alloc (.map #[] 0)).heap.size = w.heap.size + 1 by simp] at this
  have hb := Blk.new ((w.alloc (.map #[] 0)).alloc (.map #[] 0)) 87 [.int .i64 (a : Int), .int .i64 (b : Int), .int .u64 0, .map (some w.heap.size), .map (some (w.heap.size + 1)), .int .i64 0]
  rw [show ((w.alloc (.map #[] 0)).alloc (.map #[] 0)).heap.size = w.heap.size + 2 by simp] at hb
  have hB1 : Below (w.alloc (.map #[] 0)).heap.size (w.alloc (.map #[] 0)) ((w.alloc (.map #[] 0)).alloc (.map #[] 0)) := (Below.refl _ _).alloc (Nat.le_refl _) _
  have hB2 : Below ((w.alloc (.map #[] 0)).alloc (.map #[] 0)).heap.size ((w.alloc (.map #[] 0)).alloc (.map #[] 0)) (((w.alloc (.map #[] 0)).alloc (.map #[] 0)).alloc (.cells [Value.int .i64 (a : Int), .int .i64 (b : Int), .int .u64 0, .map (some w.heap.size), .map (some (w.heap.size + 1)), .int .i64 0].toArray 87)) := (Below.refl _ _).alloc (Nat.le_refl _) _
  refine ⟨w.heap.size + 2, _, rfl, ⟨⟨w.heap.size, w.heap.size + 1, 0, [], [], ⟨hb, (m1.later hB1).later hB2, m2.later hB2, by omega, KO.nil, KC.nil, rfl, rfl, ⟨by simp, by simp, by simp, by simp, by simp, by simp, by simp, by show 1 ≤ a; omega, by show a ≤ 64; omega, by show 1 ≤ b; omega, by show b ≤ 4096; omega⟩⟩, Nat.le_refl _, fun c => Iff.rfl⟩, Nat.zero_le _⟩, fun c hc => ?_, (((Below.refl _ _).alloc (Nat.le_refl _) _).alloc (by simp) _).alloc (by simp; omega) _⟩
  rcases hc with e | e | e | ⟨o, ho, e⟩ | ⟨o, ho, e⟩
  · omega
  · omega
  · omega
  · cases ho
  · cases ho
theorem inew_yes (a b : Nat) (w : World) (h : newOk a b) :
    Calls Tryz.prog 22 #[.int .i64 a, .int .i64 b] w fun e w' => ∃ x S, e = .returned (.tuple #[.pointer (some ⟨x, 0, none⟩), .int .i64 0]) ∧ In w' x S 0 ⟨a, b, 0, [], []⟩ ∧ (∀ c, S c → w.heap.size ≤ c) ∧ Below w.heap.size w w' := inew_in a b w h
end Go.Proofs.YtfaemjlemaclbaaGreat
