/- The reference's inbox in memory: New, Data, rise; where a session stands; what is taken out. -/
import Derived.Test.YtfaemjlemaclbaaGreatMRI1
import Derived.Test.YtfaemjlemaclbaaGreatMRData
namespace Go.Proofs.YtfaemjlemaclbaaGreat
set_option linter.unusedVariables false
set_option linter.unusedSimpArgs false
open Go.RowKit Go.Maps
structure RO where
  s : Sess
  r : Nat
  F : Nat → Prop
  box : BoxS
def RO.e (o : RO) : Sess × Value := (o.s, .pointer (some ⟨o.r, 0, none⟩))
def RO.m (o : RO) : Sess × BoxS := (o.s, o.box)
def ce (p : Sess × Int) : Sess × Value := (p.1, .int .i64 p.2)
structure RIAt (w : World) (d : Nat) (vo vs : Value) (L : List RO) (m : IM) : Prop where
  blk : Blk w d 77 [.int .i64 (m.mo : Int), .int .i64 (m.ms : Int), .int .u64 (m.ep.toNat : Int), vo, vs]
  ro : w.ownsRow 0 80 3 vo L.length (e3s (L.map RO.e))
  rs : w.ownsRow 0 82 3 vs m.C.length (e3s (m.C.map ce))
  bx : ∀ o ∈ L, RB w o.r o.F o.box
  dj : L.Pairwise fun a b => ∀ k, a.F k → ¬ b.F k
  eo : L.map RO.m = m.O
def RIF (d : Nat) (vo vs : Value) (L : List RO) (k : Nat) : Prop := k = d ∨ vo.ownBlock = some k ∨ vs.ownBlock = some k ∨ ∃ o ∈ L, o.F k
section
variable {w w' : World} {d : Nat} {vo vs : Value} {L : List RO} {m : IM} {S : Nat → Prop}
theorem RIAt.same (h : RIAt w d vo vs L m) (hs : Same S w w') (hS : ∀ k, RIF d vo vs L k → ¬ S k) : RIAt w' d vo vs L m :=
  ⟨h.blk.same hs (hS d (.inl rfl)), own_same h.ro hs fun k e => hS k (.inr (.inl e)), own_same h.rs hs fun k e => hS k (.inr (.inr (.inl e))), fun o ho => (h.bx o ho).same hs fun k hk => hS k (.inr (.inr (.inr ⟨o, ho, hk⟩))), h.dj, h.eo⟩
theorem RIAt.later (h : RIAt w d vo vs L m) (hb : Below w.heap.size w w') : RIAt w' d vo vs L m := h.same (Same.of_below hb no) fun _ _ h => h
theorem RIAt.lt (h : RIAt w d vo vs L m) {k : Nat} (hk : RIF d vo vs L k) : k < w.heap.size := by
  rcases hk with rfl | e | e | ⟨o, ho, e⟩
  · exact h.blk.lt
  · exact (h.ro.lt k e).2
  · exact (h.rs.lt k e).2
  · exact (h.bx o ho).lt e
theorem RIAt.bx_ne (h : RIAt w d vo vs L m) {o : RO} (ho : o ∈ L) {k : Nat} (hk : o.F k) : k ≠ d ∧ vo.ownBlock ≠ some k ∧ vs.ownBlock ≠ some k := by
  refine ⟨(h.bx o ho).ne hk h.blk (by decide) (by decide) (by decide), fun e => ?_, fun e => ?_⟩
  · obtain ⟨cs, hc⟩ := own_at h.ro e
    exact (h.bx o ho).ne hk hc (by decide) (by decide) (by decide) rfl
  · obtain ⟨cs, hc⟩ := own_at h.rs e
    exact (h.bx o ho).ne hk hc (by decide) (by decide) (by decide) rfl
theorem RIAt.d_ne (h : RIAt w d vo vs L m) : vo.ownBlock ≠ some d ∧ vs.ownBlock ≠ some d := ⟨own_blk_ne h.ro h.blk (by decide), own_blk_ne h.rs h.blk (by decide)⟩
theorem RIAt.os_ne (h : RIAt w d vo vs L m) : vo.ownBlock = none ∨ vo.ownBlock ≠ vs.ownBlock := own_ne h.ro h.rs (by decide)
theorem RIAt.so_ne (h : RIAt w d vo vs L m) : vs.ownBlock = none ∨ vs.ownBlock ≠ vo.ownBlock := own_ne h.rs h.ro (by decide)
end
theorem e3s_ce (l : List (Sess × Int)) : ∀ x ∈ e3s (l.map ce), x.oneCell' = true := e3s_one fun p hp => by
  obtain ⟨q, _, rfl⟩ := List.mem_map.1 hp
  rfl
theorem e3s_ro (l : List RO) : ∀ x ∈ e3s (l.map RO.e), x.oneCell' = true := e3s_one fun p hp => by
  obtain ⟨q, _, rfl⟩ := List.mem_map.1 hp
  rfl
section
variable {κ ε : Type} [DecidableEq κ]
theorem lk_split {L : List (κ × ε)} {s : κ} {x : ε} (h : lk L s = some x) : ∃ A B, L = A ++ (s, x) :: B ∧ ∀ p ∈ A, p.1 ≠ s := by
  unfold lk at h
  rw [Option.map_eq_some_iff] at h
  obtain ⟨p, hp, rfl⟩ := h
  rw [List.find?_eq_some_iff_append] at hp
  obtain ⟨h1, A, B, h2, h3⟩ := hp
  simp at h1
  subst h1
  exact ⟨A, B, h2, fun q hq e => by have := h3 q hq; simp [e] at this⟩
theorem wo_split {A B : List (κ × ε)} {s : κ} {x : ε} (h : ((A ++ (s, x) :: B).map (·.1)).Nodup) : wo (A ++ (s, x) :: B) s = A ++ B := by
  rw [List.map_append, List.map_cons, List.nodup_append, List.nodup_cons] at h
  obtain ⟨h1, ⟨h2, h3⟩, h4⟩ := h
  unfold wo
  rw [List.filter_append, List.filter_cons_of_neg (by simp), List.filter_eq_self.2, List.filter_eq_self.2]
  · intro p hp
    simp only [ne_eq, decide_eq_true_eq]
    intro e
    exact h2 (e ▸ List.mem_map.2 ⟨p, hp, rfl⟩)
  · intro p hp
    simp only [ne_eq, decide_eq_true_eq]
    intro e
    exact h4 _ (List.mem_map.2 ⟨p, hp, rfl⟩) s (List.mem_cons_self ..) e
end
theorem cut_e3s {A B : List (Sess × Value)} {p : Sess × Value} : (e3s (A ++ p :: B)).take (A.length * 3) ++ (e3s (A ++ p :: B)).drop ((A.length + 1) * 3) = e3s (A ++ B) := by
  rw [e3s_take, e3s_drop, List.take_left', e3s_append]
  · congr 2
    rw [show A ++ p :: B = (A ++ [p]) ++ B by simp]
    exact List.drop_left' (by simp)
  · rfl
section
variable {w : World} {d : Nat} {vo vs : Value} {L : List RO} {m : IM}
/-- where an open session stands. -/
theorem RIAt.findO (h : RIAt w d vo vs L m) (hk : (m.O.map (·.1)).Nodup) {s : Sess} {b : BoxS} (hl : lk m.O s = some b) :
    ∃ A o B, L = A ++ o :: B ∧ o.s = s ∧ o.box = b ∧ (∀ a ∈ A, a.s ≠ s) ∧ wo m.O s = (A ++ B).map RO.m := by
  obtain ⟨A, B, h1, h2⟩ := lk_split hl
  have h3 := h.eo
  rw [h1, List.map_eq_append_iff] at h3
  obtain ⟨A', X, rfl, hA, hX⟩ := h3
  rw [List.map_eq_cons_iff] at hX
  obtain ⟨o, B', rfl, ho, hB⟩ := hX
  refine ⟨A', o, B', rfl, congrArg Prod.fst ho, congrArg Prod.snd ho, fun a ha => ?_, ?_⟩
  · have : RO.m a ∈ A := by rw [← hA]; exact List.mem_map.2 ⟨a, ha, rfl⟩
    exact h2 _ this
  · rw [h1, wo_split (h1 ▸ hk), List.map_append, hA, hB]
theorem ropen_yes (h : RIAt w d vo vs L m) {A B : List RO} {o : RO} (hL : L = A ++ o :: B) (hA : ∀ a ∈ A, a.s ≠ o.s) (hl : L.length < 4611686018427) :
    Calls Tryz.prog 52 #[.pointer (some ⟨d, 0, none⟩), .agg #[.int .u64 (o.s.1.toNat : Int), .int .u64 (o.s.2.toNat : Int)]] w fun e w' => e = .returned (.int .i64 (A.length : Int)) ∧ Below w.heap.size w w' := by
  subst hL
  obtain ⟨ao, cap, rfl, -⟩ := own_open h.ro
  have hlt : A.length < (A ++ o :: B).length := by simp
  have := ro_find d A.length _ ((A ++ o :: B).map RO.e) o.s ao cap w (h.blk.cell_some (i := 3) rfl) (by rw [List.length_map]) (Rd.of_own h.ro) hl (Nat.le_of_lt hlt) (fun j p hj hp => by
    rw [List.getElem?_map, List.getElem?_append_left hj, Option.map_eq_some_iff] at hp
    obtain ⟨q, hq, rfl⟩ := hp
    exact hA q (List.mem_of_getElem? hq)) fun p hp => by
    rw [List.getElem?_map, List.getElem?_append_right (Nat.le_refl _)] at hp
    simp at hp
    subst hp
    rfl
  rwa [if_pos hlt] at this
theorem ropen_no (h : RIAt w d vo vs L m) (s : Sess) (hs : lk m.O s = none) (hl : L.length < 4611686018427) :
    Calls Tryz.prog 52 #[.pointer (some ⟨d, 0, none⟩), .agg #[.int .u64 (s.1.toNat : Int), .int .u64 (s.2.toNat : Int)]] w fun e w' => e = .returned (.int .i64 (-1)) ∧ Below w.heap.size w w' := by
  obtain ⟨ao, cap, rfl, -⟩ := own_open h.ro
  have hno := lk_none hs
  rw [← h.eo] at hno
  have := ro_find d L.length _ (L.map RO.e) s ao cap w (h.blk.cell_some (i := 3) rfl) (by rw [List.length_map]) (Rd.of_own h.ro) hl (Nat.le_refl _) (fun j p hj hp => by
    rw [List.getElem?_map, Option.map_eq_some_iff] at hp
    obtain ⟨q, hq, rfl⟩ := hp
    exact fun e => hno q.box (List.mem_map.2 ⟨q, List.mem_of_getElem? hq, by rw [← show q.s = s from e]; rfl⟩)) fun p hp => by
    rw [List.getElem?_eq_none (by simp)] at hp
    cases hp
  rwa [if_neg (Nat.lt_irrefl _)] at this
theorem rshut_yes (h : RIAt w d vo vs L m) {A B : List (Sess × Int)} {s : Sess} {c : Int} (hL : m.C = A ++ (s, c) :: B) (hA : ∀ a ∈ A, a.1 ≠ s) (hl : m.C.length < 4611686018427) :
    Calls Tryz.prog 45 #[.pointer (some ⟨d, 0, none⟩), .agg #[.int .u64 (s.1.toNat : Int), .int .u64 (s.2.toNat : Int)]] w fun e w' => e = .returned (.int .i64 (A.length : Int)) ∧ Below w.heap.size w w' := by
  obtain ⟨ao, cap, rfl, -⟩ := own_open h.rs
  have hlt : A.length < m.C.length := by rw [hL]; simp
  have := rs_find d A.length _ (m.C.map ce) s ao cap w (h.blk.cell_some (i := 4) rfl) (by rw [List.length_map]) (Rd.of_own h.rs) hl (Nat.le_of_lt hlt) (fun j p hj hp => by
    rw [List.getElem?_map, hL, List.getElem?_append_left hj, Option.map_eq_some_iff] at hp
    obtain ⟨q, hq, rfl⟩ := hp
    exact hA q (List.mem_of_getElem? hq)) fun p hp => by
    rw [List.getElem?_map, hL, List.getElem?_append_right (Nat.le_refl _)] at hp
    simp at hp
    subst hp
    rfl
  rwa [if_pos hlt] at this
theorem rshut_no (h : RIAt w d vo vs L m) (s : Sess) (hs : lk m.C s = none) (hl : m.C.length < 4611686018427) :
    Calls Tryz.prog 45 #[.pointer (some ⟨d, 0, none⟩), .agg #[.int .u64 (s.1.toNat : Int), .int .u64 (s.2.toNat : Int)]] w fun e w' => e = .returned (.int .i64 (-1)) ∧ Below w.heap.size w w' := by
  obtain ⟨ao, cap, rfl, -⟩ := own_open h.rs
  have hno := lk_none hs
  have := rs_find d m.C.length _ (m.C.map ce) s ao cap w (h.blk.cell_some (i := 4) rfl) (by rw [List.length_map]) (Rd.of_own h.rs) hl (Nat.le_refl _) (fun j p hj hp => by
    rw [List.getElem?_map, Option.map_eq_some_iff] at hp
    obtain ⟨q, hq, rfl⟩ := hp
    exact fun e => hno q.2 (by rw [← show q.1 = s from e]; exact List.mem_of_getElem? hq)) fun p hp => by
    rw [List.getElem?_eq_none (by simp)] at hp
    cases hp
  rwa [if_neg (Nat.lt_irrefl _)] at this
/-- the open session behind A is taken out. -/
theorem rout_any (h : RIAt w d vo vs L m) {A B : List RO} {o : RO} (hL : L = A ++ o :: B) (hl : L.length < 4611686018427) :
    Calls Tryz.prog 53 #[.pointer (some ⟨d, 0, none⟩), .int .i64 (A.length : Int)] w fun e w' => e = .returned (.tuple #[]) ∧ ∃ vo', RIAt w' d vo' vs (A ++ B) { m with O := (A ++ B).map RO.m } ∧ Same (at1 d) w w' ∧ (∀ k, vo'.ownBlock = some k → w.heap.size ≤ k) := by
  subst hL
  refine (ro_cut d A.length _ _ _ _ vo vs _ w h.blk h.ro (e3s_ro _) (by simp) hl).mono ?_
  rintro e w' ⟨rfl, vo', h1, h2, h3⟩
  have e1 : (A ++ o :: B).length - 1 = (A ++ B).length := by simp
  have e2 : (A ++ o :: B).map RO.e = A.map RO.e ++ o.e :: B.map RO.e := by simp
  have e3 := cut_e3s (A := A.map RO.e) (p := o.e) (B := B.map RO.e)
  rw [List.length_map] at e3
  rw [e1, e2, e3, ← List.map_append] at h2
  have hsub : (A ++ B).Sublist (A ++ o :: B) := List.Sublist.append (List.Sublist.refl _) (List.sublist_cons_self _ _)
  refine ⟨rfl, vo', ⟨h1, own_mono h2 (Nat.zero_le _), own_same h.rs h3 fun k e hk => h.d_ne.2 (by rw [e, show k = d from hk]), fun a ha => (h.bx a (hsub.subset ha)).same h3 fun k hk e => (h.bx_ne (hsub.subset ha) hk).1 e, h.dj.sublist hsub, rfl⟩, h3, fun k e => (h2.lt k e).1⟩
theorem rforget_any (h : RIAt w d vo vs L m) {A B : List (Sess × Int)} {p : Sess × Int} (hL : m.C = A ++ p :: B) (hl : m.C.length < 4611686018427) :
    Calls Tryz.prog 46 #[.pointer (some ⟨d, 0, none⟩), .int .i64 (A.length : Int)] w fun e w' => e = .returned (.tuple #[]) ∧ ∃ vs', RIAt w' d vo vs' L { m with C := A ++ B } ∧ Same (at1 d) w w' ∧ (∀ k, vs'.ownBlock = some k → w.heap.size ≤ k) := by
  refine (rs_cut d A.length _ _ _ _ vs vo _ w h.blk h.rs (e3s_ce _) (by rw [hL]; simp) hl).mono ?_
  rintro e w' ⟨rfl, vs', h1, h2, h3⟩
  have e1 : m.C.length - 1 = (A ++ B).length := by rw [hL]; simp
  have e2 : m.C.map ce = A.map ce ++ ce p :: B.map ce := by rw [hL]; simp
  have e3 := cut_e3s (A := A.map ce) (p := ce p) (B := B.map ce)
  rw [List.length_map] at e3
  rw [e1, e2, e3, ← List.map_append] at h2
  refine ⟨rfl, vs', ⟨h1, own_same h.ro h3 fun k e hk => h.d_ne.1 (by rw [e, show k = d from hk]), own_mono h2 (Nat.zero_le _), fun a ha => (h.bx a ha).same h3 fun k hk e => (h.bx_ne ha hk).1 e, h.dj, h.eo⟩, h3, fun k e => (h2.lt k e).1⟩
set_option maxHeartbeats 1000000 in
set_option maxRecDepth 100000 in
theorem rrise_any (h : RIAt w d vo vs L m) (e : UInt64) :
    Calls Tryz.prog 44 #[.pointer (some ⟨d, 0, none⟩), .int .u64 (e.toNat : Int)] w fun en w' => en = .returned (.tuple #[]) ∧ ∃ vo' vs' L', RIAt w' d vo' vs' L' (m.rise e) ∧ Same (at1 d) w w' ∧ ∀ k, RIF d vo' vs' L' k → RIF d vo vs L k := by
  have hb := h.blk
  have hlt := hb.lt
  have f2 := hb.frozen 2
  have f3 := hb.frozen 3
  have f4 := hb.frozen 4
  have c2 := hb.cell_some (i := 2) rfl
  have c3 := hb.cell_some (i := 3) rfl
  have c4 := hb.cell_some (i := 4) rfl
  have H := Lib.hid h
  have HBk := Lib.hid hb
  clear h hb
  obtain ⟨n, hn⟩ : ∃ n, n = e.toNat := ⟨_, rfl⟩
  obtain ⟨k, hk⟩ : ∃ k, k = m.ep.toNat := ⟨_, rfl⟩
  rw [← hn]
  rw [← hk] at c2 HBk
  have HN := Lib.hid hn; have HK := Lib.hid hk
  clear hn hk
  by_cases hlt' : k < n
  · have hd : decide ((n : Int) > (k : Int)) = true := by simp; omega
    have em : m.rise e = { m with ep := e, O := [], C := [] } := if_pos (by rw [← HN.out, ← HK.out]; exact hlt')
    have EM := Lib.hid em
    clear em
    go_enter Tryz.func44, Tryz.ntmps44
    go_wp2
    go_end0
    rw [EM.out]
    refine ⟨rfl, .slice none 0 0, .slice none 0 0, [], ⟨?_, World.ownsRow_nil _ _ _ _, World.ownsRow_nil _ _ _ _, fun o ho => (by cases ho), List.Pairwise.nil, rfl⟩, (((Same.refl (at1 d) w).setCell (p := ⟨d, 2, none⟩) (fun _ => rfl) _).setCell (p := ⟨d, 3, none⟩) (fun _ => rfl) _).setCell (p := ⟨d, 4, none⟩) (fun _ => rfl) _, fun c hc => ?_⟩
    · have := ((HBk.out.set 2 (.int .u64 (n : Int))).set 3 (.slice none 0 0)).set 4 (.slice none 0 0)
      rw [HN.out] at this
      rw [HN.out]
      exact this
    · rcases hc with e | e | e | ⟨o, ho, e⟩
      · exact .inl e
      · cases e
      · cases e
      · cases ho
  · have hd : decide ((n : Int) > (k : Int)) = false := by simp; omega
    have em : m.rise e = m := if_neg (by rw [← HN.out, ← HK.out]; exact hlt')
    have EM := Lib.hid em
    clear em
    go_enter Tryz.func44, Tryz.ntmps44
    go_wp2
    go_end0
    rw [EM.out]
    exact ⟨rfl, vo, vs, L, H.out, Same.refl _ _, fun _ h => h⟩
end
set_option maxHeartbeats 1000000 in
set_option maxRecDepth 100000 in
theorem rinew_no (a b : Int) (w : World) (h : ¬ (1 ≤ a ∧ a ≤ 64 ∧ 1 ≤ b ∧ b ≤ 4096)) :
    Calls Tryz.prog 23 #[.int .i64 a, .int .i64 b] w fun e w' => e = .returned (.tuple #[.pointer none, .int .i64 1]) ∧ w' = w := by
  have hor : a < 1 ∨ (¬ a < 1 ∧ 64 < a) ∨ (¬ a < 1 ∧ ¬ 64 < a ∧ b < 1) ∨ (¬ a < 1 ∧ ¬ 64 < a ∧ ¬ b < 1 ∧ 4096 < b) := by omega
  clear h
  rcases hor with h | ⟨h, h1⟩ | ⟨h, h1, h2⟩ | ⟨h, h1, h2, h3⟩
  all_goals
    go_enter Tryz.func23, Tryz.ntmps23
    go_wp2
    go_ret2
    exact ⟨rfl, rfl⟩
def RMade (w : World) (a b : Nat) (e : Ending) (w' : World) : Prop := ∃ d, e = .returned (.tuple #[.pointer (some ⟨d, 0, none⟩), .int .i64 0]) ∧ RIAt w' d (.slice none 0 0) (.slice none 0 0) [] ⟨a, b, 0, [], []⟩ ∧ w.heap.size ≤ d ∧ Below w.heap.size w w'
set_option maxHeartbeats 1000000 in
set_option maxRecDepth 100000 in
theorem rinew_in (a b : Nat) (w : World) (h : 1 ≤ (a : Int) ∧ (a : Int) ≤ 64 ∧ 1 ≤ (b : Int) ∧ (b : Int) ≤ 4096) :
    Calls Tryz.prog 23 #[.int .i64 (a : Int), .int .i64 (b : Int)] w fun e w' => RMade w a b e w' := by
  obtain ⟨h1, h2, h3, h4⟩ := h
  have g1 : ¬ (a : Int) < 1 := by omega
  have g2 : ¬ 64 < (a : Int) := by omega
  have g3 : ¬ (b : Int) < 1 := by omega
  have g4 : ¬ 4096 < (b : Int) := by omega
  go_enter Tryz.func23, Tryz.ntmps23
  go_wp2
  go_ret2
  exact ⟨_, rfl, ⟨Blk.new w _ [.int .i64 (a : Int), .int .i64 (b : Int), .int .u64 0, .slice none 0 0, .slice none 0 0], World.ownsRow_nil _ _ _ _, World.ownsRow_nil _ _ _ _, fun o ho => (by cases ho), List.Pairwise.nil, rfl⟩, Nat.le_refl _, (Below.refl _ _).alloc (Nat.le_refl _) _⟩
end Go.Proofs.YtfaemjlemaclbaaGreat
