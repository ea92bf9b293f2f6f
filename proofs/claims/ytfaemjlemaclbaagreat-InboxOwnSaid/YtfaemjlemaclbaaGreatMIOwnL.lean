/- IOwnL, IOwnK: joined. -/
import Derived.Test.YtfaemjlemaclbaaGreatMAppAt
import Derived.Test.YtfaemjlemaclbaaGreatMIOps
section
/- InboxOwn: what is kept: lists of rows, each of its own memory; plain laws. -/
namespace Go.Proofs.YtfaemjlemaclbaaGreat
set_option linter.unusedVariables false
set_option linter.unusedSimpArgs false
open Go.RowKit Go.Maps
/-- a list of rows: the list's memory is of type O, the rows' of type E (sz cells an element). -/
structure LG (O E : TypeId) (sz base : Nat) (wr : World) (lv : Value) (vs : List Value) (Rs : List (Nat × List Value)) : Prop where
  own : wr.ownsRow base O 1 lv vs.length vs
  len : vs.length = Rs.length
  rows : Rows wr base E sz vs (fun i => (Rs.getD i (0, [])).1) (fun i => (Rs.getD i (0, [])).2)
section
variable {O E O' E' : TypeId} {sz sz' base : Nat} {wr w' : World} {lv lv' : Value} {vs vs' : List Value} {Rs Rs' : List (Nat × List Value)}
theorem LG.nil (O E : TypeId) (sz base : Nat) (wr : World) : LG O E sz base wr (.slice none 0 0) [] [] := ⟨World.ownsRow_nil _ _ _ _, rfl, ⟨fun i x h => by simp at h, fun i j x y _ h => by simp at h⟩⟩
theorem LG.same {U : Nat → Prop} (h : LG O E sz base wr lv vs Rs) (hs : Same U wr w') (h1 : ∀ b, lv.ownBlock = some b → ¬ U b) (h2 : ∀ b, Foot vs b → ¬ U b) : LG O E sz base w' lv vs Rs :=
  ⟨own_same h.own hs h1, h.len, fun i x hx => own_same (h.rows.own i x hx) hs fun b hb => h2 b ⟨x, List.mem_of_getElem? hx, hb⟩, h.rows.ne⟩
theorem LG.later (h : LG O E sz base wr lv vs Rs) (hb : Below wr.heap.size wr w') : LG O E sz base w' lv vs Rs := h.same (Same.of_below hb no) (fun _ _ h => h) (fun _ _ h => h)
theorem LG.foot_lt (h : LG O E sz base wr lv vs Rs) : ∀ b, Foot vs b → base ≤ b ∧ b < wr.heap.size := fun b ⟨x, hx, hb⟩ => by
  obtain ⟨i, hi⟩ := List.getElem?_of_mem hx
  exact (h.rows.own i x hi).lt b hb
/-- what is kept where only blocks of other types are written: S holds none of the list's. -/
theorem LG.far {S : Nat → Prop} (h : LG O E sz base wr lv vs Rs) (hs : Same S wr w') (hO : ∀ {b n : Nat} {v : Value} {xs : List Value}, wr.ownsRow b O 1 v n xs → ∀ c, v.ownBlock = some c → ¬ S c) (hE : ∀ {b n : Nat} {v : Value} {xs : List Value}, wr.ownsRow b E sz v n xs → ∀ c, v.ownBlock = some c → ¬ S c) : LG O E sz base w' lv vs Rs :=
  h.same hs (hO h.own) fun b ⟨x, hx, hb⟩ => by
    obtain ⟨i, hi⟩ := List.getElem?_of_mem hx
    exact hE (h.rows.own i x hi) b hb
/-- an append to a row of another type. -/
theorem LG.other {b0 n : Nat} {e : TypeId} {s0 : Nat} {v : Value} {xs : List Value} (h : LG O E sz base wr lv vs Rs) (ho : wr.ownsRow b0 e s0 v n xs) (hg : wr.grownBy w' v.ownBlock) (n1 : O ≠ e) (n2 : E ≠ e) : LG O E sz base w' lv vs Rs :=
  h.far (Same.of_grown hg) (fun h' c hc e1 => by
    rcases own_ne h' ho n1 with e2 | e2
    · rw [e2] at hc; cases hc
    · exact e2 (hc.trans e1)) (fun h' c hc e1 => by
    rcases own_ne h' ho n2 with e2 | e2
    · rw [e2] at hc; cases hc
    · exact e2 (hc.trans e1))
/-- some more, all of later memory. -/
theorem LG.app {b1 : Nat} {xs : List Value} {Xs : List (Nat × List Value)} (h : LG O E sz base wr lv vs Rs) (hx : Rows wr b1 E sz xs (fun i => (Xs.getD i (0, [])).1) (fun i => (Xs.getD i (0, [])).2)) (hl : xs.length = Xs.length) (hr : ∀ b, Foot vs b → b < b1) (hw : base ≤ b1) (hEO : E ≠ O)
    (ho : w'.ownsRow base O 1 lv' (vs.length + xs.length) (vs ++ xs)) (hg : wr.grownBy w' lv.ownBlock) : LG O E sz base w' lv' (vs ++ xs) (Rs ++ Xs) := by
  have hne : ∀ {b n : Nat} {v : Value} {cs : List Value}, wr.ownsRow b E sz v n cs → w'.ownsRow b E sz v n cs := fun h' => h'.kept hg (own_ne h' h.own hEO)
  have low : ∀ (i : Nat) (y : Value), i < vs.length → (vs ++ xs)[i]? = some y → ∀ b, y.ownBlock = some b → b < b1 := fun i y hi hy b hb => by
    rw [List.getElem?_append_left hi] at hy
    exact hr b ⟨y, List.mem_of_getElem? hy, hb⟩
  have high : ∀ (i : Nat) (y : Value), vs.length ≤ i → (vs ++ xs)[i]? = some y → ∀ b, y.ownBlock = some b → b1 ≤ b := fun i y hi hy b hb => by
    rw [List.getElem?_append_right hi] at hy
    exact ((hx.own _ y hy).lt b hb).1
  refine ⟨by rw [List.length_append]; exact ho, by rw [List.length_append, List.length_append, h.len, hl], fun i y hy => ?_, fun i j y z hij hy hz => ?_⟩
  · by_cases hi : i < vs.length
    · rw [List.getElem?_append_left hi] at hy
      have := h.rows.own i y hy
      have e : (Rs ++ Xs).getD i (0, []) = Rs.getD i (0, []) := by
        rw [List.getD_eq_getElem?_getD, List.getD_eq_getElem?_getD, List.getElem?_append_left (by rw [← h.len]; exact hi)]
      simp only [e]
      exact hne this
    · rw [List.getElem?_append_right (by omega)] at hy
      have := hx.own _ y hy
      have e : (Rs ++ Xs).getD i (0, []) = Xs.getD (i - vs.length) (0, []) := by
        rw [List.getD_eq_getElem?_getD, List.getD_eq_getElem?_getD, List.getElem?_append_right (by rw [← h.len]; omega), h.len]
      simp only [e]
      exact hne (own_mono this hw)
  · by_cases hi : i < vs.length
    · by_cases hj : j < vs.length
      · rw [List.getElem?_append_left hi] at hy
        rw [List.getElem?_append_left hj] at hz
        exact h.rows.ne i j y z hij hy hz
      · cases hyb : y.ownBlock with
        | none => exact .inl rfl
        | some c =>
          refine .inr fun e => ?_
          have h1 := low i y hi hy c hyb
          have h2 := high j z (by omega) hz c e.symm
          omega
    · by_cases hj : j < vs.length
      · cases hyb : y.ownBlock with
        | none => exact .inl rfl
        | some c =>
          refine .inr fun e => ?_
          have h1 := high i y (by omega) hy c hyb
          have h2 := low j z hj hz c e.symm
          omega
      · rw [List.getElem?_append_right (by omega)] at hy hz
        exact hx.ne _ _ y z (by omega) hy hz
/-- one row. -/
theorem rows1 {b1 : Nat} {x : Value} {R : Nat × List Value} (hx : wr.ownsRow b1 E sz x R.1 R.2) : Rows wr b1 E sz [x] (fun i => ([R].getD i (0, [])).1) (fun i => ([R].getD i (0, [])).2) := by
  refine ⟨fun i y hy => ?_, fun i j y z hij hy hz => ?_⟩
  · cases i with
    | zero => simp at hy; subst hy; exact hx
    | succ i => simp at hy
  · cases i with
    | zero => cases j with
      | zero => omega
      | succ j => simp at hz
    | succ i => simp at hy
/-- one more row ahead of rows of later memory. -/
theorem rows_cons {b1 b2 : Nat} {x : Value} {R : Nat × List Value} {xs : List Value} {Xs : List (Nat × List Value)} (hx : wr.ownsRow b1 E sz x R.1 R.2) (hb : b1 ≤ b2) (hlt : ∀ b, x.ownBlock = some b → b < b2) (h : Rows wr b2 E sz xs (fun i => (Xs.getD i (0, [])).1) (fun i => (Xs.getD i (0, [])).2)) :
    Rows wr b1 E sz (x :: xs) (fun i => ((R :: Xs).getD i (0, [])).1) (fun i => ((R :: Xs).getD i (0, [])).2) := by
  refine ⟨fun i y hy => ?_, fun i j y z hij hy hz => ?_⟩
  · cases i with
    | zero => simp at hy; subst hy; exact hx
    | succ i =>
      rw [List.getElem?_cons_succ] at hy
      exact own_mono (h.own i y hy) hb
  · cases i with
    | zero => cases j with
      | zero => omega
      | succ j =>
        rw [List.getElem?_cons_succ] at hz
        simp at hy
        subst hy
        cases hyb : x.ownBlock with
        | none => exact .inl rfl
        | some c =>
          refine .inr fun e => ?_
          have h1 := hlt c hyb
          have h2 := ((h.own j z hz).lt c e.symm).1
          omega
    | succ i => cases j with
      | zero =>
        rw [List.getElem?_cons_succ] at hy
        simp at hz
        subst hz
        cases hyb : y.ownBlock with
        | none => exact .inl rfl
        | some c =>
          refine .inr fun e => ?_
          have h1 := ((h.own i y hy).lt c hyb).1
          have h2 := hlt c e.symm
          omega
      | succ j =>
        rw [List.getElem?_cons_succ] at hy hz
        exact h.ne i j y z (by omega) hy hz
/-- one more. -/
theorem LG.snoc {b1 : Nat} {x : Value} {R : Nat × List Value} (h : LG O E sz base wr lv vs Rs) (hx : wr.ownsRow b1 E sz x R.1 R.2) (hr : ∀ b, Foot vs b → b < b1) (hw : base ≤ b1) (hEO : E ≠ O)
    (ho : w'.ownsRow base O 1 lv' (vs.length + 1) (vs ++ [x])) (hg : wr.grownBy w' lv.ownBlock) : LG O E sz base w' lv' (vs ++ [x]) (Rs ++ [R]) := h.app (rows1 hx) rfl hr hw hEO ho hg
end
/-- none of the inboxes' blocks. -/
def AlienI (E : TypeId) : Prop := 87 ≠ E ∧ 101 ≠ E ∧ 93 ≠ E ∧ 124 ≠ E
theorem In.alien {w : World} {x n : Nat} {S : Nat → Prop} {m : IM} (h : In w x S n m) {E : TypeId} (hE : AlienI E) {b sz k : Nat} {v : Value} {xs : List Value} (ho : w.ownsRow b E sz v k xs) : ∀ c, v.ownBlock = some c → ¬ S c :=
  h.row ho hE.1 hE.2.1 hE.2.2.1 hE.2.2.2
end Go.Proofs.YtfaemjlemaclbaaGreat
end
section
/- InboxOwn: lists that are kept beside an inbox of footprint S. -/
namespace Go.Proofs.YtfaemjlemaclbaaGreat
set_option linter.unusedVariables false
set_option linter.unusedSimpArgs false
open Go.RowKit Go.Maps
/-- a list of rows, none of whose blocks is of S. -/
structure Kept (S : Nat → Prop) (O E : TypeId) (sz base : Nat) (wr : World) (lv : Value) (vs : List Value) (Rs : List (Nat × List Value)) : Prop where
  lg : LG O E sz base wr lv vs Rs
  clear : ∀ b, S b → lv.ownBlock ≠ some b ∧ ¬ Foot vs b
section
variable {S S' : Nat → Prop} {O E : TypeId} {sz base : Nat} {wr w' : World} {lv lv' : Value} {vs : List Value} {Rs : List (Nat × List Value)}
theorem Kept.nil (S : Nat → Prop) (O E : TypeId) (sz base : Nat) (wr : World) : Kept S O E sz base wr (.slice none 0 0) [] [] := ⟨LG.nil O E sz base wr, fun b _ => ⟨(fun e => by cases e), (fun ⟨x, hx, _⟩ => by cases hx)⟩⟩
theorem Kept.later (h : Kept S O E sz base wr lv vs Rs) (hb : Below wr.heap.size wr w') : Kept S O E sz base w' lv vs Rs := ⟨h.lg.later hb, h.clear⟩
theorem Kept.lt (h : Kept S O E sz base wr lv vs Rs) : ∀ b, lv.ownBlock = some b ∨ Foot vs b → base ≤ b ∧ b < wr.heap.size := fun b hb => by
  rcases hb with e | e
  · exact h.lg.own.lt b e
  · exact h.lg.foot_lt b e
/-- kept from a turn of the inboxes. -/
theorem Kept.turn (h : Kept S O E sz base wr lv vs Rs) (t : Turn S S' wr w') : Kept S' O E sz base w' lv vs Rs :=
  ⟨h.lg.same t.same (fun b e hs => (h.clear b hs).1 e) (fun b e hs => (h.clear b hs).2 e), fun b hb => by
    rcases t.foot b hb with e | e
    · exact h.clear b e
    · exact ⟨fun e' => by have := (h.lt b (.inl e')).2; omega, fun e' => by have := (h.lt b (.inr e')).2; omega⟩⟩
/-- kept from an append to a row of another type. -/
theorem Kept.other {b0 n s0 : Nat} {e : TypeId} {v : Value} {xs : List Value} (h : Kept S O E sz base wr lv vs Rs) (ho : wr.ownsRow b0 e s0 v n xs) (hg : wr.grownBy w' v.ownBlock) (n1 : O ≠ e) (n2 : E ≠ e) : Kept S O E sz base w' lv vs Rs := ⟨h.lg.other ho hg n1 n2, h.clear⟩
/-- some more rows, of memory later than the list's. -/
theorem Kept.app {b1 : Nat} {xs : List Value} {Xs : List (Nat × List Value)} (h : Kept S O E sz base wr lv vs Rs) (hx : Rows wr b1 E sz xs (fun i => (Xs.getD i (0, [])).1) (fun i => (Xs.getD i (0, [])).2)) (hl : xs.length = Xs.length) (hr : ∀ b, Foot vs b → b < b1) (hw : base ≤ b1) (hEO : E ≠ O)
    (hxs : ∀ b, S b → ¬ Foot xs b) (hS : ∀ b, S b → b < wr.heap.size) (ho : w'.ownsRow base O 1 lv' (vs.length + xs.length) (vs ++ xs)) (hg : wr.grownBy w' lv.ownBlock) (hN : Newer wr lv lv') : Kept S O E sz base w' lv' (vs ++ xs) (Rs ++ Xs) :=
  ⟨h.lg.app hx hl hr hw hEO ho hg, fun b hb => ⟨fun e => by
    rcases hN with q | ⟨k, q, hk⟩
    · exact (h.clear b hb).1 (q.symm.trans e)
    · have := hS b hb
      have : k = b := by rw [q] at e; exact Option.some.inj e
      omega, fun ⟨x, hx, e⟩ => by
    rcases List.mem_append.1 hx with hx | hx
    · exact (h.clear b hb).2 ⟨x, hx, e⟩
    · exact hxs b hb ⟨x, hx, e⟩⟩⟩
/-- the inboxes under an append to such a list. -/
theorem Kept.under (h : Kept S O E sz base wr lv vs Rs) (hg : wr.grownBy w' lv.ownBlock) : Same (fun b => lv.ownBlock = some b) wr w' ∧ ∀ b, S b → ¬ lv.ownBlock = some b :=
  ⟨(Same.of_grown hg).mono fun b _ e => e.symm, fun b hb => (h.clear b hb).1⟩
end
/-- one row of strings, kept beside an inbox. -/
structure KeptT (S : Nat → Prop) (base : Nat) (wr : World) (tv : Value) (Ts : List (List UInt8)) : Prop where
  own : wr.ownsRow base 9 1 tv Ts.length (Ts.map fun t => .string (str t))
  clear : ∀ b, S b → tv.ownBlock ≠ some b
theorem KeptT.later {S : Nat → Prop} {base : Nat} {wr w' : World} {tv : Value} {Ts : List (List UInt8)} (h : KeptT S base wr tv Ts) (hb : Below wr.heap.size wr w') : KeptT S base w' tv Ts := ⟨own_later h.own hb, h.clear⟩
theorem KeptT.turn {S S' : Nat → Prop} {base : Nat} {wr w' : World} {tv : Value} {Ts : List (List UInt8)} (h : KeptT S base wr tv Ts) (t : Turn S S' wr w') : KeptT S' base w' tv Ts :=
  ⟨own_same h.own t.same fun b e hs => h.clear b hs e, fun b hb => by
    rcases t.foot b hb with e | e
    · exact h.clear b e
    · exact fun e' => by have := (h.own.lt b e').2; omega⟩
theorem KeptT.other {S : Nat → Prop} {base : Nat} {wr w' : World} {tv : Value} {Ts : List (List UInt8)} {b0 n s0 : Nat} {e : TypeId} {v : Value} {xs : List Value} (h : KeptT S base wr tv Ts) (ho : wr.ownsRow b0 e s0 v n xs) (hg : wr.grownBy w' v.ownBlock) (n1 : 9 ≠ e) : KeptT S base w' tv Ts :=
  ⟨h.own.kept hg (own_ne h.own ho n1), h.clear⟩
end Go.Proofs.YtfaemjlemaclbaaGreat
end
