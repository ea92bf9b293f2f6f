/- What holds while WheelOwn goes on: two lists of lists beside the wheels. -/
import Derived.Test.YtnnkchgkebcblaaWHolds2
import Derived.Test.YtnnkchgkebcblaaApartInts
namespace Go.Proofs.Ytnnkchgkebcblaa
set_option linter.unusedVariables false
set_option linter.unusedSimpArgs false
open Go.RowKit
def Alien (E : TypeId) : Prop := E ≠ 69 ∧ 82 ≠ E ∧ E ≠ 74 ∧ 86 ≠ E ∧ E ≠ 23 ∧ E ≠ 29
theorem alienInt : Alien 3 := by unfold Alien; decide
theorem alienInts : Alien 34 := by unfold Alien; decide
section
variable {w : World} {g r : Nat} {S : Nat → Prop} {now sets : Nat} {T : List Tm} {base E sz n : Nat} {v : Value} {xs : List Value}
theorem Wh.alien (h : Wh w g S now sets T) (ho : w.ownsRow base E sz v n xs) (hE : Alien E) : ∀ b, v.ownBlock = some b → ¬ S b := by
  obtain ⟨hl, mb, sl, R, m, N, a1, a2, a3⟩ := h
  intro b hb hS
  rcases (a3 b).2 hS with rfl | rfl | ⟨x, hx, hxb⟩
  · exact own_blk_ne ho a1.blk hE.1 hb
  · exact a1.map.row_ne ho hb
  · obtain ⟨i, hi⟩ := List.getElem?_of_mem hx
    rcases own_ne (a1.rows.own i x hi) ho hE.2.1 with e | e
    · rw [e] at hxb; cases hxb
    · exact e (hxb.trans hb.symm)
theorem Rf.alien (h : Rf w r S now T) (ho : w.ownsRow base E sz v n xs) (hE : Alien E) : ∀ b, v.ownBlock = some b → ¬ S b := by
  obtain ⟨u, h1, h2⟩ := h
  intro b hb hS
  rcases (h2 b).2 hS with rfl | hu
  · exact own_blk_ne ho h1.blk hE.2.2.1 hb
  · rcases own_ne h1.own ho hE.2.2.2.1 with e | e
    · rw [e] at hu; cases hu
    · exact e (hu.trans hb.symm)
theorem Duo.alien (h : Duo w g r S now sets T) (ho : w.ownsRow base E sz v n xs) (hE : Alien E) : ∀ b, v.ownBlock = some b → ¬ S b := by
  obtain ⟨Sw, Sr, h1, h2, _, h4⟩ := h
  intro b hb hS
  rcases (h4 b).2 hS with e | e
  · exact h1.alien ho hE b hb e
  · exact h2.alien ho hE b hb e
end
/-- a list of lists of numbers. -/
structure Lists (w wr : World) (lv : Value) (vs : List Value) (Rs : List (List Int)) : Prop where
  own : wr.ownsRow w.heap.size 34 1 lv vs.length vs
  len : vs.length = Rs.length
  rows : Rows wr w.heap.size 3 1 vs (fun i => (Rs.getD i []).length) (fun i => ivs (Rs.getD i []))
theorem Lists.nil (w wr : World) : Lists w wr (.slice none 0 0) [] [] := ⟨World.ownsRow_nil _ _ _ _, rfl, ⟨fun i x h => by simp at h, fun i j x y _ h => by simp at h⟩⟩
theorem Lists.same {w wr w' : World} {lv : Value} {vs : List Value} {Rs : List (List Int)} {U : Nat → Prop} (h : Lists w wr lv vs Rs) (hs : Same U wr w') (h1 : ∀ b, lv.ownBlock = some b → ¬ U b) (h2 : ∀ b, Foot vs b → ¬ U b) : Lists w w' lv vs Rs :=
  ⟨own_same h.own hs h1, h.len, fun i x hx => own_same (h.rows.own i x hx) hs fun b hb => h2 b ⟨x, List.mem_of_getElem? hx, hb⟩, h.rows.ne⟩
theorem Lists.later {w wr w' : World} {lv : Value} {vs : List Value} {Rs : List (List Int)} (h : Lists w wr lv vs Rs) (hb : Below wr.heap.size wr w') : Lists w w' lv vs Rs := h.same (Same.of_below hb no) (fun _ _ h => h) (fun _ _ h => h)
theorem Lists.foot_lt {w wr : World} {lv : Value} {vs : List Value} {Rs : List (List Int)} (h : Lists w wr lv vs Rs) : ∀ b, Foot vs b → w.heap.size ≤ b ∧ b < wr.heap.size := fun b ⟨x, hx, hb⟩ => by
  obtain ⟨i, hi⟩ := List.getElem?_of_mem hx
  exact (h.rows.own i x hi).lt b hb
/-- what is kept from a turn of a wheel. -/
theorem Lists.turn {w wr w' : World} {lv : Value} {vs : List Value} {Rs : List (List Int)} {S S' : Nat → Prop} (h : Lists w wr lv vs Rs) (t : Turn S S' wr w') (hS : ∀ {base E sz n : Nat} {v : Value} {xs : List Value}, wr.ownsRow base E sz v n xs → Alien E → ∀ b, v.ownBlock = some b → ¬ S b) : Lists w w' lv vs Rs :=
  h.same t.same (hS h.own alienInts) fun b ⟨x, hx, hb⟩ => by
    obtain ⟨i, hi⟩ := List.getElem?_of_mem hx
    exact hS (h.rows.own i x hi) alienInt b hb
/-- one more. -/
theorem Lists.snoc {w wr w7 w8 : World} {lv lv' x : Value} {vs : List Value} {Rs : List (List Int)} {R : List Int} (h : Lists w w7 lv vs Rs) (hb : Below w.heap.size w w7) (hx : w7.ownsRow wr.heap.size 3 1 x R.length (ivs R)) (hr : ∀ b, Foot vs b → b < wr.heap.size) (hw : w.heap.size ≤ wr.heap.size)
    (ho : w8.ownsRow w.heap.size 34 1 lv' (vs.length + 1) (vs ++ [x])) (hg : w7.grownBy w8 lv.ownBlock) : Lists w w8 lv' (vs ++ [x]) (Rs ++ [R]) := by
  have hne : ∀ {base sz n : Nat} {v : Value} {xs : List Value}, w7.ownsRow base 3 sz v n xs → w8.ownsRow base 3 sz v n xs := fun h' => h'.kept hg (own_ne h' h.own (by decide))
  refine ⟨by rw [List.length_append]; exact ho, by rw [List.length_append, List.length_append, h.len]; rfl, fun i y hy => ?_, fun i j y z hij hy hz => ?_⟩
  · by_cases hi : i < vs.length
    · rw [List.getElem?_append_left hi] at hy
      have := h.rows.own i y hy
      have e : (Rs ++ [R]).getD i [] = Rs.getD i [] := by
        rw [List.getD_eq_getElem?_getD, List.getD_eq_getElem?_getD, List.getElem?_append_left (by rw [← h.len]; exact hi)]
      simp only [e]
      exact hne this
    · have hil := (List.getElem?_eq_some_iff.1 hy).1
      have : i = vs.length := by simp at hil; omega
      subst this
      rw [List.getElem?_append_right (Nat.le_refl _), Nat.sub_self] at hy
      simp at hy
      subst hy
      have e : (Rs ++ [R]).getD vs.length [] = R := by
        rw [List.getD_eq_getElem?_getD, h.len, List.getElem?_append_right (Nat.le_refl _), Nat.sub_self]
        rfl
      simp only [e]
      exact hne (own_mono hx hw)
  · have low : ∀ (i : Nat) (y : Value), i < vs.length → (vs ++ [x])[i]? = some y → ∀ b, y.ownBlock = some b → b < wr.heap.size := fun i y hi hy b hb => by
      rw [List.getElem?_append_left hi] at hy
      exact hr b ⟨y, List.mem_of_getElem? hy, hb⟩
    have hil := (List.getElem?_eq_some_iff.1 hy).1
    have hjl := (List.getElem?_eq_some_iff.1 hz).1
    simp at hil hjl
    by_cases hi : i < vs.length
    · by_cases hj : j < vs.length
      · rw [List.getElem?_append_left hi] at hy
        rw [List.getElem?_append_left hj] at hz
        exact h.rows.ne i j y z hij hy hz
      · have : j = vs.length := by omega
        subst this
        rw [List.getElem?_append_right (Nat.le_refl _), Nat.sub_self] at hz
        simp at hz
        subst hz
        cases hyb : y.ownBlock with
        | none => exact .inl rfl
        | some c =>
          refine .inr fun e => ?_
          have h1 := low i y hi hy c hyb
          have h2 := (hx.lt c e.symm).1
          omega
    · have : i = vs.length := by omega
      subst this
      rw [List.getElem?_append_right (Nat.le_refl _), Nat.sub_self] at hy
      simp at hy
      subst hy
      cases hyb : x.ownBlock with
      | none => exact .inl rfl
      | some c =>
        refine .inr fun e => ?_
        have h1 := low j z (by omega) hz c e.symm
        have h2 := (hx.lt c hyb).1
        omega
/-- the wheels with both lists. -/
structure OwnI (w wr : World) (i wb db : Nat) (gs rs : Nat → Nat) (Ss : Nat → Nat → Prop) (ss : Nat → WS) (tl wl : Value) (ts us : List Value) (Rs : List (List Int)) : Prop where
  goes : Goes w wr i wb db gs rs Ss ss
  told : Lists w wr tl ts Rs
  want : Lists w wr wl us Rs
  apart : tl.ownBlock = none ∨ tl.ownBlock ≠ wl.ownBlock
  small : ∀ R ∈ Rs, R.length ≤ 4398046511104
  few : Rs.length ≤ i
theorem OwnI.later {w wr w' : World} {i wb db : Nat} {gs rs : Nat → Nat} {Ss : Nat → Nat → Prop} {ss : Nat → WS} {tl wl : Value} {ts us : List Value} {Rs : List (List Int)} (h : OwnI w wr i wb db gs rs Ss ss tl wl ts us Rs) (hb : Below wr.heap.size wr w') : OwnI w w' i wb db gs rs Ss ss tl wl ts us Rs :=
  ⟨h.goes.later hb, h.told.later hb, h.want.later hb, h.apart, h.small, h.few⟩
theorem OwnI.play {w w1 w2 : World} {i wb db k : Nat} {gs rs : Nat → Nat} {Ss : Nat → Nat → Prop} {ss : Nat → WS} {tl wl : Value} {ts us : List Value} {Rs : List (List Int)} (h : OwnI w w1 i wb db gs rs Ss ss tl wl ts us Rs) (hk : k < 2) {S' : Nat → Prop} {o : Opd} (hd : Duo w2 (gs k) (rs k) S' ((ss k).play o).now ((ss k).play o).sets ((ss k).play o).T) (t : Turn (Ss k) S' w1 w2) :
    OwnI w w2 (i + 1) wb db gs rs (setAt Ss k S') (setAt ss k ((ss k).play o)) tl wl ts us Rs :=
  ⟨h.goes.play hk hd t, h.told.turn t (fun ho hE => (h.goes.duos.duo k hk).alien ho hE), h.want.turn t (fun ho hE => (h.goes.duos.duo k hk).alien ho hE), h.apart, h.small, Nat.le_succ_of_le h.few⟩
theorem Duos.turnX {w w' : World} {base wb db : Nat} {gs rs : Nat → Nat} {Ss : Nat → Nat → Prop} {ss : Nat → WS} (h : Duos w base wb db gs rs Ss ss) {k : Nat} (hk : k < 2) {S' U X : Nat → Prop} {s' : WS} (hd : Duo w' (gs k) (rs k) S' s'.now s'.sets s'.T)
    (hs : Same U w w') (hU : ∀ b, b < w.heap.size → U b → Ss k b ∨ X b) (hX : ∀ b, X b → (∀ j, j < 2 → ¬ Ss j b) ∧ b ≠ wb ∧ b ≠ db ∧ base ≤ b) (hf : ∀ b, S' b → Ss k b ∨ w.heap.size ≤ b) :
    Duos w' base wb db gs rs (setAt Ss k S') (setAt ss k s') ∧ Below base w w' := by
  have hz := hs.size
  have hs' : Same (fun b => Ss k b ∨ X b) w w' := hs.mono hU
  refine ⟨⟨h.bw.same hs' fun e => ?_, h.bd.same hs' fun e => ?_, fun j hj => ?_, ?_, fun j b hj hb => ?_, h.lo.1, h.lo.2.1, Nat.le_trans h.lo.2.2 hz⟩, hs'.belowB fun i hi => ⟨Nat.lt_of_lt_of_le hi h.lo.2.2, fun e => ?_⟩⟩
  · rcases e with e | e
    · exact (h.nw k _ hk e).1 rfl
    · exact (hX _ e).2.1 rfl
  · rcases e with e | e
    · exact (h.nw k _ hk e).2.1 rfl
    · exact (hX _ e).2.2.1 rfl
  · unfold setAt
    by_cases e : j = k
    · subst e
      rw [if_pos rfl, if_pos rfl]
      exact hd
    · rw [if_neg e, if_neg e]
      refine (h.duo j hj).same hs' fun b hb e' => ?_
      rcases e' with e' | e'
      · exact h.dis' hj hk e b hb e'
      · exact (hX b e').1 j hj hb
  · unfold setAt
    intro b h0 h1
    by_cases e0 : 0 = k
    · subst e0
      rw [if_pos rfl] at h0
      rw [if_neg (by decide)] at h1
      rcases hf b h0 with e | e
      · exact h.dis b e h1
      · have := (h.duo 1 (by omega)).lt h1; omega
    · rw [if_neg e0] at h0
      have : k = 1 := by omega
      subst this
      rw [if_pos rfl] at h1
      rcases hf b h1 with e | e
      · exact h.dis b h0 e
      · have := (h.duo 0 (by omega)).lt h0; omega
  · unfold setAt at hb
    by_cases e : j = k
    · subst e
      rw [if_pos rfl] at hb
      rcases hf b hb with e | e
      · exact h.nw j b hj e
      · have h1 := h.bw.lt
        have h2 := h.bd.lt
        have h3 := h.lo.2.2
        omega
    · rw [if_neg e] at hb
      exact h.nw j b hj hb
  · rcases e with e | e
    · have := (h.nw k i hk e).2.2; omega
    · have := (hX i e).2.2.2; omega
section
variable {w wr w7 w8 w9 w10 : World} {i wb db k n : Nat} {gs rs : Nat → Nat} {Ss : Nat → Nat → Prop} {ss : Nat → WS} {tl wl tl' wl' x y : Value} {ts us : List Value} {Rs : List (List Int)} {R : List Int} {Sw Sr S7 S9 : Nat → Prop} {T' : List Tm}
structure Mid (w wr w7 w8 : World) (db k : Nat) (rs : Nat → Nat) (ss : Nat → WS) (Sw Sr S7 : Nat → Prop) (tl' wl x : Value) (ts us : List Value) (Rs : List (List Int)) (R : List Int) : Prop where
  rf : Rf w8 (rs k) Sr (ss k).now (ss k).T
  want : Lists w w8 wl us Rs
  told : Lists w w8 tl' (ts ++ [x]) (Rs ++ [R])
  below : Below w.heap.size w w8
  size : wr.heap.size ≤ w8.heap.size
  cd : w8.cell? ⟨db, k, none⟩ = some (.pointer (some ⟨rs k, 0, none⟩))
  dis : ∀ b, S7 b → ¬ Sr b
theorem own_mid (H : OwnI w wr i wb db gs rs Ss ss tl wl ts us Rs) (hk : k < 2) {now0 : Nat} (hwh : Wh wr (gs k) Sw now0 (ss k).sets (ss k).T) (hrf : Rf wr (rs k) Sr (ss k).now (ss k).T) (hd : ∀ b, Sw b → ¬ Sr b) (hS : ∀ b, Sw b ∨ Sr b ↔ Ss k b)
    (h7 : Wh w7 (gs k) S7 n (ss k).sets T') (t7 : Turn Sw S7 wr w7) (hx : w7.ownsRow wr.heap.size 3 1 x R.length (ivs R))
    (ho8 : w8.ownsRow w.heap.size 34 1 tl' (ts.length + 1) (ts ++ [x])) (hg8 : w7.grownBy w8 tl.ownBlock) : Mid w wr w7 w8 db k rs ss Sw Sr S7 tl' wl x ts us Rs R ∧ Wh w8 (gs k) S7 n (ss k).sets T' := by
  have al : ∀ {base E sz n : Nat} {v : Value} {xs : List Value}, wr.ownsRow base E sz v n xs → Alien E → ∀ b, v.ownBlock = some b → ¬ Sw b := fun ho hE => hwh.alien ho hE
  have told7 := H.told.turn t7 al
  have want7 := H.want.turn t7 al
  have hs8 := Same.of_grown hg8
  have b7 : Below w.heap.size w w7 := H.goes.below.trans (t7.same.belowB fun j hj => ⟨Nat.lt_of_lt_of_le hj H.goes.below.size, fun e => by have := (H.goes.duos.nw k j hk ((hS j).1 (.inl e))).2.2; omega⟩)
  have rf7 : Rf w7 (rs k) Sr (ss k).now (ss k).T := hrf.same t7.same fun b hb e => hd b e hb
  have dis7 : ∀ b, S7 b → ¬ Sr b := fun b hb e => by
    rcases t7.foot b hb with e' | e'
    · exact hd b e' e
    · have := hrf.lt e; omega
  have hbd := H.goes.duos.bd.same t7.same fun e => (H.goes.duos.nw k _ hk ((hS _).1 (.inl e))).2.1 rfl
  refine ⟨⟨rf7.same hs8 fun b hb e => rf7.alien told7.own alienInts b e.symm hb, want7.same hs8 (fun b hb e => ?_) (fun b ⟨z, hz, hzb⟩ e => ?_), ?_, ?_, ?_, ?_, dis7⟩, h7.same hs8 fun b hb e => h7.alien told7.own alienInts b e.symm hb⟩
  · rcases H.apart with h | h
    · rw [h] at e; cases e
    · exact h (e.symm.trans hb.symm)
  · obtain ⟨j, hj⟩ := List.getElem?_of_mem hz
    rcases own_ne (want7.rows.own j z hj) told7.own (by decide) with h | h
    · rw [h] at hzb; cases hzb
    · exact h (hzb.trans e)
  · exact told7.snoc b7 hx (fun b hb => (H.told.foot_lt b hb).2) H.goes.below.size ho8 hg8
  · exact b7.grown hg8 b7.size fun q hq => (told7.own.lt q hq).1
  · exact Nat.le_trans t7.same.size hg8.size
  · have h8 := hbd.grown hg8 fun e => own_blk_ne told7.own hbd (by decide) e
    refine h8.cell_some ?_
    rcases (show k = 0 ∨ k = 1 by omega) with rfl | rfl <;> rfl
theorem own_step (H : OwnI w wr i wb db gs rs Ss ss tl wl ts us Rs) (hk : k < 2) (hS : ∀ b, Sw b ∨ Sr b ↔ Ss k b) (t7 : Turn Sw S7 wr w7) (hg8 : w7.grownBy w8 tl.ownBlock) (hN8 : Newer w7 tl tl')
    (M : Mid w wr w7 w8 db k rs ss Sw Sr S7 tl' wl x ts us Rs R) (hw8 : Wh w8 (gs k) S7 n (ss k).sets T') (h9 : Rf w9 (rs k) S9 n T') (t9 : Turn Sr S9 w8 w9) (hy : w9.ownsRow w8.heap.size 3 1 y R.length (ivs R))
    (ho10 : w10.ownsRow w.heap.size 34 1 wl' (us.length + 1) (us ++ [y])) (hg10 : w9.grownBy w10 wl.ownBlock) (hN10 : Newer w9 wl wl') (hR : R.length ≤ 4398046511104) :
    OwnI w w10 (i + 1) wb db gs rs (setAt Ss k (fun b => S7 b ∨ S9 b)) (setAt ss k ⟨n, (ss k).sets, T'⟩) tl' wl' (ts ++ [x]) (us ++ [y]) (Rs ++ [R]) := by
  have want9 := M.want.turn t9 (fun ho hE => M.rf.alien ho hE)
  have told9 := M.told.turn t9 (fun ho hE => M.rf.alien ho hE)
  have hs10 := Same.of_grown hg10
  have wh9 := hw8.same t9.same M.dis
  have z8 := M.size
  have z9 := t9.same.size
  have b9 : Below w.heap.size w w9 := M.below.trans (t9.same.belowB fun j hj => ⟨Nat.lt_of_lt_of_le hj M.below.size, fun e => by have := (H.goes.duos.nw k j hk ((hS j).1 (.inr e))).2.2; omega⟩)
  have dis9 : ∀ b, S7 b → ¬ S9 b := fun b hb e => by
    rcases t9.foot b e with e' | e'
    · exact M.dis b hb e'
    · have := hw8.lt hb; omega
  have wh10 := wh9.same hs10 fun b hb e => wh9.alien want9.own alienInts b e.symm hb
  have rf10 := h9.same hs10 fun b hb e => h9.alien want9.own alienInts b e.symm hb
  have hduo : Duo w10 (gs k) (rs k) (fun b => S7 b ∨ S9 b) n (ss k).sets T' := ⟨S7, S9, wh10, rf10, dis9, fun b => Iff.rfl⟩
  have lt_t : ∀ b, tl.ownBlock = some b → w.heap.size ≤ b ∧ b < wr.heap.size := H.told.own.lt
  have lt_w : ∀ b, wl.ownBlock = some b → w.heap.size ≤ b ∧ b < wr.heap.size := H.want.own.lt
  have hfoot : ∀ b, S7 b ∨ S9 b → Ss k b ∨ wr.heap.size ≤ b := fun b hb => by
    rcases hb with hb | hb
    · rcases t7.foot b hb with e | e
      · exact .inl ((hS b).1 (.inl e))
      · exact .inr e
    · rcases t9.foot b hb with e | e
      · exact .inl ((hS b).1 (.inr e))
      · exact .inr (Nat.le_trans z8 e)
  have hsame : Same (fun b => (Sw b ∨ tl.ownBlock = some b) ∨ (Sr b ∨ wl.ownBlock = some b)) wr w10 := by
    refine Same.trans (T := fun b => Sr b ∨ wl.ownBlock = some b) (Same.trans (T := fun b => tl.ownBlock = some b) (t7.same.mono fun b _ e => .inl (.inl e)) ((Same.of_grown hg8).mono fun b _ e => e.symm) fun b _ e => .inl (.inr e)) (Same.trans (T := fun b => wl.ownBlock = some b) (t9.same.mono fun b _ e => .inl e) (hs10.mono fun b _ e => e.symm) fun b _ e => .inr e) fun b _ e => .inr e
  obtain ⟨D, B⟩ := H.goes.duos.turnX hk (s' := ⟨n, (ss k).sets, T'⟩) hduo hsame (X := fun b => tl.ownBlock = some b ∨ wl.ownBlock = some b) (fun b _ e => by
      rcases e with (e | e) | (e | e)
      · exact .inl ((hS b).1 (.inl e))
      · exact .inr (.inl e)
      · exact .inl ((hS b).1 (.inr e))
      · exact .inr (.inr e))
    (fun b hb => by
      have one : ∀ {v : Value} {xs : List Value} {m : Nat}, wr.ownsRow w.heap.size 34 1 v m xs → v.ownBlock = some b → (∀ j, j < 2 → ¬ Ss j b) ∧ b ≠ wb ∧ b ≠ db ∧ w.heap.size ≤ b := fun ho hvb =>
        ⟨fun j hj => (H.goes.duos.duo j hj).alien ho alienInts b hvb, fun e => own_blk_ne ho H.goes.duos.bw (by decide) (by rw [hvb, e]), fun e => own_blk_ne ho H.goes.duos.bd (by decide) (by rw [hvb, e]), (ho.lt b hvb).1⟩
      rcases hb with hb | hb
      · exact one H.told.own hb
      · exact one H.want.own hb)
    hfoot
  have hne : ∀ {base sz n : Nat} {v : Value} {xs : List Value}, w9.ownsRow base 3 sz v n xs → w10.ownsRow base 3 sz v n xs := fun h' => h'.kept hg10 (own_ne h' want9.own (by decide))
  have hap : tl'.ownBlock = none ∨ tl'.ownBlock ≠ wl.ownBlock := by
    rcases hN8 with e | ⟨q, e, hq⟩
    · rw [e]; exact H.apart
    · refine .inr fun e' => ?_
      rw [e] at e'
      have := (lt_w q e'.symm).2
      have := t7.same.size
      omega
  refine ⟨⟨D, H.goes.below.trans B, fun j hj => ?_⟩, ?_, ?_, ?_, fun Q hQ => ?_, ?_⟩
  · unfold setAt
    by_cases e : j = k
    · subst e
      rw [if_pos rfl]
      exact Nat.le_succ_of_le (H.goes.sets j hj)
    · rw [if_neg e]
      exact Nat.le_succ_of_le (H.goes.sets j hj)
  · refine told9.same hs10 (fun b hb e => ?_) fun b ⟨z, hz, hzb⟩ e => ?_
    · rcases hap with h | h
      · rw [h] at hb; cases hb
      · exact h (hb.trans e)
    · obtain ⟨j, hj⟩ := List.getElem?_of_mem hz
      rcases own_ne (told9.rows.own j z hj) want9.own (by decide) with h | h
      · rw [h] at hzb; cases hzb
      · exact h (hzb.trans e)
  · exact want9.snoc b9 hy (fun b hb => (M.want.foot_lt b hb).2) M.below.size ho10 hg10
  · rcases hN10 with e | ⟨q, e, hq⟩
    · rw [e]; exact hap
    · cases htl : tl'.ownBlock with
      | none => exact .inl rfl
      | some c =>
        refine .inr fun e' => ?_
        rw [e] at e'
        injection e' with e'
        have := (M.told.own.lt c htl).2
        omega
  · rcases List.mem_append.1 hQ with hQ | hQ
    · exact H.small Q hQ
    · rw [show Q = R by simpa using hQ]; exact hR
  · rw [List.length_append]; have := H.few; simp; omega
end
theorem Goes.same {w wr w' : World} {i wb db : Nat} {gs rs : Nat → Nat} {Ss : Nat → Nat → Prop} {ss : Nat → WS} {U : Nat → Prop} (h : Goes w wr i wb db gs rs Ss ss) (hs : Same U wr w') (hU : ∀ b, U b → (∀ j, j < 2 → ¬ Ss j b) ∧ b ≠ wb ∧ b ≠ db ∧ w.heap.size ≤ b) : Goes w w' i wb db gs rs Ss ss :=
  ⟨⟨h.duos.bw.same hs fun e => (hU _ e).2.1 rfl, h.duos.bd.same hs fun e => (hU _ e).2.2.1 rfl, fun j hj => (h.duos.duo j hj).same hs fun b hb e => (hU b e).1 j hj hb, h.duos.dis, h.duos.nw, h.duos.lo.1, h.duos.lo.2.1, Nat.le_trans h.duos.lo.2.2 hs.size⟩,
    h.below.trans (hs.belowB fun k hk => ⟨Nat.lt_of_lt_of_le hk h.below.size, fun e => by have := (hU k e).2.2.2; omega⟩), h.sets⟩
theorem OwnI.footFar {w wr : World} {i wb db : Nat} {gs rs : Nat → Nat} {Ss : Nat → Nat → Prop} {ss : Nat → WS} {tl wl : Value} {ts us : List Value} {Rs : List (List Int)} (h : OwnI w wr i wb db gs rs Ss ss tl wl ts us Rs) : ∀ b, Foot ts b → (∀ j, j < 2 → ¬ Ss j b) ∧ b ≠ wb ∧ b ≠ db ∧ w.heap.size ≤ b := fun b ⟨x, hx, hb⟩ => by
  obtain ⟨j, hj⟩ := List.getElem?_of_mem hx
  have ho := h.told.rows.own j x hj
  exact ⟨fun j hj => (h.goes.duos.duo j hj).alien ho alienInt b hb, fun e => own_blk_ne ho h.goes.duos.bw (by decide) (by rw [hb, e]), fun e => own_blk_ne ho h.goes.duos.bd (by decide) (by rw [hb, e]), (ho.lt b hb).1⟩
theorem OwnI.apartInts {w wr : World} {i wb db : Nat} {gs rs : Nat → Nat} {Ss : Nat → Nat → Prop} {ss : Nat → WS} {tl wl : Value} {ts us : List Value} {Rs : List (List Int)} (h : OwnI w wr i wb db gs rs Ss ss tl wl ts us Rs) (hi : i ≤ 4398046511104) :
    Calls Try.prog 23 #[tl] wr fun e w' => e = .returned (.bool true) ∧ Goes w w' i wb db gs rs Ss ss := by
  refine (apartInts_any tl w.heap.size w.heap.size ts.length ts _ _ wr h.told.own h.told.rows h.goes.below.size (fun j => ?_) ?_).mono ?_
  · show (Rs.getD j []).length ≤ _
    rw [List.getD_eq_getElem?_getD]
    cases hj : Rs[j]? with
    | none => simp
    | some R => exact h.small R (List.mem_of_getElem? hj)
  · rw [h.told.len]; have := h.few; omega
  · rintro e w' ⟨rfl, hs⟩
    exact ⟨rfl, h.goes.same hs h.footFar⟩
end Go.Proofs.Ytnnkchgkebcblaa
