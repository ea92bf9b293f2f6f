/- CutterOwn returns true. -/
import Derived.Test.YtgnbnkoanoalhaaOwnR
import Derived.Test.YtgnbnkoanoalhaaApartBytes
namespace Go.Proofs.Ytgnbnkoanoalhaa
set_option linter.unusedVariables false
set_option linter.unusedSimpArgs false
open Go.RowKit
/-- slices that are owned, each in a block of its own, whatever they hold. -/
def RowsE (w : World) (base : Nat) (E : TypeId) (size M : Nat) (vs : List Value) : Prop := ∃ ns f, Rows w base E size vs ns f ∧ ∀ i, ns i ≤ M
section
variable {w w' : World} {base size M : Nat} {E : TypeId} {vs us : List Value}
theorem RowsE.later (h : RowsE w base E size M vs) (hb : Below w.heap.size w w') : RowsE w' base E size M vs := by
  obtain ⟨ns, f, h1, h2⟩ := h
  exact ⟨ns, f, h1.later hb, h2⟩
theorem RowsE.kept {b' s' n' : Nat} {E' : TypeId} {v' : Value} {zs : List Value} (h : RowsE w base E size M vs) (hv : w.ownsRow b' E' s' v' n' zs) (hE : E ≠ E') (hg : w.grownBy w' v'.ownBlock) : RowsE w' base E size M vs := by
  obtain ⟨ns, f, h1, h2⟩ := h
  exact ⟨ns, f, h1.kept hv hE hg, h2⟩
theorem RowsE.same_own {b' s' n' : Nat} {E' : TypeId} {v' : Value} {zs : List Value} (h : RowsE w base E size M vs) (hv : w.ownsRow b' E' s' v' n' zs) (hE : E ≠ E') (hS : Same (fun b => v'.ownBlock = some b) w w') : RowsE w' base E size M vs := by
  obtain ⟨ns, f, h1, h2⟩ := h
  refine ⟨ns, f, ⟨fun i x hx => own_same (h1.own i x hx) hS fun b hb e => ?_, h1.ne⟩, h2⟩
  rcases own_ne (h1.own i x hx) hv hE with h | h
  · rw [h] at hb; cases hb
  · exact h (hb.trans e.symm)
theorem RowsE.app {b2 : Nat} (h : RowsE w base E size M vs) (h' : RowsE w b2 E size M us) (hb : base ≤ b2) (hlt : ∀ x ∈ vs, ∀ b, x.ownBlock = some b → b < b2) : RowsE w base E size M (vs ++ us) := by
  obtain ⟨ns, f, h1, h2⟩ := h
  obtain ⟨ms, g, g1, g2⟩ := h'
  refine ⟨fun i => if i < vs.length then ns i else ms (i - vs.length), fun i => if i < vs.length then f i else g (i - vs.length), ⟨fun i x hx => ?_, fun i j x y hij hx hy => ?_⟩, fun i => ?_⟩
  · by_cases hi : i < vs.length
    · rw [List.getElem?_append_left hi] at hx
      simp only [if_pos hi]
      exact h1.own i x hx
    · rw [List.getElem?_append_right (by omega)] at hx
      simp only [if_neg hi]
      exact own_mono (g1.own _ x hx) hb
  · have cross : ∀ (i j : Nat) (x y : Value), vs[i]? = some x → us[j]? = some y → x.ownBlock = none ∨ x.ownBlock ≠ y.ownBlock := fun i j x y hx hy => by
      cases hxo : x.ownBlock with
      | none => exact .inl rfl
      | some b =>
        refine .inr fun e => ?_
        have a1 := hlt x (List.mem_of_getElem? hx) b hxo
        have a2 := ((g1.own j y hy).lt b e.symm).1
        omega
    by_cases hi : i < vs.length
    · rw [List.getElem?_append_left hi] at hx
      by_cases hj : j < vs.length
      · rw [List.getElem?_append_left hj] at hy
        exact h1.ne i j x y hij hx hy
      · rw [List.getElem?_append_right (by omega)] at hy
        exact cross i _ x y hx hy
    · rw [List.getElem?_append_right (by omega)] at hx
      by_cases hj : j < vs.length
      · rw [List.getElem?_append_left hj] at hy
        cases hxo : x.ownBlock with
        | none => exact .inl rfl
        | some b =>
          refine .inr fun e => ?_
          rcases cross j _ y x hy hx with h | h
          · rw [h] at e; cases e
          · exact h (e.symm.trans hxo.symm)
      · rw [List.getElem?_append_right (by omega)] at hy
        exact g1.ne _ _ x y (by omega) hx hy
  · by_cases hi : i < vs.length
    · simp only [if_pos hi]; exact h2 i
    · simp only [if_neg hi]; exact g2 _
theorem RowsE.one {x : Value} {n : Nat} {cs : List Value} (h : w.ownsRow base E size x n cs) (hM : n ≤ M) : RowsE w base E size M [x] :=
  ⟨fun _ => n, fun _ => cs, ⟨fun i y hy => by
    match i, hy with
    | 0, hy => injection hy with hy; subst hy; exact h
    | i + 1, hy => simp at hy, fun i j x y hij hx hy => by
      have a := (List.getElem?_eq_some_iff.1 hx).1
      have b := (List.getElem?_eq_some_iff.1 hy).1
      simp at a b; omega⟩, fun _ => hM⟩
theorem RowsE.lt (h : RowsE w base E size M vs) : ∀ x ∈ vs, ∀ b, x.ownBlock = some b → base ≤ b ∧ b < w.heap.size := fun x hx b hb => by
  obtain ⟨ns, f, h1, _⟩ := h
  obtain ⟨i, hi, rfl⟩ := List.mem_iff_getElem.1 hx
  exact (h1.own i _ (List.getElem?_eq_getElem hi)).lt b hb
theorem RowsE.cell (h : RowsE w base E size M vs) : ∀ x ∈ vs, x.oneCell' = true := fun x hx => by
  obtain ⟨ns, f, h1, _⟩ := h
  obtain ⟨i, hi, rfl⟩ := List.mem_iff_getElem.1 hx
  obtain ⟨a, c, e, -⟩ := Rd.of_own (h1.own i _ (List.getElem?_eq_getElem hi))
  rw [e]; rfl
end
/-- the parts of a list, as rows. -/
theorem Parts.rows {w : World} {base M : Nat} {v : Value} {ls : List (List UInt8)} (h : Parts w base v ls) (hM : ∀ p ∈ ls, p.length ≤ M) : ∃ vs, w.ownsRow base 22 1 v ls.length vs ∧ RowsE w base 5 1 M vs ∧
    ∀ (i : Nat) (x : Value) (l : List UInt8), vs[i]? = some x → ls[i]? = some l → w.ownsRow base 5 1 x l.length (l.map ub) := by
  obtain ⟨vs, h1, h2, h3⟩ := h
  have hvl : vs.length = ls.length := by simpa using h1.1
  refine ⟨vs, h1, ⟨fun i => (ls.getD i []).length, fun i => (ls.getD i []).map ub, ⟨fun i x hx => ?_, fun i j x y hij hx hy => ?_⟩, fun i => ?_⟩, h2⟩
  · have hi : i < ls.length := by have := (List.getElem?_eq_some_iff.1 hx).1; omega
    exact h2 i x _ hx (by rw [List.getD_eq_getElem?_getD, List.getElem?_eq_getElem hi]; rfl)
  · rcases Nat.lt_or_gt_of_ne hij with h | h
    · exact h3 i j x y h hx hy
    · cases hxo : x.ownBlock with
      | none => exact .inl rfl
      | some b =>
        refine .inr fun e => ?_
        rcases h3 j i y x h hy hx with h' | h'
        · rw [h'] at e; cases e
        · exact h' (e.symm.trans hxo.symm)
  · show (ls.getD i []).length ≤ M
    rw [List.getD_eq_getElem?_getD]
    cases hi : ls[i]? with
    | none => simp
    | some p => exact hM p (List.mem_of_getElem? hi)
theorem cutOf_le (l : List UInt8) (mtu : Int) : ∀ p ∈ cutOf l mtu, p.length ≤ l.length := by
  intro p hp
  unfold cutOf at hp
  split at hp
  · unfold pieces at hp
    obtain ⟨i, _, rfl⟩ := List.mem_map.1 hp
    simp [piece]; omega
  · simp at hp
set_option maxHeartbeats 1000000 in
set_option maxRecDepth 100000 in
theorem both_any (va x y : Value) (base n : Nat) (vs : List Value) (w : World) (h : w.ownsRow base 22 1 va n vs) (hx : ∃ p m c, x = .slice p m c) (hy : ∃ p m c, y = .slice p m c) (hn : n ≤ 1024) (hb : base ≤ w.heap.size) :
    Calls Try.prog 31 #[va, x, y] w fun e w' => ∃ v, e = .returned v ∧ w'.ownsRow base 22 1 v (n + 2) (vs ++ [x, y]) ∧ Same (fun b => va.ownBlock = some b) w w' := by
  obtain ⟨p, m, c, rfl⟩ := hx
  obtain ⟨q, k, d, rfl⟩ := hy
  go_enter Try.func31, Try.ntmps31
  go_wp2_with (first
    | (at_builtin; refine wpList_app1_at El.bytes rfl (.tmp 7) (.tmp 9) rfl h rfl (cs := #[.slice p m c]) rfl rfl (by intro x hx; simp at hx; subst hx; rfl) (by omega) hb ?_; intro v1 w1 own1 hgr1 hl1; have hz1 : base ≤ w1.heap.size := Nat.le_trans hb hgr1.size)
    | (at_builtin; refine wpList_app1_at El.bytes rfl (.tmp 11) (.tmp 13) rfl own1 rfl (cs := #[.slice q k d]) rfl rfl (by intro x hx; simp at hx; subst hx; rfl) (by omega) hz1 ?_; intro v2 w2 own2 hgr2 hl2))
  go_ret
  refine ⟨_, rfl, by simpa using own2, ?_⟩
  have s1 : Same (fun b => va.ownBlock = some b) w w1 := (Same.of_grown hgr1).mono fun _ _ h => h.symm
  refine s1.trans (Same.of_grown hgr2) fun i hi e => ?_
  rcases hl1 with ⟨e1, _⟩ | ⟨b, e1, e2, _⟩
  · rw [e1] at e; exact e.symm
  · rw [e1] at e; injection e with e; omega
end Go.Proofs.Ytgnbnkoanoalhaa
