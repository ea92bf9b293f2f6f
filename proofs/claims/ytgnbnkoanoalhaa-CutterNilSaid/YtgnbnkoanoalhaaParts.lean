/- Lists of byte slices, each in a block of its own. -/
import Derived.Test.YtgnbnkoanoalhaaTypes
namespace Go.Proofs.Ytgnbnkoanoalhaa
set_option linter.unusedVariables false
set_option linter.unusedSimpArgs false
open Go.RowKit

/-- v owns slices of bytes, each in a block of its own. -/
def Parts (w : World) (base : Nat) (v : Value) (ls : List (List UInt8)) : Prop :=
  ∃ vs : List Value, w.ownsRow base 22 1 v ls.length vs ∧ (∀ (i : Nat) (x : Value) (l : List UInt8), vs[i]? = some x → ls[i]? = some l → w.ownsRow base 5 1 x l.length (l.map ub)) ∧
    (∀ (i j : Nat) (x y : Value), i < j → vs[i]? = some x → vs[j]? = some y → x.ownBlock = none ∨ x.ownBlock ≠ y.ownBlock)

theorem parts_nil (w : World) (base : Nat) : Parts w base (.slice none 0 0) [] := ⟨[], World.ownsRow_nil _ _ _ _, by simp, by simp⟩
theorem parts_snoc {w w1 w2 : World} {base : Nat} {v v1 v2 : Value} {vs : List Value} {ls : List (List UInt8)} {l : List UInt8} (hb : base ≤ w.heap.size)
    (h0 : w.ownsRow base 22 1 v ls.length vs) (hin : ∀ (i : Nat) (x : Value) (l : List UInt8), vs[i]? = some x → ls[i]? = some l → w.ownsRow base 5 1 x l.length (l.map ub))
    (hne : ∀ (i j : Nat) (x y : Value), i < j → vs[i]? = some x → vs[j]? = some y → x.ownBlock = none ∨ x.ownBlock ≠ y.ownBlock)
    (h1 : w1.ownsRow w.heap.size 5 1 v1 l.length (l.map ub)) (hB : Below w.heap.size w w1)
    (h2 : w2.ownsRow base 22 1 v2 (ls.length + 1) (vs ++ [v1])) (hg : w1.grownBy w2 v.ownBlock) : Parts w2 base v2 (ls ++ [l]) := by
  have hvl : vs.length = ls.length := by simpa using h0.1
  have h0' := own_later h0 hB
  have step : ∀ {x : Value} {m : Nat} {xs : List Value} {base : Nat}, w1.ownsRow base 5 1 x m xs → w2.ownsRow base 5 1 x m xs := fun h =>
    own_same h (Same.of_grown hg) (fun b hb he => by
      rcases own_ne h h0' (by decide) with hh | hh
      · rw [hb] at hh; cases hh
      · exact hh (hb.trans he))
  refine ⟨vs ++ [v1], by simpa using h2, fun i x l' hx hl => ?_, fun i j x y hij hx hy => ?_⟩
  · by_cases hi : i < vs.length
    · rw [List.getElem?_append_left hi] at hx
      rw [List.getElem?_append_left (by omega)] at hl
      exact step (own_later (hin i x l' hx hl) hB)
    · rw [List.getElem?_append_right (by omega)] at hx hl
      have : i = vs.length := by
        have := (List.getElem?_eq_some_iff.1 hx).1
        simp at this; omega
      subst this
      simp at hx
      rw [hvl] at hl
      simp at hl
      subst hx; subst hl
      exact own_mono (step h1) hb
  · by_cases hj : j < vs.length
    · rw [List.getElem?_append_left hj] at hy
      rw [List.getElem?_append_left (by omega)] at hx
      exact hne i j x y hij hx hy
    · rw [List.getElem?_append_right (by omega)] at hy
      have : j = vs.length := by
        have := (List.getElem?_eq_some_iff.1 hy).1
        simp at this; omega
      subst this
      simp at hy
      subst hy
      rw [List.getElem?_append_left hij] at hx
      have hx' := hin i x _ hx (List.getElem?_eq_getElem (hvl ▸ hij))
      cases hxo : x.ownBlock with
      | none => exact .inl rfl
      | some k =>
        refine .inr fun he => ?_
        have a := (hx'.lt k hxo).2
        have b := (h1.lt k he.symm).1
        omega
/-- the last of the slices has grown, and lies in the list again. -/
theorem parts_put {w w1 : World} {base g c n : Nat} {x x1 : Value} {vs : List Value} {ls : List (List UInt8)} {t : List UInt8} {u : UInt8} (hn : ls.length = n)
    (h0 : w.ownsRow base 22 1 (.slice (some ⟨g, 0, none⟩) (n + 1) c) (n + 1) vs) (hin : ∀ (i : Nat) (x : Value) (l : List UInt8), vs[i]? = some x → (ls ++ [t])[i]? = some l → w.ownsRow base 5 1 x l.length (l.map ub))
    (hne : ∀ (i j : Nat) (x y : Value), i < j → vs[i]? = some x → vs[j]? = some y → x.ownBlock = none ∨ x.ownBlock ≠ y.ownBlock) (hx : vs[n]? = some x)
    (h1 : w1.ownsRow base 5 1 x1 (t.length + 1) (t.map ub ++ [ub u])) (hg : w.grownBy w1 x.ownBlock) (hN : Newer w x x1) :
    Parts (w1.setCell ⟨g, n, none⟩ x1) base (.slice (some ⟨g, 0, none⟩) (n + 1) c) (ls ++ [t ++ [u]]) := by
  subst hn
  have hvl : vs.length = ls.length + 1 := by simpa using h0.1
  have hxo := hin _ x t hx (by simp)
  have hox := own_ne hxo h0 (by decide)
  have h0' := h0.kept hg (by rcases hox with h | h; (right; rw [h]; simp [Value.ownBlock]); exact .inr (Ne.symm h))
  have hs := h0'.stored ls.length x1
  have hkeep : ∀ {y : Value} {n : Nat} {xs : List Value}, w1.ownsRow base 5 1 y n xs → (w1.setCell ⟨g, ls.length, none⟩ x1).ownsRow base 5 1 y n xs := fun h => h.kept hs.2 (own_ne h h0' (by decide))
  refine ⟨vs.set ls.length x1, by simpa using hs.1, fun i y l hy hl => ?_, fun i j y z hij hy hz => ?_⟩
  · rw [List.getElem?_set] at hy
    split at hy
    · next he =>
      subst he
      rw [if_pos (by omega)] at hy
      obtain rfl : x1 = y := by simpa using hy
      obtain rfl : t ++ [u] = l := by simpa using hl
      exact hkeep (by simpa using h1)
    · next he =>
      have hi : i < ls.length := by have := (List.getElem?_eq_some_iff.1 hy).1; omega
      rw [List.getElem?_append_left hi] at hl
      have hy' := hin i y l hy (by rw [List.getElem?_append_left hi]; exact hl)
      refine hkeep (hy'.kept hg ?_)
      exact hne i ls.length y x hi hy hx
  · have hjl : j < ls.length + 1 := by have := (List.getElem?_eq_some_iff.1 hz).1; simp at this; omega
    rw [List.getElem?_set_ne (by omega)] at hy
    have hy' := hin i y _ hy (List.getElem?_eq_getElem (by simp; omega))
    rw [List.getElem?_set] at hz
    split at hz
    · next he =>
      rw [if_pos (by omega)] at hz
      obtain rfl : x1 = z := by simpa using hz
      rcases hN with hN | ⟨k, hk, hlt⟩
      · rw [hN]
        exact hne i ls.length y x (by omega) hy hx
      · cases hyo : y.ownBlock with
        | none => exact .inl rfl
        | some b =>
          have := (hy'.lt b hyo).2
          exact .inr fun h => by rw [hk] at h; injection h; omega
    · exact hne i j y z hij hy hz

theorem Parts.same {S : Nat → Prop} {w w' : World} {base : Nat} {v : Value} {ls : List (List UInt8)} (h : Parts w base v ls) (hb : Same S w w') (hS : ∀ b, base ≤ b → ¬ S b) : Parts w' base v ls := by
  obtain ⟨vs, h1, h2, h3⟩ := h
  exact ⟨vs, own_same h1 hb (fun b e => hS b (h1.lt b e).1), fun i x l hx hl => own_same (h2 i x l hx hl) hb (fun b e => hS b ((h2 i x l hx hl).lt b e).1), h3⟩
theorem Parts.later {w w' : World} {base : Nat} {v : Value} {ls : List (List UInt8)} (h : Parts w base v ls) (hb : Below w.heap.size w w') : Parts w' base v ls := by
  obtain ⟨vs, h1, h2, h3⟩ := h
  exact ⟨vs, own_later h1 hb, fun i x l hx hl => own_later (h2 i x l hx hl) hb, h3⟩
theorem Parts.bss {w : World} {base : Nat} {v : Value} {ls : List (List UInt8)} (h : Parts w base v ls) : Bss w v ls := by
  obtain ⟨vs, h1, h2, _⟩ := h
  exact ⟨vs, by simpa using h1.1, Rd.of_own h1, fun i x l hx hl => Rd.of_own (h2 i x l hx hl)⟩
end Go.Proofs.Ytgnbnkoanoalhaa
