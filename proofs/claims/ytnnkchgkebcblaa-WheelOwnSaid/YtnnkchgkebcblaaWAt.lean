/- The program's wheel in memory: a block with its time, 512 rows and a map. -/
import Derived.Test.YtnnkchgkebcblaaProg
import Derived.Test.YtnnkchgkebcblaaAppAt
import Derived.Test.YtnnkchgkebcblaaWLaw
import Derived.Maps.OwnSet
namespace Go.Proofs.Ytnnkchgkebcblaa
set_option linter.unusedVariables false
set_option linter.unusedSimpArgs false
open Go.RowKit Go.Maps
theorem El.tms : El Try.prog 64 82 (.agg #[.int .i64 0, .int .u64 0, .int .u64 0]) 3 24 := ⟨Try.underlying64, by kernel_rfl, rfl, by decide, by decide⟩
theorem El.ints : El Try.prog 34 3 (.int .i64 0) 1 8 := ⟨Try.underlying34, by kernel_rfl, rfl, by decide, by decide⟩
/-! ### timers as cells -/
def tv (t : Tm) : List Value := [.int .i64 t.id, .int .u64 (t.at_ : Int), .int .u64 (t.ord : Int)]
def tvs (l : List Tm) : List Value := l.flatMap tv
theorem tvs_nil : tvs [] = [] := rfl
theorem tvs_cons (t : Tm) (l : List Tm) : tvs (t :: l) = tv t ++ tvs l := rfl
theorem tvs_append (a b : List Tm) : tvs (a ++ b) = tvs a ++ tvs b := by simp [tvs]
theorem tvs_len : ∀ l : List Tm, (tvs l).length = l.length * 3
  | [] => rfl
  | t :: l => by rw [tvs_cons, List.length_append, tvs_len l, List.length_cons]; simp [tv]; omega
theorem tvs_at : ∀ (l : List Tm) (i : Nat) (t : Tm), l[i]? = some t → ∀ o, o < 3 → (tvs l)[i * 3 + o]? = (tv t)[o]?
  | [], i, t, h, o, ho => by simp at h
  | x :: l, 0, t, h, o, ho => by
    simp at h
    subst h
    rw [tvs_cons, Nat.zero_mul, Nat.zero_add, List.getElem?_append_left (by simp [tv]; omega)]
  | x :: l, i + 1, t, h, o, ho => by
    rw [tvs_cons, List.getElem?_append_right (by simp [tv]; omega)]
    have := tvs_at l i t (by simpa using h) o ho
    rw [← this]
    congr 1
    simp [tv]
    omega
theorem tvs_one (l : List Tm) : ∀ x ∈ tvs l, x.oneCell' = true := by
  intro x hx
  obtain ⟨t, _, ht⟩ := List.mem_flatMap.1 hx
  simp [tv] at ht
  rcases ht with rfl | rfl | rfl <;> rfl
/-! ### places -/
structure Pl where
  lev : Nat
  slot : Nat
  nev : Bool
def Pl.val (p : Pl) : Value := .agg #[.int .i64 (p.lev : Int), .int .i64 (p.slot : Int), .bool p.nev]
def plL : List Value → Option (DataW Unit × List MemPlace)
  | [.int .i64 a, .int .i64 b, .bool c] => some (.agg [.lit (.int .i64 a), .lit (.int .i64 b), .lit (.bool c)], [])
  | _ => none
def plR : Value → Option (DataW Unit × List MemPlace)
  | .agg cs => plL cs.toList
  | _ => none
def Pl.dat (p : Pl) : DataW Unit := .agg [.lit (.int .i64 (p.lev : Int)), .lit (.int .i64 (p.slot : Int)), .lit (.bool p.nev)]
theorem plR_mk (p : Pl) : plR p.val = some (p.dat, []) := rfl
theorem plR_inv {v : Value} {p : Pl} {ps : List MemPlace} (h : plR v = some (p.dat, ps)) : v = p.val := by
  unfold plR at h
  split at h
  · rename_i cs
    unfold plL at h
    split at h
    · rename_i a b c hc
      simp only [Option.some.injEq, Prod.mk.injEq, Pl.dat, DataW.agg.injEq, List.cons.injEq, DataW.lit.injEq, Lit.int.injEq, Lit.bool.injEq, true_and, and_true] at h
      obtain ⟨⟨rfl, rfl, rfl⟩, _⟩ := h
      have : cs = #[.int .i64 (p.lev : Int), .int .i64 (p.slot : Int), .bool p.nev] := by
        apply Array.ext'
        rw [hc]
      rw [this]
      rfl
    · cases h
  · cases h
def key (i : Int) : Lit := .int .i64 i
abbrev OwnsM (w : World) (b n : Nat) (D : DataW Unit) : Prop := w.ownsMap Try.prog 3 plR b n D
theorem owns_tight {w : World} {b n : Nat} {D : DataW Unit} (h : OwnsM w b n D) : OwnsM w b (size D) D := by
  obtain ⟨es, clock, hb, F, _, rfl⟩ := h
  exact ⟨es, clock, hb, F, by simp [size, length_sorted], rfl⟩
theorem owns_same {S : Nat → Prop} {w w' : World} {b n : Nat} {D : DataW Unit} (h : OwnsM w b n D) (hs : Same S w w') (hb : ¬ S b) : OwnsM w' b n D := by
  have hlt := h.lt
  obtain ⟨es, clock, he, F, hn, hD⟩ := h
  exact ⟨es, clock, (hs.block b hlt hb).trans he, F, hn, hD⟩
theorem owns_blk_ne {w : World} {b n g : Nat} {D : DataW Unit} {t : TypeId} {cs : List Value} (h : OwnsM w b n D) (hg : Blk w g t cs) : b ≠ g := by
  rintro rfl
  obtain ⟨es, clock, he, _⟩ := h
  unfold Blk at hg
  rw [he] at hg
  cases hg
theorem owns_row_ne {w : World} {b n : Nat} {D : DataW Unit} (h : OwnsM w b n D) {base : Nat} {e : TypeId} {sz : Nat} {v : Value} {k : Nat} {cs : List Value} (hr : w.ownsRow base e sz v k cs) : v.ownBlock ≠ some b := by
  obtain ⟨es, clock, he, _⟩ := h
  obtain ⟨_, ⟨rfl, _⟩ | ⟨g', cap, cur, rfl, _, h3, _⟩⟩ := hr
  · intro h; cases h
  · intro hh
    have : g' = b := by simpa [Value.ownBlock] using hh
    subst this
    rw [he] at h3
    cases h3
/-- the map: at each number its place, N numbers. -/
structure MapIs (w : World) (b : Nat) (m : Int → Option Pl) (N : Nat) : Prop where
  ex : ∃ D : DataW Unit, OwnsM w b N D ∧ size D = N ∧ (∀ i, (key i).wf = true → has D (key i) = (m i).isSome) ∧ ∀ i p, (key i).wf = true → m i = some p → ∀ z, D.atKey (key i) z = p.dat
theorem MapIs.same {S : Nat → Prop} {w w' : World} {b N : Nat} {m : Int → Option Pl} (h : MapIs w b m N) (hs : Same S w w') (hb : ¬ S b) : MapIs w' b m N := by
  obtain ⟨D, h1, h2⟩ := h
  exact ⟨D, owns_same h1 hs hb, h2⟩
def mput (m : Int → Option Pl) (i : Int) (p : Pl) : Int → Option Pl := fun j => if j = i then some p else m j
def mdel (m : Int → Option Pl) (i : Int) : Int → Option Pl := fun j => if j = i then none else m j
theorem isKey (i : Int) : WideAt.IsKeyLit (key i) := by simp [WideAt.IsKeyLit, key]
theorem key_ne {i j : Int} (h : i ≠ j) : key i ≠ key j := fun e => h (by injection e)
theorem keyed : Keyed Try.prog 3 := int_keyed Try.underlying3
def cnt (m : Int → Option Pl) (i : Int) (N : Nat) : Nat := if (m i).isSome then N else N + 1
def cntd (m : Int → Option Pl) (i : Int) (N : Nat) : Nat := if (m i).isSome then N - 1 else N
theorem MapIs.put {w w' : World} {b N : Nat} {m : Int → Option Pl} {D : DataW Unit} {i : Int} {p : Pl} (hi : (key i).wf = true) (h1 : OwnsM w b N D) (h2 : size D = N) (h3 : ∀ i, (key i).wf = true → has D (key i) = (m i).isSome)
    (h4 : ∀ i p, (key i).wf = true → m i = some p → ∀ z, D.atKey (key i) z = p.dat) (h5 : OwnsM w' b (N + 1) (D.put (key i) p.dat)) : MapIs w' b (mput m i p) (cnt m i N) := by
  unfold cnt
  have hD := h1.isMap
  have hsz : size (D.put (key i) p.dat) = if (m i).isSome then N else N + 1 := by
    rw [size_put (h1.tidy keyed), h3 i hi, h2]
  refine ⟨_, ?_, hsz, fun j hj => ?_, fun j q hj hq z => ?_⟩
  · have := owns_tight h5
    rwa [hsz] at this
  · unfold mput
    by_cases e : j = i
    · subst e; rw [has_put_same hD (isKey j), if_pos rfl]; rfl
    · rw [has_put_other (key_ne e), if_neg e, h3 j hj]
  · unfold mput at hq
    by_cases e : j = i
    · subst e
      rw [if_pos rfl] at hq
      injection hq with hq
      subst hq
      exact atKey_put_same hD (isKey j) _ _
    · rw [if_neg e] at hq
      rw [atKey_put_other (key_ne e)]
      exact h4 j q hj hq z
theorem MapIs.del {w w' : World} {b N : Nat} {m : Int → Option Pl} {D : DataW Unit} {i : Int} (hi : (key i).wf = true) (h1 : OwnsM w b N D) (h2 : size D = N) (h3 : ∀ i, (key i).wf = true → has D (key i) = (m i).isSome)
    (h4 : ∀ i p, (key i).wf = true → m i = some p → ∀ z, D.atKey (key i) z = p.dat) (h5 : OwnsM w' b N (D.del (key i))) : MapIs w' b (mdel m i) (cntd m i N) := by
  unfold cntd
  have hsz : size (D.del (key i)) = if (m i).isSome then N - 1 else N := by
    have := size_del (k := key i) (h1.tidy keyed)
    rw [h3 i hi, h2] at this
    split at this <;> rename_i hh <;> simp [hh] <;> omega
  refine ⟨_, ?_, hsz, fun j hj => ?_, fun j q hj hq z => ?_⟩
  · have := owns_tight h5
    rwa [hsz] at this
  · unfold mdel
    by_cases e : j = i
    · subst e; rw [has_del_same, if_pos rfl]; rfl
    · rw [has_del_other (key_ne e), if_neg e, h3 j hj]
  · unfold mdel at hq
    by_cases e : j = i
    · subst e; rw [if_pos rfl] at hq; cases hq
    · rw [if_neg e] at hq
      rw [atKey_del_other (key_ne e)]
      exact h4 j q hj hq z
end Go.Proofs.Ytnnkchgkebcblaa
