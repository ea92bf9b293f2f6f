/- slices.SortFunc at ranges, by where they begin: the row is a sorted permutation of what it was. -/
import Derived.Test.YtghjffgaebnhiaaDoorMSortOwn
import Derived.Test.YtghjffgaebnhiaaDoorMCmp
import Derived.Test.YtghjffgaebnhiaaDoorMShelf
namespace Go.Proofs.YtghjffgaebnhiaaDoor
set_option linter.unusedVariables false
set_option linter.unusedSimpArgs false
open Go.RowKit Go.Sort Go.Proofs
theorem ltFrom (x y : Int × Int) : ltOf (fun x y : Int × Int => Lib.compareInt x.1 y.1) x y = decide (x.1 < y.1) := by
  unfold ltOf Lib.compareInt
  by_cases h1 : x.1 < y.1
  · simp [h1]
  · by_cases h2 : y.1 < x.1 <;> simp [h1, h2]
theorem swoFrom : SWO (ltOf fun x y : Int × Int => Lib.compareInt x.1 y.1) where
  irrefl x := by rw [ltFrom]; simp
  trans x y z h1 h2 := by rw [ltFrom] at *; simp at *; omega
  ntrans x y z h1 h2 := by rw [ltFrom] at *; simp at *; omega
theorem sort_any (base : Nat) (v : Value) (l : List (Int × Int)) (w : World) (hown : w.ownsRow base 57 2 v l.length (rvs l)) (hl : l.length < 4611686018427387904) :
    Calls Tryd.prog 62 #[v, .func (.func 63) #[] #[]] w fun e w' => e = .returned (.tuple #[]) ∧ ∃ l', l'.Perm l ∧ l'.Pairwise (fun a b => a.1 ≤ b.1) ∧
      w'.ownsRow base 57 2 v l'.length (rvs l') ∧ w.grownBy w' v.ownBlock := by
  rcases hown.2 with ⟨rfl, hn⟩ | ⟨g, cap, cur, rfl, hbase, hb, h1, h2, h3, h4⟩
  · have hl0 : l = [] := List.length_eq_zero_iff.1 hn
    subst hl0
    have hcon := AnyF.slices_SortFunc_none Tryd.sortRange none 0 (.func (.func 63) #[] #[]) w
    change Calls Tryd.prog 62 _ _ _ at hcon
    refine hcon.mono ?_
    rintro e w' ⟨rfl, rfl⟩
    exact ⟨rfl, [], List.Perm.refl _, List.Pairwise.nil, hown, World.grownBy.refl _ _⟩
  · have eg : ∀ args w, (callFunc 63 args).run Tryd.prog w = .ok (.enter 63 args) w := enters_of Tryd.func63 (by kernel_rfl) rfl
    have hcon := AnyQ.slices_SortFunc Tryd.sortRange 2 Tryd.isAgg57 Tryd.sizeOf57 rv (fun _ => rfl) (fun x v hv => by simp [rv] at hv; rcases hv with rfl | rfl <;> rfl) (fun x y => Lib.compareInt x.1 y.1) swoFrom 63 #[] g 0 cap l.toArray w eg
      (fun _ _ _ _ x y => byFrom_any x y _) (holds_rv hb h4) (Array.getElem?_eq_some_iff.1 hb).1 (by simpa using hl)
    change Calls Tryd.prog 62 _ _ _ at hcon
    simp only [List.size_toArray] at hcon
    refine hcon.mono ?_
    rintro e w' ⟨rfl, d, n, os, ⟨hd, _, hp⟩, hs, rfl⟩
    have hd' : d.size = l.length := by simpa using hd
    obtain ⟨o1, o2⟩ := sorted_rv (n := n) (os := os) d hd' hbase hb h1 h2 h3
    refine ⟨rfl, d.toList, ?_, ?_, by simpa [hd'] using o1, o2⟩
    · have e1 : (d.extract 0 l.length).toList = d.toList := by rw [← hd']; simp
      have e2 : (l.toArray.extract 0 l.length).toList = l := by simp
      rw [e1, e2] at hp
      exact hp
    · rw [List.pairwise_iff_getElem]
      intro i j hi hj hij
      have hi' : i < d.size := by simpa using hi
      have hj' : j < d.size := by simpa using hj
      have := hs i j (Nat.zero_le _) hij (by omega)
      rw [ltFrom, getElem!_pos d i hi', getElem!_pos d j hj'] at this
      simpa using this
end Go.Proofs.YtghjffgaebnhiaaDoor
