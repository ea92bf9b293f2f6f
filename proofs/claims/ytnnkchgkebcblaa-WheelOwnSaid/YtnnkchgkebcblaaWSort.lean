/- slices.SortFunc at timers, by their orders: the row is a sorted permutation of what it was. -/
import Derived.Test.YtnnkchgkebcblaaWSortOwn
import Derived.Test.YtnnkchgkebcblaaShelf
namespace Go.Proofs.Ytnnkchgkebcblaa
set_option linter.unusedVariables false
set_option linter.unusedSimpArgs false
open Go.RowKit Go.Sort Go.Proofs
def cmpT (x y : Tb) : Int := (x.1.ord : Int) - (y.1.ord : Int)
theorem ltT (x y : Tb) : ltOf cmpT x y = decide (x.1.ord < y.1.ord) := by
  unfold ltOf cmpT
  by_cases h : x.1.ord < y.1.ord
  · simp [h]; omega
  · simp [h]; omega
theorem swoT : SWO (ltOf cmpT) where
  irrefl x := by rw [ltT]; simp
  trans x y z h1 h2 := by rw [ltT] at *; simp at *; omega
  ntrans x y z h1 h2 := by rw [ltT] at *; simp at *; omega
theorem lift_vals : ∀ (L : List Tm), (∀ t ∈ L, t.ord < 4611686018427387904) → ∃ l : List Tb, vals l = L
  | [], _ => ⟨[], rfl⟩
  | t :: L, h => by
    obtain ⟨l, hl⟩ := lift_vals L fun u hu => h u (List.mem_cons_of_mem _ hu)
    exact ⟨⟨t, h t (List.mem_cons_self ..)⟩ :: l, (congrArg (t :: ·) hl : _)⟩
theorem sort_any (base : Nat) (v : Value) (L : List Tm) (w : World) (hown : w.ownsRow base 82 3 v L.length (tvs L)) (hL : ∀ t ∈ L, t.ord < 4611686018427387904) (hl : L.length < 4611686018427387904) :
    Calls Try.prog 40 #[v, .func (.func 41) #[] #[]] w fun e w' => e = .returned (.tuple #[]) ∧ ∃ L', L'.Perm L ∧ L'.Pairwise (fun a b => a.ord ≤ b.ord) ∧
      w'.ownsRow base 82 3 v L'.length (tvs L') ∧ w.grownBy w' v.ownBlock := by
  obtain ⟨l, rfl⟩ := lift_vals L hL
  have hlen : (vals l).length = l.length := by simp [vals]
  rw [hlen] at hown hl
  rcases hown.2 with ⟨rfl, hn⟩ | ⟨g, cap, cur, rfl, hbase, hb, h1, h2, h3, h4⟩
  · have hl0 : l = [] := List.length_eq_zero_iff.1 hn
    subst hl0
    have hcon := AnyF.slices_SortFunc_none Try.sortRange none 0 (.func (.func 41) #[] #[]) w
    change Calls Try.prog 40 _ _ _ at hcon
    refine hcon.mono ?_
    rintro e w' ⟨rfl, rfl⟩
    exact ⟨rfl, [], List.Perm.refl _, List.Pairwise.nil, hown, World.grownBy.refl _ _⟩
  · have eg : ∀ args w, (callFunc 41 args).run Try.prog w = .ok (.enter 41 args) w := enters_of Try.func41 (by kernel_rfl) rfl
    have hcon := AnyQ.slices_SortFunc Try.sortRange 3 Try.isAgg82 Try.sizeOf82 tb (fun _ => rfl) (fun x v hv => by simp [tb, tv] at hv; rcases hv with rfl | rfl | rfl <;> rfl) cmpT swoT 41 #[] g 0 cap l.toArray w eg
      (fun _ _ _ _ x y => less_any x.1 y.1 x.2 y.2 _) (holds_tv hb h4) (Array.getElem?_eq_some_iff.1 hb).1 (by simpa using hl)
    change Calls Try.prog 40 _ _ _ at hcon
    simp only [List.size_toArray] at hcon
    refine hcon.mono ?_
    rintro e w' ⟨rfl, d, n, os, ⟨hd, _, hp⟩, hs, rfl⟩
    have hd' : d.size = l.length := by simpa using hd
    obtain ⟨o1, o2⟩ := sorted_tv (n := n) (os := os) d hd' hbase hb h1 h2 h3
    have hlen2 : (vals d.toList).length = d.size := by simp [vals]
    refine ⟨rfl, vals d.toList, ?_, ?_, by rw [hlen2, hd']; exact o1, o2⟩
    · have e1 : (d.extract 0 l.length).toList = d.toList := by rw [← hd']; simp
      have e2 : (l.toArray.extract 0 l.length).toList = l := by simp
      rw [e1, e2] at hp
      exact hp.map _
    · unfold vals
      rw [List.pairwise_map, List.pairwise_iff_getElem]
      intro i j hi hj hij
      have hi' : i < d.size := by simpa using hi
      have hj' : j < d.size := by simpa using hj
      have := hs i j (Nat.zero_le _) hij (by omega)
      rw [ltT, getElem!_pos d i hi', getElem!_pos d j hj'] at this
      simpa using this
end Go.Proofs.Ytnnkchgkebcblaa
