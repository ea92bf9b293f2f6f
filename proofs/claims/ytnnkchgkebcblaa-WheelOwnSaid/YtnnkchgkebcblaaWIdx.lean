/- slices.IndexFunc at timers, by their numbers. -/
import Derived.Test.YtnnkchgkebcblaaWSt
namespace Go.Proofs.Ytnnkchgkebcblaa
set_option linter.unusedVariables false
set_option linter.unusedSimpArgs false
open Go.RowKit
set_option maxHeartbeats 1000000 in
set_option maxRecDepth 100000 in
theorem same_any (g : Nat) (t : Tm) (i : Int) (w : World) (hc : w.cell? ⟨g, 0, none⟩ = some (.int .i64 i)) :
    Calls Try.prog 45 #[.agg #[.int .i64 t.id, .int .u64 (t.at_ : Int), .int .u64 (t.ord : Int)], .pointer (some ⟨g, 0, none⟩)] w fun e w' => e = .returned (.bool (t.id == i)) ∧ Below w.heap.size w w' := by
  have hg := World.block_lt_of_cell? _ _ hc
  obtain ⟨id, x, ord, nev⟩ := t
  simp only
  go_enter Try.func45, Try.ntmps45
  go_wp2_with fail
  go_ret
  exact ⟨rfl, (Below.refl _ _).alloc (Nat.le_refl _) _⟩
theorem tcells {w : World} {g n cap : Nat} {L : List Tm} (h : w.ownsRow 0 82 3 (.slice (some ⟨g, 0, none⟩) n cap) n (tvs L)) {i : Nat} {t : Tm} (hi : L[i]? = some t) :
    w.cell? ⟨g, i * 3, none⟩ = some (.int .i64 t.id) ∧ w.cell? ⟨g, i * 3 + 1, none⟩ = some (.int .u64 (t.at_ : Int)) ∧ w.cell? ⟨g, i * 3 + 2, none⟩ = some (.int .u64 (t.ord : Int)) := by
  have key : ∀ j u, (tvs L)[j]? = some u → w.cell? ⟨g, j, none⟩ = some u := fun j u hu => by
    have := h.cells (g := g) rfl j u hu
    rwa [Addr.add_lit, Nat.zero_add] at this
  refine ⟨key _ _ ?_, key _ _ ?_, key _ _ ?_⟩
  · have := tvs_at L i t hi 0 (by omega)
    simpa [tv] using this
  · have := tvs_at L i t hi 1 (by omega)
    simpa [tv] using this
  · have := tvs_at L i t hi 2 (by omega)
    simpa [tv] using this
def IdxP (L : List Tm) (i : Int) (w : World) (e : Ending) (w' : World) : Prop :=
  ((e = .returned (.int .i64 (-1)) ∧ ∀ t ∈ L, t.id ≠ i) ∨ ∃ (k : Nat) (t : Tm), L[k]? = some t ∧ t.id = i ∧ (∀ j u, j < k → L[j]? = some u → u.id ≠ i) ∧ e = .returned (.int .i64 (k : Int))) ∧ Below w.heap.size w w'
set_option maxHeartbeats 2000000 in
set_option maxRecDepth 100000 in
theorem idx_any (v : Value) (L : List Tm) (i : Int) (g : Nat) (w : World) (h : w.ownsRow 0 82 3 v L.length (tvs L)) (hc : w.cell? ⟨g, 0, none⟩ = some (.int .i64 i)) (hl : L.length < 4611686018427) :
    Calls Try.prog 49 #[v, .func (Fn.func 45) #[] #[.pointer (some ⟨g, 0, none⟩)]] w (IdxP L i w) := by
  have hgl := World.block_lt_of_cell? _ _ hc
  obtain ⟨ao, cap, rfl, hcc⟩ : ∃ ao cap, v = .slice ao L.length cap ∧ (∀ k, k < L.length → ∃ b, ao = some ⟨b, 0, none⟩ ∧ w.ownsRow 0 82 3 (.slice (some ⟨b, 0, none⟩) L.length cap) L.length (tvs L)) := by
    rcases h.2 with ⟨rfl, h0⟩ | ⟨b, cap, cur, rfl, _⟩
    · exact ⟨none, 0, by rw [h0], fun k hk => by omega⟩
    · exact ⟨_, cap, rfl, fun k hk => ⟨b, rfl, h⟩⟩
  clear h
  go_enter Try.func49, Try.ntmps49
  go_wp2
  go_loopw [8] (fun x wr => ∃ (k : Nat), k ≤ L.length ∧ x = .int .i64 k ∧ Hid (∀ j u, j < k → L[j]? = some u → u.id ≠ i) ∧ Below w.heap.size w wr) (fun x _ => L.length - (intOf x).toNat)
  case atStart => exact ⟨0, Nat.zero_le _, rfl, Lib.hid fun j u hj => absurd hj (Nat.not_lt_zero _), Below.refl _ _⟩
  case round =>
    obtain ⟨k, hk, rfl, hN, hB⟩ := hrel
    by_cases hlt : k < L.length
    · obtain ⟨b, rfl, ho⟩ := hcc k hlt
      obtain ⟨t, ht⟩ : ∃ t, L[k]? = some t := ⟨_, List.getElem?_eq_getElem hlt⟩
      obtain ⟨c0, c1, c2⟩ := tcells ho ht
      have c0 := below_cell hB c0 (World.block_lt_of_cell? _ _ c0)
      have c1 := below_cell hB c1 (World.block_lt_of_cell? _ _ c1)
      have c2 := below_cell hB c2 (World.block_lt_of_cell? _ _ c2)
      have cg := below_cell hB hc hgl
      have HA := Lib.hid ht
      have hix : (k : Int) < L.length := by omega
      have hcon := same_any g t i wr cg
      obtain ⟨id, x, ord, nev⟩ := t
      simp only at c0 c1 c2 hcon
      clear hcc ho ht
      by_cases hin : id = i
      · subst hin
        have hb : (id == id) = true := by simp
        rw [hb] at hcon
        clear hb
        go_wp2_with fail
        refine hcon.mono ?_
        rintro e w5 ⟨rfl, hB5⟩
        go_wp2_with fail
        go_ret
        exact ⟨.inr ⟨k, _, HA.out, rfl, hN.out, rfl⟩, hB.trans (hB5.mono hB.size)⟩
      · have hb : (id == i) = false := by simpa using hin
        rw [hb] at hcon
        go_wp2_with fail
        refine hcon.mono ?_
        rintro e w5 ⟨rfl, hB5⟩
        have hB6 := hB.trans (hB5.mono hB.size)
        go_wp2_with fail
        go_roundw
        case rel => exact ⟨k + 1, by omega, by go_num, Lib.hid fun j u hj hu => by
          rcases Nat.lt_or_ge j k with h | h
          · exact hN.out j u h hu
          · obtain rfl : j = k := by omega
            rw [HA.out] at hu
            injection hu with hu
            subst hu
            exact hin, hB6⟩
        case measure => simp [intOf]; omega
    · obtain rfl : k = L.length := by omega
      go_wp2_with fail
      go_ret
      exact ⟨.inl ⟨rfl, fun t ht => by
        obtain ⟨j, hj⟩ := List.getElem?_of_mem ht
        exact hN.out j t ((List.getElem?_eq_some_iff.1 hj).1) hj⟩, hB⟩
end Go.Proofs.Ytnnkchgkebcblaa
