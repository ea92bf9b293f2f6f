/- Next: the least time of the nearest row. -/
import Derived.Test.YtnnkchgkebcblaaWSet
namespace Go.Proofs.Ytnnkchgkebcblaa
set_option linter.unusedVariables false
set_option linter.unusedSimpArgs false
open Go.RowKit
def lst (a : Nat) (l : List Tm) : Nat := l.foldl (fun a t => min a t.at_) a
theorem lst_snoc (a : Nat) (l : List Tm) (t : Tm) : lst a (l ++ [t]) = min (lst a l) t.at_ := by simp [lst]
set_option maxHeartbeats 4000000 in
set_option maxRecDepth 100000 in
theorem next_any (g mb : Nat) (sl : List Value) (now sets : Nat) (R : Nat → List Tm) (m : Int → Option Pl) (N : Nat) (w : World) (h : WAt w g mb sl now sets R m N) (hnow : now < 64 ^ 8) (hR : ∀ k, (R k).length < 4611686018427) :
    Calls Try.prog 25 #[.pointer (some ⟨g, 0, none⟩)] w fun e w' => Below w.heap.size w w' ∧
      ((e = .returned (.tuple #[.int .u64 0, .bool false]) ∧ ∀ l, l < 8 → ∀ u, dg now l < u → u < 64 → R (l * 64 + u) = []) ∨
        ∃ L s t ts, Near now (fun k => R k ≠ []) L s ∧ R (L * 64 + s) = t :: ts ∧ e = .returned (.tuple #[.int .u64 ((lst t.at_ (t :: ts) : Nat) : Int), .bool true])) := by
  have c0 := h.c0
  have hcon := nearest_any g mb sl now sets R m N w h hnow
  have HW := Lib.hid h
  clear h
  go_enter Try.func25, Try.ntmps25
  go_wp2_with fail
  refine hcon.mono ?_
  clear hcon
  rintro e w1 ⟨hB1, ⟨rfl, hno⟩ | ⟨L, s, hN, rfl⟩⟩
  · have HNO := Lib.hid hno
    clear hno
    go_wp2_with fail
    go_ret2
    exact ⟨hB1, .inl ⟨rfl, HNO.out⟩⟩
  · obtain ⟨l, hl⟩ : ∃ l, l = R (L * 64 + s) := ⟨_, rfl⟩
    have hlt := hN.lt
    have hslt := hN.slt
    have hne : l ≠ [] := by rw [hl]; exact hN.here
    have HN := Lib.hid hN
    have HL := Lib.hid hl
    have hlen : l.length < 4611686018427 := by rw [hl]; exact hR _
    obtain ⟨v, hv, hc, hown⟩ := (HW.out.later hB1).at (k := L * 64 + s) (by omega)
    rw [← hl] at hown
    obtain ⟨t, ts, rfl⟩ := List.exists_cons_of_ne_nil hne
    obtain ⟨b, cap, rfl⟩ : ∃ b cap, v = .slice (some ⟨b, 0, none⟩) (t :: ts).length cap := by
      rcases hown.2 with ⟨rfl, h0⟩ | ⟨b, cap, cur, rfl, _⟩
      · simp at h0
      · exact ⟨_, _, rfl⟩
    obtain ⟨a0, a1, a2⟩ := tcells hown (i := 0) rfl
    obtain ⟨n, hn⟩ : ∃ n, n = (t :: ts).length := ⟨_, rfl⟩
    rw [← hn] at hc hown hlen
    have hn0 : 0 < n := by rw [hn]; simp
    have HO := Lib.hid hown
    have HNN := Lib.hid hn
    obtain ⟨q, hq⟩ : ∃ q : Nat, q = t.at_ := ⟨_, rfl⟩
    rw [← hq] at a1
    have HQ := Lib.hid hq
    have ix0 : (0 : Int) < (n : Int) := by omega
    clear hN hl hv hown hn hq hne hR
    go_wp2_with fail
    go_loopw [6, 35] (fun x k wr => ∃ j : Nat, j ≤ n ∧ k = .int .i64 (j : Int) ∧ x = .int .u64 ((lst q ((t :: ts).take j) : Nat) : Int) ∧ Below w1.heap.size w1 wr) (fun _ k _ => n - (intOf k).toNat)
    case atStart => exact ⟨0, Nat.zero_le _, rfl, rfl, Below.refl _ _⟩
    case round =>
      obtain ⟨j, hj, rfl, rfl, hBr⟩ := hrel
      by_cases hjn : j < n
      · obtain ⟨y, hy⟩ : ∃ y, (t :: ts)[j]? = some y := ⟨_, List.getElem?_eq_getElem (by rw [← HNN.out]; exact hjn)⟩
        obtain ⟨b0, b1, b2⟩ := tcells HO.out hy
        have b0 := below_cell hBr b0 (World.block_lt_of_cell? _ _ b0)
        have b1 := below_cell hBr b1 (World.block_lt_of_cell? _ _ b1)
        have b2 := below_cell hBr b2 (World.block_lt_of_cell? _ _ b2)
        have hsn : lst q ((t :: ts).take (j + 1)) = min (lst q ((t :: ts).take j)) y.at_ := by
          rw [List.take_add_one, hy]
          exact lst_snoc _ _ _
        have HSN := Lib.hid hsn
        obtain ⟨z, hz⟩ : ∃ z, z = lst q ((t :: ts).take j) := ⟨_, rfl⟩
        rw [← hz]
        have HZ := Lib.hid hz
        obtain ⟨yi, ya, yo, yn⟩ := y
        simp only at b0 b1 b2
        have ix1 : (j : Int) < (n : Int) := by omega
        clear hsn hz hy
        by_cases hle : z ≤ ya
        · have hb : ¬ ((ya : Int) < (z : Int)) := by omega
          go_wp2_with fail
          all_goals first
            | (exfalso; omega)
            | (go_roundw
               case rel => exact ⟨j + 1, by omega, by go_num, by rw [HSN.out, ← HZ.out, Nat.min_eq_left hle], hBr.alloc hBr.size _⟩
               case measure => simp [intOf]; omega)
        · have hb : ((ya : Int) < (z : Int)) := by omega
          go_wp2_with fail
          all_goals first
            | (exfalso; omega)
            | (go_roundw
               case rel => exact ⟨j + 1, by omega, by go_num, by rw [HSN.out, ← HZ.out, Nat.min_eq_right (Nat.le_of_lt (Nat.lt_of_not_le hle))], hBr.alloc hBr.size _⟩
               case measure => simp [intOf]; omega)
      · obtain rfl : j = n := by omega
        go_wp2_with fail
        go_ret2
        refine ⟨below_trans hB1 hBr, .inr ⟨L, s, t, ts, HN.out, HL.out.symm, ?_⟩⟩
        rw [HNN.out, List.take_length, HQ.out]
        rfl
end Go.Proofs.Ytnnkchgkebcblaa
