/- A box that holds pieces: Whole; and small(), which cuts 1 2 3 4 5 by 2 and puts it together again: true. -/
import Derived.Test.YtgnbnkoanoalhaaPutAll
import Derived.Test.YtgnbnkoanoalhaaSame
namespace Go.Proofs.Ytgnbnkoanoalhaa
set_option linter.unusedVariables false
set_option linter.unusedSimpArgs false
open Go.RowKit

theorem least_false (H : Nat → Bool) : ∀ n, (∃ i, i < n ∧ H i = false) → ∃ j, j < n ∧ H j = false ∧ ∀ i, i < j → H i = true := by
  intro n
  induction n with
  | zero => rintro ⟨i, h, _⟩; omega
  | succ n ih =>
    rintro ⟨i, h, hi⟩
    by_cases hh : ∃ i, i < n ∧ H i = false
    · obtain ⟨j, hj, a, b⟩ := ih hh
      exact ⟨j, by omega, a, b⟩
    · have : i = n := by
        rcases Nat.lt_or_ge i n with h' | h'
        · exact absurd ⟨i, h', hi⟩ hh
        · omega
      subst this
      refine ⟨i, by omega, hi, fun j hj => ?_⟩
      cases hH : H j with
      | true => rfl
      | false => exact absurd ⟨j, hj, hH⟩ hh
theorem wholeH_yes (g k m : Nat) (l : List UInt8) (H : Nat → Bool) (w : World) (hb : (BoxS.ofH k m l H).at w g) (h : Cuts l.length m k) (hH : ∀ i, i < k → H i = true) :
    Calls Try.prog 22 #[.pointer (some ⟨g, 0, none⟩)] w fun e w' => ∃ v, e = .returned (.tuple #[v, .bool true]) ∧ w'.ownsRow w.heap.size 5 1 v l.length (l.map ub) ∧ Below w.heap.size w w' := by
  have := whole_yes g k (lenH k m H) (psH m l k H) w hb (fineH h) (fun i hi => by
    rw [psH_at h.k1 hi, if_pos (hH i hi)]
    intro e
    have := (piece_pos h hi).1
    rw [e] at this
    simp at this)
  rwa [psH_all h hH] at this
theorem wholeH_no (g k m : Nat) (l : List UInt8) (H : Nat → Bool) (w : World) (hb : (BoxS.ofH k m l H).at w g) (h : Cuts l.length m k) (hH : ∃ i, i < k ∧ H i = false) :
    Calls Try.prog 22 #[.pointer (some ⟨g, 0, none⟩)] w fun e w' => e = .returned (.tuple #[.slice none 0 0, .bool false]) ∧ Below w.heap.size w w' := by
  obtain ⟨j, hj, hj1, hj2⟩ := least_false H k hH
  refine whole_no g k (lenH k m H) j (psH m l k H) w hb (fineH h) hj (by rw [psH_at h.k1 hj, hj1]; rfl) (fun i hi => ?_)
  rw [psH_at h.k1 (by omega), if_pos (hj2 i hi)]
  intro e
  have := (piece_pos h (show i < k by omega)).1
  rw [e] at this
  simp at this
theorem at_same {S : Nat → Prop} {b : BoxS} {w w' : World} {g : Nat} (h : b.at w g) (hb : Same S w w') (hg : ¬ S g) : b.at w' g := BoxAt.same h hb hg
theorem at_later {b : BoxS} {w w' : World} {g : Nat} (h : b.at w g) (hb : Below w.heap.size w w') : b.at w' g := BoxAt.later h hb
theorem at_lt {b : BoxS} {w : World} {g : Nat} (h : b.at w g) : g < w.heap.size := BoxAt.blk h |>.lt
/-- lists of bytes do not lie in a box. -/
theorem parts_box {b : BoxS} {w w' : World} {g base : Nat} {v : Value} {ls : List (List UInt8)} (h : Parts w base v ls) (hb : b.at w g) (hS : Same (at1 g) w w') : Parts w' base v ls := by
  obtain ⟨vs, h1, h2, h3⟩ := h
  have hk := BoxAt.blk hb
  refine ⟨vs, own_same h1 hS (fun b e he => ?_), fun i x l hx hl => own_same (h2 i x l hx hl) hS (fun b e he => ?_), h3⟩
  · exact own_blk_ne h1 hk (by decide) (by rw [e, he])
  · exact own_blk_ne (h2 i x l hx hl) hk (by decide) (by rw [e, he])

def five : List UInt8 := [1, 2, 3, 4, 5]
theorem five_cuts : Cuts five.length 2 3 := ⟨by decide, by decide, by decide, by decide, by decide, by decide, by decide⟩
def fromH (k : Nat) : Nat → Bool := fun j => decide (3 ≤ j + k)
theorem fromH_succ (k : Nat) (h : k < 3) : addH (fromH k) (2 - k) = fromH (k + 1) := by
  funext j
  rw [Bool.eq_iff_iff]
  simp only [addH, fromH, Bool.or_eq_true, decide_eq_true_eq, beq_iff_eq]
  omega

set_option maxHeartbeats 1000000 in
set_option maxRecDepth 100000 in
theorem small_any (w : World) :
    Calls Try.prog 19 #[] w fun e w' => e = .returned (.bool true) ∧ Below w.heap.size w w' := by
  go_enter Try.func19, Try.ntmps19
  go_wp2_with fail
  have hB0 : Below w.heap.size w (w.alloc (.cells (five.map ub).toArray 5)) := (Below.refl _ _).alloc (Nat.le_refl _) _
  refine (cut_any _ five 2 _ (Rd.new w 5 (five.map ub) 5 (by simp [maxLen])) (by decide)).mono ?_
  rintro e w1 ⟨v1, rfl, hp1, hB1⟩
  have he : cutErr five.length 2 = 0 := by decide
  have hcl : cutOf five 2 = pieces 2 five 3 := by simp only [cutOf, he]; rfl
  rw [he]
  rw [hcl] at hp1
  clear he hcl
  obtain ⟨vs, h0, hin, hne⟩ := hp1
  obtain ⟨gp, cp, rfl, _, _⟩ := h0.form (by decide)
  have hvl : vs.length = 3 := h0.1.trans (by decide)
  have hlen : (pieces 2 five 3).length = 3 := by decide
  rw [hlen] at h0 ⊢
  have HVL := Lib.hid hvl; clear hvl hlen
  go_wp2_with fail
  refine (new_yes 3 _ (by omega) (by omega)).mono ?_
  rintro e w2 ⟨rfl, hb2, hB2⟩
  go_wp2_with fail
  refine (num_any _ _).mono ?_
  rintro e _ ⟨rfl, rfl⟩
  go_wp2_with fail
  refine (num_any _ _).mono ?_
  rintro e _ ⟨rfl, rfl⟩
  have hb2' : (BoxS.ofH 3 2 five (fromH 0)).at w2 w1.heap.size := by
    have : BoxS.ofH 3 2 five (fromH 0) = BoxS.ofH 3 2 five (fun _ => false) := by
      unfold BoxS.ofH
      rw [show lenH 3 2 (fromH 0) = lenH 3 2 (fun _ => false) from by decide, show psH 2 five 3 (fromH 0) = psH 2 five 3 (fun _ => false) from by decide +kernel]
    rw [this, ofH_none]; exact hb2
  have hg2 := at_lt hb2'
  clear hb2
  go_wp2
  go_loopw [5] (fun i wr => ∃ k : Nat, k ≤ 3 ∧ i = .int .i64 (2 - (k : Int)) ∧ (BoxS.ofH 3 2 five (fromH k)).at wr w1.heap.size ∧ Same (at1 w1.heap.size) w2 wr) (fun i _ => (intOf i + 1).toNat)
  case atStart => exact ⟨0, by omega, rfl, hb2', Same.refl _ _⟩
  case round =>
    obtain ⟨k, hk, rfl, hb, hS⟩ := hrel
    by_cases hlt : k < 3
    · have hBr : Below w1.heap.size w1 wr := hB2.trans (hS.belowB fun i hi => ⟨Nat.lt_of_lt_of_le hi hB2.size, fun h => by simp only [at1] at h; omega⟩)
      have hvl := HVL.out
      obtain ⟨x, hx⟩ : ∃ x, vs[2 - k]? = some x := ⟨_, List.getElem?_eq_getElem (by omega)⟩
      have hxo := own_later (hin (2 - k) x (piece 2 five (2 - k)) hx (by rw [pieces, List.getElem?_map, List.getElem?_range (by omega)]; rfl)) hBr
      have hcx : wr.cell? ⟨gp, 2 - k, none⟩ = some x := ((own_later h0 hBr).cellAt (2 - k) (by omega)).trans hx
      have hpp := piece_pos five_cuts (i := 2 - k) (by omega)
      obtain ⟨gx, cx, rfl, _, _⟩ := hxo.form (by omega)
      have hix : (2 - (k : Int)) = ((2 - k : Nat) : Int) := by omega
      have hres := ofH_err (H := fromH k) five_cuts (i := 2 - k) (by omega)
      have hH0 : fromH k (2 - k) = false := by simp [fromH]; omega
      rw [hH0, if_neg (by decide)] at hres
      have hnext := ofH_put (H := fromH k) five_cuts (i := 2 - k) (by omega)
      rw [fromH_succ k hlt] at hnext
      have hk2 : k ≤ 2 := by omega
      have htn : (2 - (k : Int)).toNat = 2 - k := by omega
      have HIX := Lib.hid hix; have HRES := Lib.hid hres; have HN := Lib.hid hnext
      clear hvl hx hix hres hH0 hnext
      go_wp2_with fail
      refine (put_any _ (BoxS.ofH 3 2 five (fromH k)) (2 - (k : Int)) _ (piece 2 five (2 - k)) _ hb (Bs.of_own hxo) (ofH_fine five_cuts)).mono ?_
      rintro e w5 ⟨rfl, hb5, hS5⟩
      rw [HIX.out] at hb5 ⊢
      rw [HN.out] at hb5
      simp only [BoxS.ofH]
      rw [HRES.out]
      go_wp2_with fail
      refine (num_any _ _).mono ?_
      rintro e _ ⟨rfl, rfl⟩
      have hS6 := hS.trans hS5 (fun _ _ h => h)
      go_wp2_with fail
      go_roundw
      case rel => exact ⟨k + 1, by omega, by go_num, hb5, hS6⟩
      case measure => simp [intOf]; omega
    · obtain rfl : k = 3 := by omega
      go_wp2_with fail
      refine (wholeH_yes _ 3 2 five (fromH 3) _ hb five_cuts (by intro i hi; simp [fromH])).mono ?_
      rintro e w5 ⟨v5, rfl, hown, hB5⟩
      have k1 := run_str8 (Bs.of_own hown) (W := w5) rfl
      have e5 : ((str five).toList == [1, 2, 3, 4, 5]) = true := by rw [str_toList]; decide
      obtain ⟨g5, c5, rfl, _, _⟩ := hown.form (by decide)
      have hB2w := hB0.trans (hB1.mono hB0.size)
      have hlow := hB2w.size
      have hBz : Below w.heap.size w w5 := ((hB2w.trans (hB2.mono hlow)).trans (hS.belowB fun i hi => ⟨by have := hB2.size; omega, fun h => by simp only [at1] at h; omega⟩)).trans (hB5.mono (by have := hB2.size; have := hS.size; omega))
      clear hown hb hS
      go_wp2
      go_ret
      exact ⟨rfl, hBz⟩
end Go.Proofs.Ytgnbnkoanoalhaa
