/- cutter.Cut answers the segments of a block, or the error; no condition but that the block is below 2^47 bytes. -/
import Derived.Test.YtgnbnkoanoalhaaParts
namespace Go.Proofs.Ytgnbnkoanoalhaa
set_option linter.unusedVariables false
set_option linter.unusedSimpArgs false
open Go.RowKit

def cutErr (n : Nat) (mtu : Int) : Int := if mtu < 1 ∨ 1024 < mtu ∨ n = 0 then 1 else if 1024 < n then 81 else if 64 < ((n : Int) + mtu - 1) / mtu then 2 else 0
/-- the i-th piece of m elements. -/
def piece {α : Type} (m : Nat) (l : List α) (i : Nat) : List α := (l.drop (i * m)).take m
def pieces {α : Type} (m : Nat) (l : List α) (k : Nat) : List (List α) := (List.range k).map (piece m l)

theorem cutErr_1 {n : Nat} {mtu : Int} (h : mtu < 1 ∨ 1024 < mtu ∨ n = 0) : cutErr n mtu = 1 := if_pos h
theorem cutErr_81 {n : Nat} {mtu : Int} (h : ¬ (mtu < 1 ∨ 1024 < mtu ∨ n = 0)) (h2 : 1024 < n) : cutErr n mtu = 81 := by rw [cutErr, if_neg h, if_pos h2]
theorem cutErr_2 {n : Nat} {mtu : Int} (h : ¬ (mtu < 1 ∨ 1024 < mtu ∨ n = 0)) (h2 : ¬ 1024 < n) (h3 : 64 < ((n : Int) + mtu - 1) / mtu) : cutErr n mtu = 2 := by rw [cutErr, if_neg h, if_neg h2, if_pos h3]
theorem cutErr_0 {n : Nat} {mtu : Int} (h : ¬ (mtu < 1 ∨ 1024 < mtu ∨ n = 0)) (h2 : ¬ 1024 < n) (h3 : ¬ 64 < ((n : Int) + mtu - 1) / mtu) : cutErr n mtu = 0 := by rw [cutErr, if_neg h, if_neg h2, if_neg h3]

set_option maxHeartbeats 400000 in
set_option maxRecDepth 100000 in
theorem cut_no (v : Value) (l : List UInt8) (mtu : Int) (w : World) (hr : Bs w v l) (he : cutErr l.length mtu ≠ 0) (hl : l.length ≤ 140737488355328) :
    Calls Try.prog 14 #[v, .int .i64 mtu] w fun e w' => e = .returned (.tuple #[.slice none 0 0, .int .i64 (cutErr l.length mtu)]) ∧ w = w' := by
  obtain ⟨ao, cap, rfl, hn, hm, hc⟩ := id hr
  have HE := Lib.hid he; clear he
  by_cases h1 : mtu < 1
  · go_enter Try.func14, Try.ntmps14
    go_wp2
    go_ret2
    exact ⟨by rw [cutErr_1 (by omega)]; rfl, rfl⟩
  by_cases h2 : 1024 < mtu
  · go_enter Try.func14, Try.ntmps14
    go_wp2
    go_ret2
    exact ⟨by rw [cutErr_1 (by omega)]; rfl, rfl⟩
  by_cases h3 : l.length < 1
  · go_enter Try.func14, Try.ntmps14
    go_wp2
    go_ret2
    exact ⟨by rw [cutErr_1 (by omega)]; rfl, rfl⟩
  by_cases h4 : 1024 < l.length
  · go_enter Try.func14, Try.ntmps14
    go_wp2
    go_ret2
    exact ⟨by rw [cutErr_81 (by omega) h4]; rfl, rfl⟩
  by_cases h5 : 64 < ((l.length : Int) + mtu - 1) / mtu
  · go_enter Try.func14, Try.ntmps14
    go_wp2
    go_ret2
    exact ⟨by rw [cutErr_2 (by omega) h4 h5]; rfl, rfl⟩
  · exact absurd (cutErr_0 (by omega) h4 h5) HE.out

theorem pieces_succ {α : Type} (m : Nat) (l : List α) (k : Nat) : pieces m l (k + 1) = pieces m l k ++ [piece m l k] := by
  simp [pieces, List.range_succ]
theorem piece_map {α β : Type} (f : α → β) (m : Nat) (l : List α) (k : Nat) : (piece m l k).map f = ((l.map f).drop (k * m)).take m := by
  simp [piece, List.map_drop, List.map_take]

set_option maxHeartbeats 400000 in
set_option maxRecDepth 100000 in
theorem cut_yes (v : Value) (l : List UInt8) (m : Nat) (w : World) (hr : Bs w v l) (h1 : 1 ≤ m) (h2 : m ≤ 1024) (h3 : 1 ≤ l.length) (h4 : l.length ≤ 1024) (h5 : (l.length + m - 1) / m ≤ 64) :
    Calls Try.prog 14 #[v, .int .i64 m] w fun e w' => ∃ v', e = .returned (.tuple #[v', .int .i64 0]) ∧ Parts w' w.heap.size v' (pieces m l ((l.length + m - 1) / m)) ∧ Below w.heap.size w w' := by
  obtain ⟨b, off, cap, rfl, hn, hm, hb, hc⟩ := hr.form (by intro h; simp at h; subst h; simp at h3)
  have h6 : ((l.length : Int) + m - 1) / m ≤ 64 := by have : (((l.length + m - 1) / m : Nat) : Int) ≤ 64 := by exact_mod_cast h5
                                                      rw [Int.natCast_ediv] at this; simpa [Int.ofNat_sub (show 1 ≤ l.length + m by omega)] using this
  have H5 := Lib.hid h5; clear h5
  have hne : ((l.length : Int) == 0) = false := by rw [beq_eq_false_iff_ne]; omega
  go_enter Try.func14, Try.ntmps14
  go_wp2
  go_loopw [6, 7] (fun o i wr => ∃ k s : Nat, Hid (s = k * m) ∧ s < l.length + m ∧ i = .int .i64 s ∧ Parts wr w.heap.size o (pieces m l k) ∧ Below w.heap.size w wr)
    (fun _ i _ => 3000 - (intOf i).toNat)
  case atStart => exact ⟨0, 0, by simp [Hid], by omega, rfl, ⟨[], World.ownsRow_nil _ _ _ _, by simp, by simp⟩, Below.refl _ _⟩
  case round =>
    obtain ⟨k, s, hs, hsn, rfl, ⟨vs, h0, hin, hne'⟩, hB⟩ := hrel
    have hz := hB.size
    by_cases hlt : s < l.length
    · have hcut : ∀ e, e = min (s + m) l.length → (piece m l k).length = e - s ∧ Rd wr (.slice (some ⟨b, off + s, none⟩) (e - s) (e - s)) (e - s) ((piece m l k).map ub) := by
        intro e he
        refine ⟨by simp [piece, ← hs.out]; omega, ?_⟩
        have hR := Rd.cut (w := wr) (cs := l.map ub) (b := b) (off := off) (fun j u hu => below_cell hB (hc j u hu) hb) s (e - s) (e - s) (Nat.le_refl _) (by simp only [maxLen]; omega)
        rw [piece_map, ← hs.out]
        rwa [List.take_eq_take_min (i := m), List.length_drop, List.length_map, show min m (l.length - s) = e - s from by omega]
      have hfin : ∀ {w1 w2 : World} {v1 v2 : Value}, w1.ownsRow wr.heap.size 5 1 v1 (piece m l k).length ((piece m l k).map ub) → Below wr.heap.size wr w1 →
          w2.ownsRow w.heap.size 22 1 v2 ((pieces m l k).length + 1) (vs ++ [v1]) → w1.grownBy w2 u6.ownBlock → Parts w2 w.heap.size v2 (pieces m l (k + 1)) ∧ Below w.heap.size w w2 := fun a b c d =>
        ⟨by rw [pieces_succ]; exact parts_snoc hz h0 hin hne' a b c d, (hB.trans (b.mono hz)).grown d (Nat.le_trans hz b.size) (fun k hk => (h0.lt k hk).1)⟩
      have hk : (pieces m l k).length ≤ 2000 := by
        have : k * 1 ≤ k * m := Nat.mul_le_mul_left k h1
        have := hs.out
        simp [pieces]; omega
      by_cases hlast : s + m ≤ l.length
      · obtain ⟨hl1, hR⟩ := hcut (s + m) (by omega)
        have HL1 := Lib.hid hl1; clear hl1 hcut
        go_wp2_with (first
          | (at_builtin; refine wpList_app El.u8 rfl _ (.tmp 54) rfl (World.ownsRow_nil _ wr.heap.size _ _) rfl hR rfl (by simp [HL1.out]) (ub_one _) (by omega) (Nat.le_refl _) ?_; intro v1 w1 hown1 hgr1 _; obtain ⟨g1, c1, rfl, _, _⟩ := hown1.form (by omega))
          | (at_builtin; refine wpList_app1 El.bytes rfl _ (.tmp 56) rfl (own_grow0 h0 hgr1) rfl rfl rfl (by intro x hx; simp at hx; subst hx; rfl) (by omega) (Nat.le_trans hz hgr1.size) ?_; intro v2 w2 hown2 hgr2 _))
        obtain ⟨hp, hB2⟩ := hfin (by simpa [HL1.out] using hown1) ((Below.refl _ _).grown (row := none) hgr1 (Nat.le_refl _) (fun _ h => by cases h)) (by simpa using hown2) hgr2
        clear hown1 hgr1 hown2 hgr2 hfin hin hne' h0 hB
        go_wp2
        go_roundw
        case rel => exact ⟨k + 1, s + m, by simp only [Hid, hs.out, Nat.add_mul, Nat.one_mul], by omega, by go_num, hp, hB2⟩
        case measure => simp [intOf]; omega
      · obtain ⟨hl1, hR⟩ := hcut l.length (by omega)
        have HL1 := Lib.hid hl1; clear hl1 hcut
        go_wp2_with (first
          | (at_builtin; refine wpList_app El.u8 rfl _ (.tmp 54) rfl (World.ownsRow_nil _ wr.heap.size _ _) rfl hR rfl (by simp [HL1.out]) (ub_one _) (by omega) (Nat.le_refl _) ?_; intro v1 w1 hown1 hgr1 _; obtain ⟨g1, c1, rfl, _, _⟩ := hown1.form (by omega))
          | (at_builtin; refine wpList_app1 El.bytes rfl _ (.tmp 56) rfl (own_grow0 h0 hgr1) rfl rfl rfl (by intro x hx; simp at hx; subst hx; rfl) (by omega) (Nat.le_trans hz hgr1.size) ?_; intro v2 w2 hown2 hgr2 _))
        obtain ⟨hp, hB2⟩ := hfin (by simpa [HL1.out] using hown1) ((Below.refl _ _).grown (row := none) hgr1 (Nat.le_refl _) (fun _ h => by cases h)) (by simpa using hown2) hgr2
        clear hown1 hgr1 hown2 hgr2 hfin hin hne' h0 hB
        go_wp2
        go_roundw
        case rel => exact ⟨k + 1, s + m, by simp only [Hid, hs.out, Nat.add_mul, Nat.one_mul], by omega, by go_num, hp, hB2⟩
        case measure => simp [intOf]; omega
    · go_wp2
      have hkm : k = (l.length + m - 1) / m := by
        have h := hs.out
        exact (Nat.div_eq_of_lt_le (by omega) (by rw [Nat.add_mul]; omega)).symm
      subst hkm
      go_ret2
      exact ⟨_, rfl, ⟨vs, h0, hin, hne'⟩, hB⟩

/-- the segments of a block, or none. -/
def cutOf {α : Type} (l : List α) (mtu : Int) : List (List α) := if cutErr l.length mtu = 0 then pieces mtu.toNat l ((l.length + mtu.toNat - 1) / mtu.toNat) else []
theorem cutErr_zero {n : Nat} {mtu : Int} (h : cutErr n mtu = 0) : 1 ≤ mtu ∧ mtu ≤ 1024 ∧ 1 ≤ n ∧ n ≤ 1024 ∧ ((n : Int) + mtu - 1) / mtu ≤ 64 := by
  by_cases h1 : mtu < 1 ∨ 1024 < mtu ∨ n = 0
  · rw [cutErr_1 h1] at h; omega
  by_cases h2 : 1024 < n
  · rw [cutErr_81 h1 h2] at h; omega
  by_cases h3 : 64 < ((n : Int) + mtu - 1) / mtu
  · rw [cutErr_2 h1 h2 h3] at h; omega
  · omega
theorem cutErr_zero_nat {n m : Nat} (h : cutErr n (m : Int) = 0) : 1 ≤ m ∧ m ≤ 1024 ∧ 1 ≤ n ∧ n ≤ 1024 ∧ (n + m - 1) / m ≤ 64 ∧ n ≤ m * 64 := by
  obtain ⟨a, b, c, d, e⟩ := cutErr_zero h
  have e' : (((n + m - 1) / m : Nat) : Int) ≤ 64 := by rw [Int.natCast_ediv]; simpa [Int.ofNat_sub (show 1 ≤ n + m by omega)] using e
  have e2 : (n + m - 1) / m ≤ 64 := by omega
  refine ⟨by omega, by omega, c, d, e2, ?_⟩
  have h1 := Nat.lt_div_mul_add (a := n + m - 1) (b := m) (by omega)
  have h2 : (n + m - 1) / m * m ≤ 64 * m := Nat.mul_le_mul_right m e2
  rw [Nat.mul_comm m 64]
  omega
theorem cutOf_length {α : Type} (l : List α) (mtu : Int) : (cutOf l mtu).length ≤ 64 := by
  by_cases he : cutErr l.length mtu = 0
  · obtain ⟨m, rfl⟩ := Int.eq_ofNat_of_zero_le (show 0 ≤ mtu by have := cutErr_zero he; omega)
    obtain ⟨_, _, _, _, h, _⟩ := cutErr_zero_nat he
    simpa [cutOf, he, pieces] using h
  · simp [cutOf, he]
theorem cut_any (v : Value) (l : List UInt8) (mtu : Int) (w : World) (hr : Bs w v l) (hl : l.length ≤ 140737488355328) :
    Calls Try.prog 14 #[v, .int .i64 mtu] w fun e w' => ∃ v', e = .returned (.tuple #[v', .int .i64 (cutErr l.length mtu)]) ∧ Parts w' w.heap.size v' (cutOf l mtu) ∧ Below w.heap.size w w' := by
  by_cases he : cutErr l.length mtu = 0
  · obtain ⟨m, rfl⟩ := Int.eq_ofNat_of_zero_le (show 0 ≤ mtu by have := cutErr_zero he; omega)
    obtain ⟨a, b, c, d, e, _⟩ := cutErr_zero_nat he
    refine (cut_yes v l m w hr a b c d e).mono ?_
    rintro e w' ⟨v', rfl, hp, hb⟩
    exact ⟨v', by rw [he], by simpa [cutOf, he] using hp, hb⟩
  · refine (cut_no v l mtu w hr he hl).mono ?_
    rintro e w' ⟨rfl, rfl⟩
    exact ⟨_, rfl, by simpa [cutOf, he] using parts_nil _ _, Below.refl _ _⟩
end Go.Proofs.Ytgnbnkoanoalhaa
