/- The reference Cut answers the same segments, or the same error. -/
import Derived.Test.YtgnbnkoanoalhaaCut
import Derived.Deep.RegionLaw
namespace Go.Proofs.Ytgnbnkoanoalhaa
set_option linter.unusedVariables false
set_option linter.unusedSimpArgs false
open Go.RowKit

/-- the pieces of the first q * m + r elements. -/
def front {α : Type} (m : Nat) (l : List α) (q r : Nat) : List (List α) := pieces m l q ++ (if r = 0 then [] else [(l.drop (q * m)).take r])
theorem front_zero {α : Type} (m : Nat) (l : List α) (q : Nat) : front m l q 0 = pieces m l q := by simp [front]
theorem front_pos {α : Type} (m : Nat) (l : List α) (q r : Nat) (h : r ≠ 0) : front m l q r = pieces m l q ++ [(l.drop (q * m)).take r] := by simp [front, h]
theorem take_snoc {α : Type} (l : List α) (r : Nat) (h : r < l.length) : l.take (r + 1) = l.take r ++ [l[r]] := by
  rw [List.take_succ_eq_append_getElem h]
theorem front_step {α : Type} (m : Nat) (l : List α) (q r : Nat) (hr : r < m) (h : q * m + r < l.length) :
    ∃ q' r', r' < m ∧ q' * m + r' = q * m + r + 1 ∧ front m l q' r' = pieces m l q ++ [(l.drop (q * m)).take r ++ [l[q * m + r]]] := by
  have ht : (l.drop (q * m)).take (r + 1) = (l.drop (q * m)).take r ++ [l[q * m + r]] := by
    rw [take_snoc _ _ (by simp; omega)]; simp
  by_cases h1 : r + 1 < m
  · exact ⟨q, r + 1, h1, by omega, by rw [front_pos _ _ _ _ (by omega), ht]⟩
  · refine ⟨q + 1, 0, by omega, by rw [Nat.add_mul]; omega, ?_⟩
    obtain rfl : m = r + 1 := by omega
    rw [front_zero, pieces_succ, piece, ht]
theorem front_end {α : Type} (m : Nat) (l : List α) (q r : Nat) (hm : 0 < m) (hr : r < m) (h : q * m + r = l.length) : front m l q r = pieces m l ((l.length + m - 1) / m) := by
  by_cases h0 : r = 0
  · subst h0
    rw [front_zero]
    congr 1
    exact (Nat.div_eq_of_lt_le (by omega) (by rw [Nat.add_mul]; omega)).symm
  · rw [front_pos _ _ _ _ h0]
    have hk : (l.length + m - 1) / m = q + 1 := Nat.div_eq_of_lt_le (by rw [Nat.add_mul]; omega) (by rw [Nat.add_mul, Nat.add_mul]; omega)
    rw [hk, pieces_succ, piece, List.take_of_length_le (i := m) (by simp; omega), List.take_of_length_le (i := r) (by simp; omega)]

set_option maxHeartbeats 400000 in
set_option maxRecDepth 100000 in
theorem refCut_yes (v : Value) (l : List UInt8) (m : Nat) (w : World) (hr : Bs w v l) (h1 : 1 ≤ m) (h2 : m ≤ 1024) (h3 : 1 ≤ l.length) (h4 : l.length ≤ 1024) (h5 : l.length ≤ m * 64) :
    Calls Try.prog 15 #[v, .int .i64 m] w fun e w' => ∃ v', e = .returned (.tuple #[v', .int .i64 0]) ∧ Parts w' w.heap.size v' (pieces m l ((l.length + m - 1) / m)) ∧ Below w.heap.size w w' := by
  obtain ⟨b, off, cap, rfl, hn, hm, hb, hc⟩ := hr.form (by intro h; simp at h; subst h; simp at h3)
  have hne : ((l.length : Int) == 0) = false := by rw [beq_eq_false_iff_ne]; omega
  go_enter Try.func15, Try.ntmps15
  go_wp2
  go_loopw [7, 8, 9] (fun o i k wr => ∃ q r s : Nat, Hid (s = q * m + r) ∧ r < m ∧ s ≤ l.length ∧ i = .int .i64 s ∧ Parts wr w.heap.size o (front m l q r) ∧ Below w.heap.size w wr)
    (fun _ i _ _ => 3000 - (intOf i).toNat)
  case atStart => exact ⟨0, 0, 0, by simp [Hid], h1, Nat.zero_le _, rfl, by simpa [front, pieces] using parts_nil _ _, Below.refl _ _⟩
  case round =>
    obtain ⟨q, r, s, hs, hrm, hsn, rfl, ⟨vs, h0, hin, hne'⟩, hB⟩ := hrel
    have hz := hB.size
    by_cases hlt : s < l.length
    · obtain ⟨q', r', hr', hs', hf⟩ := front_step m l q r hrm (by have := hs.out; omega)
      have hbs : l[q * m + r]'(by have := hs.out; omega) = l[s] := by congr 1; exact hs.out.symm
      rw [hbs] at hf
      have hcb : wr.cell? ⟨b, off + s, none⟩ = some (.int .u8 (l[s].toNat : Int)) := below_cell hB (hc s _ (by simp [ub, hlt])) hb
      have hqs : q ≤ s := by have := hs.out; have : q * 1 ≤ q * m := Nat.mul_le_mul_left q h1; omega
      have HF := Lib.hid hf; have HS' := Lib.hid hs'; clear hf hs' hbs
      by_cases hr0 : r = 0
      · have hmod : (((s : Int) % (m : Int)) == 0) = true := by rw [hs.out, hr0]; simp
        have hL : (front m l q r).length = q := by simp [front, pieces, hr0]
        have HR0 := Lib.hid hr0; clear hr0
        have hvs := h0
        rw [hL] at h0
        have HL := Lib.hid hL; clear hL
        go_wp2_with (at_builtin; refine wpList_app1 El.bytes rfl _ _ rfl h0 rfl rfl rfl (by intro x hx; simp at hx; subst hx; rfl) (by omega) hz ?_; intro v1 w1 hown1 hgr1 hN1; obtain ⟨g, c, rfl, _, _⟩ := hown1.form (by omega))
        have hcb1 : w1.cell? ⟨b, off + s, none⟩ = some (.int .u8 (l[s].toNat : Int)) := hgr1.cell hcb (fun e => by have := (h0.lt b e.symm).1; omega)
        have hP : Parts w1 w.heap.size (.slice (some ⟨g, 0, none⟩) (q + 1) c) (pieces m l q ++ [(l.drop (q * m)).take r]) := by
          have := parts_snoc (l := []) hz hvs hin hne' (World.ownsRow_nil _ _ _ _) (Below.refl _ _) (by rw [HL.out]; simpa using hown1) hgr1
          simpa [HR0.out, front_zero] using this
        have hB1 := hB.grown hgr1 hz (fun k hk => (h0.lt k hk).1)
        clear hin hne' h0 hgr1 hcb hvs hN1 hown1
        obtain ⟨vs1, h0, hin, hne'⟩ := hP
        have hls : (pieces m l q).length = q := by simp [pieces]
        rw [List.length_append, hls, List.length_singleton] at h0
        have hcl : ((l.drop (q * m)).take r).length = r := by have := hs.out; simp; omega
        have hvl : vs1.length = q + 1 := by simpa using h0.1
        obtain ⟨x, hx⟩ : ∃ x, vs1[q]? = some x := ⟨_, List.getElem?_eq_getElem (by omega)⟩
        have hxo := hin q x ((l.drop (q * m)).take r) hx (by rw [List.getElem?_append_right (by omega), hls]; simp)
        rw [hcl] at hxo
        have hcg : w1.cell? ⟨g, q, none⟩ = some x := (h0.cellAt q (by omega)).trans hx
        have hfg : w1.frozen? ⟨g, q, none⟩ = false := h0.frozenAt q
        have hxg : x.ownBlock ≠ some g := by
          rcases own_ne hxo h0 (by decide) with h | h
          · rw [h]; simp
          · exact h
        have hgl : g < w1.heap.size := World.block_lt_of_cell? _ _ hcg
        have hgb : w.heap.size ≤ g := (h0.lt g rfl).1
        have hix : (q : Int) < (q : Int) + 1 := by omega
        have hix2 : (s : Int) < (l.length : Int) := by omega
        obtain ⟨xp, xc, hxe⟩ : ∃ xp xc, x = Value.slice xp r xc := by
          rcases hxo.2 with ⟨h, h'⟩ | ⟨g', c', _, h, _⟩
          · exact ⟨none, 0, by rw [h, h']⟩
          · exact ⟨_, _, h⟩
        have HLS := Lib.hid hls; have HCL := Lib.hid hcl; have HX := Lib.hid hx; have HVL := Lib.hid hvl
        clear hls hcl hx hvl
        subst hxe
        go_region_law (go_loud (refine step_app El.u8 rfl (.tmp 48) (.tmp 53) rfl (by first | exact hxo.alloc _ | exact (hxo.alloc _).drew) rfl (by first | exact Rd.new _ _ [ub l[s]] 1 (by simp [maxLen]) | exact Rd.drew (Rd.new _ _ [ub l[s]] 1 (by simp [maxLen]))) rfl rfl (ub_one [l[s]]) (by omega) (by have := hB1.size; simp; omega) ?_); intro v2 w2 hown2 hgr2 hN2; obtain ⟨g2, c2, rfl, _, _⟩ := hown2.form (by omega); have hgr := grown_pre (w := w1) (by first | exact ((Below.refl _ _).alloc (Nat.le_refl _) _).drew | exact ((Below.refl _ _).drew).alloc (Nat.le_refl _) _) hgr2; have hNN := hN2.pre (w := w1) (by simp); have hcg2 := hgr.cell (a := ⟨g, q, none⟩) hcg (Ne.symm hxg); have hfg2 := (World.frozen?_of_block (a := ⟨g, q, none⟩) (hgr.block g hgl (Ne.symm hxg))).trans hfg; clear hgr2 hN2)
        all_goals
          have hP2 := parts_put HLS.out h0 hin hne' HX.out (by simpa [HCL.out] using hown2) hgr hNN
          have hB2 := ((hB1.grown hgr hB1.size (fun k hk => (hxo.lt k hk).1)).setCell (p := ⟨g, q, none⟩) hgb (Value.slice (some { block := g2, off := 0 }) (r + 1) c2))
          rw [← HF.out] at hP2
          clear hin hne' h0 hown2 hgr hNN hxo hB1 hB
          go_wp2
          go_roundw
          case rel => exact ⟨q', r', s + 1, by simp only [Hid, HS'.out, hs.out], hr', by omega, by go_num, hP2, hB2⟩
          case measure => simp [intOf]; omega
      · have hmod : (((s : Int) % (m : Int)) == 0) = false := by
          rw [hs.out, beq_eq_false_iff_ne]
          have : ((q * m + r : Nat) : Int) % (m : Int) = r := by
            rw [← Int.natCast_emod, Nat.mul_comm, Nat.mul_add_mod, Nat.mod_eq_of_lt hrm]
          rw [this]; omega
        have hL : (front m l q r).length = q + 1 := by simp [front, pieces, hr0]
        obtain ⟨g, c, rfl, _, _⟩ := h0.form (by omega)
        rw [hL]
        obtain ⟨w1, hw1⟩ : ∃ w1, w1 = wr := ⟨_, rfl⟩
        subst hw1
        have hcb1 := hcb
        have hP : Parts w1 w.heap.size (.slice (some ⟨g, 0, none⟩) (q + 1) c) (pieces m l q ++ [(l.drop (q * m)).take r]) := by
          rw [hL] at h0
          rw [← front_pos m l q r hr0]
          exact ⟨vs, by rw [hL]; exact h0, hin, hne'⟩
        have hB1 := hB
        have HL := Lib.hid hL; clear hL hin hne' h0 hcb
        go_wp2
        obtain ⟨vs1, h0, hin, hne'⟩ := hP
        have hls : (pieces m l q).length = q := by simp [pieces]
        rw [List.length_append, hls, List.length_singleton] at h0
        have hcl : ((l.drop (q * m)).take r).length = r := by have := hs.out; simp; omega
        have hvl : vs1.length = q + 1 := by simpa using h0.1
        obtain ⟨x, hx⟩ : ∃ x, vs1[q]? = some x := ⟨_, List.getElem?_eq_getElem (by omega)⟩
        have hxo := hin q x ((l.drop (q * m)).take r) hx (by rw [List.getElem?_append_right (by omega), hls]; simp)
        rw [hcl] at hxo
        have hcg : w1.cell? ⟨g, q, none⟩ = some x := (h0.cellAt q (by omega)).trans hx
        have hfg : w1.frozen? ⟨g, q, none⟩ = false := h0.frozenAt q
        have hxg : x.ownBlock ≠ some g := by
          rcases own_ne hxo h0 (by decide) with h | h
          · rw [h]; simp
          · exact h
        have hgl : g < w1.heap.size := World.block_lt_of_cell? _ _ hcg
        have hgb : w.heap.size ≤ g := (h0.lt g rfl).1
        have hix : (q : Int) < (q : Int) + 1 := by omega
        have hix2 : (s : Int) < (l.length : Int) := by omega
        obtain ⟨xp, xc, hxe⟩ : ∃ xp xc, x = Value.slice xp r xc := by
          rcases hxo.2 with ⟨h, h'⟩ | ⟨g', c', _, h, _⟩
          · exact ⟨none, 0, by rw [h, h']⟩
          · exact ⟨_, _, h⟩
        have HLS := Lib.hid hls; have HCL := Lib.hid hcl; have HX := Lib.hid hx; have HVL := Lib.hid hvl
        clear hls hcl hx hvl
        subst hxe
        go_region_law (go_loud (refine step_app El.u8 rfl (.tmp 48) (.tmp 53) rfl (by first | exact hxo.alloc _ | exact (hxo.alloc _).drew) rfl (by first | exact Rd.new _ _ [ub l[s]] 1 (by simp [maxLen]) | exact Rd.drew (Rd.new _ _ [ub l[s]] 1 (by simp [maxLen]))) rfl rfl (ub_one [l[s]]) (by omega) (by have := hB1.size; simp; omega) ?_); intro v2 w2 hown2 hgr2 hN2; obtain ⟨g2, c2, rfl, _, _⟩ := hown2.form (by omega); have hgr := grown_pre (w := w1) (by first | exact ((Below.refl _ _).alloc (Nat.le_refl _) _).drew | exact ((Below.refl _ _).drew).alloc (Nat.le_refl _) _) hgr2; have hNN := hN2.pre (w := w1) (by simp); have hcg2 := hgr.cell (a := ⟨g, q, none⟩) hcg (Ne.symm hxg); have hfg2 := (World.frozen?_of_block (a := ⟨g, q, none⟩) (hgr.block g hgl (Ne.symm hxg))).trans hfg; clear hgr2 hN2)
        all_goals
          have hP2 := parts_put HLS.out h0 hin hne' HX.out (by simpa [HCL.out] using hown2) hgr hNN
          have hB2 := ((hB1.grown hgr hB1.size (fun k hk => (hxo.lt k hk).1)).setCell (p := ⟨g, q, none⟩) hgb (Value.slice (some { block := g2, off := 0 }) (r + 1) c2))
          rw [← HF.out] at hP2
          clear hin hne' h0 hown2 hgr hNN hxo hB1 hB
          go_wp2
          go_roundw
          case rel => exact ⟨q', r', s + 1, by simp only [Hid, HS'.out, hs.out], hr', by omega, by go_num, hP2, hB2⟩
          case measure => simp [intOf]; omega
    · go_wp2
      go_ret2
      exact ⟨_, rfl, by rw [← front_end m l q r h1 hrm (by have := hs.out; omega)]; exact ⟨vs, h0, hin, hne'⟩, hB⟩

theorem cut_full {n : Nat} {mtu : Int} (h1 : 1 ≤ mtu) (h : mtu * 64 < n) : 64 < ((n : Int) + mtu - 1) / mtu := by
  have : 65 ≤ ((n : Int) + mtu - 1) / mtu := (Int.le_ediv_iff_mul_le (by omega)).2 (by omega)
  omega
theorem cut_fits {n : Nat} {mtu : Int} (h1 : 1 ≤ mtu) (h : ¬ mtu * 64 < n) : ¬ 64 < ((n : Int) + mtu - 1) / mtu := by
  intro h2
  have : 65 * mtu ≤ (n : Int) + mtu - 1 := (Int.le_ediv_iff_mul_le (by omega)).1 (by omega)
  omega
set_option maxHeartbeats 400000 in
set_option maxRecDepth 100000 in
theorem refCut_no (v : Value) (l : List UInt8) (mtu : Int) (w : World) (hr : Bs w v l) (he : cutErr l.length mtu ≠ 0) (hl : l.length ≤ 140737488355328) :
    Calls Try.prog 15 #[v, .int .i64 mtu] w fun e w' => e = .returned (.tuple #[.slice none 0 0, .int .i64 (cutErr l.length mtu)]) ∧ w = w' := by
  obtain ⟨ao, cap, rfl, hn, hm, hc⟩ := id hr
  have HE := Lib.hid he; clear he
  by_cases h1 : mtu < 1
  · go_enter Try.func15, Try.ntmps15
    go_wp2
    go_ret2
    exact ⟨by rw [cutErr_1 (by omega)]; rfl, rfl⟩
  by_cases h2 : 1024 < mtu
  · go_enter Try.func15, Try.ntmps15
    go_wp2
    go_ret2
    exact ⟨by rw [cutErr_1 (by omega)]; rfl, rfl⟩
  by_cases h3 : l.length < 1
  · go_enter Try.func15, Try.ntmps15
    go_wp2
    go_ret2
    exact ⟨by rw [cutErr_1 (by omega)]; rfl, rfl⟩
  by_cases h4 : 1024 < l.length
  · go_enter Try.func15, Try.ntmps15
    go_wp2
    go_ret2
    exact ⟨by rw [cutErr_81 (by omega) h4]; rfl, rfl⟩
  by_cases h5 : mtu * 64 < (l.length : Int)
  · go_enter Try.func15, Try.ntmps15
    go_wp2
    go_ret2
    exact ⟨by rw [cutErr_2 (by omega) h4 (cut_full (by omega) h5)]; rfl, rfl⟩
  · exact absurd (cutErr_0 (by omega) h4 (cut_fits (by omega) h5)) HE.out
theorem refCut_any (v : Value) (l : List UInt8) (mtu : Int) (w : World) (hr : Bs w v l) (hl : l.length ≤ 140737488355328) :
    Calls Try.prog 15 #[v, .int .i64 mtu] w fun e w' => ∃ v', e = .returned (.tuple #[v', .int .i64 (cutErr l.length mtu)]) ∧ Parts w' w.heap.size v' (cutOf l mtu) ∧ Below w.heap.size w w' := by
  by_cases he : cutErr l.length mtu = 0
  · obtain ⟨m, rfl⟩ := Int.eq_ofNat_of_zero_le (show 0 ≤ mtu by have := cutErr_zero he; omega)
    obtain ⟨a, b, c, d, _, e⟩ := cutErr_zero_nat he
    refine (refCut_yes v l m w hr a b c d e).mono ?_
    rintro e w' ⟨v', rfl, hp, hb⟩
    exact ⟨v', by rw [he], by simpa [cutOf, he] using hp, hb⟩
  · refine (refCut_no v l mtu w hr he hl).mono ?_
    rintro e w' ⟨rfl, rfl⟩
    exact ⟨_, rfl, by simpa [cutOf, he] using parts_nil _ _, Below.refl _ _⟩
end Go.Proofs.Ytgnbnkoanoalhaa
