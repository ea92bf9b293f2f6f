/- lay: a timer is laid into its row. -/
import Derived.Test.YtnnkchgkebcblaaWNear
import Derived.Deep.RegionLaw
namespace Go.Proofs.Ytnnkchgkebcblaa
set_option linter.unusedVariables false
set_option linter.unusedSimpArgs false
open Go.RowKit Go.Maps
theorem lvk_eq {x n k : Nat} (h : dg x k = dg n k) : lvk x n (k + 1) = lvk x n k := if_pos h
theorem lvk_ne {x n k : Nat} (h : dg x k ≠ dg n k) : lvk x n (k + 1) = k := if_neg h
theorem zeroPl (w : World) : (zeroValue 89).run Try.prog w = .ok (Pl.val ⟨0, 0, false⟩) w := by
  rw [Try.zeroValue89]; rfl
def plOf (x n : Nat) : Pl := ⟨lvl x n, dg x (lvl x n), false⟩
set_option maxHeartbeats 4000000 in
set_option maxRecDepth 100000 in
theorem lay_any (g mb : Nat) (sl : List Value) (now sets : Nat) (R : Nat → List Tm) (m : Int → Option Pl) (N : Nat) (w : World) (h : WAt w g mb sl now sets R m N) (hnow : now < 64 ^ 8) (t : Tm) (hat : t.at_ < 64 ^ 8) (hid : (key t.id).wf = true)
    (hR : (R (ix t.at_ now)).length < 4611686018427) (hN : N < 4611686018427) :
    Calls Try.prog 42 #[.pointer (some ⟨g, 0, none⟩), .agg #[.int .i64 t.id, .int .u64 (t.at_ : Int), .int .u64 (t.ord : Int)]] w fun e w' => e = .returned (.tuple #[]) ∧
      ∃ sl', WAt w' g mb sl' now sets (upd R (ix t.at_ now) (R (ix t.at_ now) ++ [t])) (mput m t.id (plOf t.at_ now)) (cnt m t.id N) ∧ Same (WF g mb sl) w w' ∧ ∀ b, WF g mb sl' b → WF g mb sl b ∨ w.heap.size ≤ b := by
  obtain ⟨id, x, ord, nev⟩ := t
  simp only at *
  have hgl := h.blk.lt
  have HW := Lib.hid h
  clear h
  go_enter Try.func42, Try.ntmps42
  go_wp2
  obtain ⟨w0, hw0⟩ : ∃ w0, w0 = w.alloc (.cells #[.int .i64 id, .int .u64 (x : Int), .int .u64 (ord : Int)] 82) := ⟨_, rfl⟩
  rw [← hw0]
  have hT0 : Blk w0 w.heap.size 82 [.int .i64 id, .int .u64 (x : Int), .int .u64 (ord : Int)] := hw0 ▸ Blk.new w _ _
  have hB0 : Below w.heap.size w w0 := hw0 ▸ (Below.refl _ _).alloc (Nat.le_refl _) _
  clear hw0
  obtain ⟨tb, htb⟩ : ∃ tb, tb = w.heap.size := ⟨_, rfl⟩
  rw [← htb] at hT0 ⊢
  have HB0 := Lib.hid hB0
  have HTB := Lib.hid htb
  have HT0 := Lib.hid hT0
  clear hB0 htb hT0
  go_loopw [4, 7] (fun a i wr => ∃ l : Nat, l ≤ 8 ∧ i = .int .i64 (l : Int) ∧ a = .int .i64 ((lvk x now l : Nat) : Int) ∧ Below w0.heap.size w0 wr) (fun _ i _ => 8 - (intOf i).toNat)
  case atStart => exact ⟨0, by omega, rfl, rfl, Below.refl _ _⟩
  case round =>
    obtain ⟨l, hl, rfl, rfl, hbr⟩ := hrel
    by_cases hlt : l < 8
    · have hi1 : ((l : Int) < 8) := by omega
      have hTr := HT0.out.later hbr
      have d1 := hTr.cell_some (i := 1) rfl
      have c1 := (HW.out.later (below_trans HB0.out hbr)).c1
      clear hTr
      go_wp2
      refine region_class (C := fun w' => w'.cell? ⟨g, 1, none⟩ = some (.int .u64 (now : Int)) ∧ w'.cell? ⟨tb, 1, none⟩ = some (.int .u64 (x : Int)) ∧ Below w0.heap.size w0 w') (by kernel_rfl) (by kernel_rfl) ⟨c1, d1, below_drew hbr⟩ ?_
      repeat (first
        | go_big_quiet_skip
        | (go_big_quiet_want
           rename_i K hK
           apply Exists.intro
           refine ⟨fun w' hw' => ?_, hK _ ?_⟩
           obtain ⟨r1, r2, r3⟩ := hw'
           go_simp
           first
             | (go_at_call 46
                first
                  | (refine (digit_any x l hat hlt _).mono ?_
                     rintro e w1 ⟨rfl, rfl⟩
                     exact ⟨rfl, r1, r2, r3⟩)
                  | (refine (digit_any now l hnow hlt _).mono ?_
                     rintro e w1 ⟨rfl, rfl⟩
                     exact ⟨rfl, r1, r2, r3⟩))
             | with_reducible rfl
           clear hK K
           simp only [Act.put, List.setIfInBounds_toArray, List.set_cons_zero, List.set_cons_succ]))
      refine wpQuiet_nil ?_
      rintro w5 ⟨r1, r2, r3⟩
      by_cases he : dg x l = dg now l
      · have hb : (((dg x l : Nat) : Int) != ((dg now l : Nat) : Int)) = false := by rw [he]; simp
        go_wp2
        go_roundw
        case rel => exact ⟨l + 1, by omega, by go_num, by rw [lvk_eq he], r3⟩
        case measure => simp [intOf]; omega
      · have hb : (((dg x l : Nat) : Int) != ((dg now l : Nat) : Int)) = true := by simp; omega
        go_wp2
        go_roundw
        case rel => exact ⟨l + 1, by omega, by go_num, by rw [lvk_ne he], r3⟩
        case measure => simp [intOf]; omega
    · obtain rfl : l = 8 := by omega
      have hTr := HT0.out.later hbr
      have d1 := hTr.cell_some (i := 1) rfl
      obtain ⟨w1, hw1⟩ : ∃ w1, w1 = wr := ⟨_, rfl⟩
      subst hw1
      have hlv : lvk x now 8 = lvl x now := rfl
      rw [hlv]
      go_wp2_with fail
      refine (digit_any x (lvl x now) hat (lvl_lt _ _) _).mono ?_
      rintro e w2 ⟨rfl, rfl⟩
      go_wp2_with fail
      have HW2 := Lib.hid (HW.out.later (below_trans HB0.out hbr))
      obtain ⟨v, hv, hc, hown⟩ := HW2.out.at (k := lvl x now * 64 + dg x (lvl x now)) (ix_lt x now)
      have hix : ix x now = lvl x now * 64 + dg x (lvl x now) := rfl
      have hcg : w2.cell? ⟨g, 3 + lvl x now * 64 + dg x (lvl x now), none⟩ = some v := by rw [Nat.add_assoc]; exact hc
      have hfg : w2.frozen? ⟨g, 3 + lvl x now * 64 + dg x (lvl x now), none⟩ = false := HW2.out.fz _
      have hvg : v.ownBlock ≠ some g := own_blk_ne hown HW2.out.blk (by decide)
      have hgl2 : g < w2.heap.size := HW2.out.blk.lt
      have d0 := hTr.cell_some (i := 0) rfl
      have d2 := hTr.cell_some (i := 2) rfl
      have hl1 := lvl_lt x now
      have hl2 := dg_lt x (lvl x now)
      rw [hix] at hR
      obtain ⟨n, hn⟩ : ∃ n, n = (R (lvl x now * 64 + dg x (lvl x now))).length := ⟨_, rfl⟩
      rw [← hn] at hown hR
      obtain ⟨vp, vc, hve⟩ : ∃ vp vc, v = Value.slice vp n vc := by
        rcases hown.2 with ⟨h, h'⟩ | ⟨g', c', _, h, _⟩
        · exact ⟨none, 0, by rw [h, h']⟩
        · exact ⟨_, _, h⟩
      obtain ⟨L, hL⟩ : ∃ L, L = lvl x now := ⟨_, rfl⟩
      obtain ⟨dd, hdd⟩ : ∃ dd, dd = dg x (lvl x now) := ⟨_, rfl⟩
      rw [← hdd, ← hL] at hcg hfg ⊢
      rw [← hdd] at hl2
      rw [← hL] at hl1
      have HN := Lib.hid hn; have HIX := Lib.hid hix; have HV := Lib.hid hv; have HL := Lib.hid hL; have HDD := Lib.hid hdd
      clear hn hix hv hc hL hdd hlv
      subst hve
      have hi1 : ((L : Int) < 8) := by omega
      have hi2 : ((dd : Int) < 64) := by omega
      go_region_law (go_loud (refine step_app El.tms rfl (.tmp 37) (.tmp 39) rfl (by first | exact hown.alloc _ | exact (hown.alloc _).drew) rfl (by first | exact Rd.new _ _ (tv ⟨id, x, ord, nev⟩) 1 (by simp [maxLen]) | exact Rd.drew (Rd.new _ _ (tv ⟨id, x, ord, nev⟩) 1 (by simp [maxLen]))) rfl rfl (by have := tvs_one [⟨id, x, ord, nev⟩]; simpa [tvs] using this) (by omega) (Nat.zero_le _) ?_); intro v2 w3 hown2 hgr2 hN2; obtain ⟨g2, c2, rfl, _, _⟩ := hown2.form (by omega); have hgr := grown_pre (w := w2) (by first | exact ((Below.refl _ _).alloc (Nat.le_refl _) _).drew | exact ((Below.refl _ _).drew).alloc (Nat.le_refl _) _) hgr2; have hNN := hN2.pre (w := w2) (by simp); have hcg2 := hgr.cell (a := ⟨g, 3 + L * 64 + dd, none⟩) hcg (Ne.symm hvg); have hfg2 := (World.frozen?_of_block (a := ⟨g, 3 + L * 64 + dd, none⟩) (hgr.block g hgl2 (Ne.symm hvg))).trans hfg; clear hgr2 hN2)
      all_goals
        have hkk : ix x now = L * 64 + dd := by rw [HIX.out, HL.out, HDD.out]
        have hp := HW2.out.push (k := L * 64 + dd) (by omega) (v := .slice vp n vc) (by rw [← hkk, HIX.out]; exact HV.out) (v' := .slice (some ⟨g2, 0, none⟩) (n + 1) c2) (l := R (L * 64 + dd) ++ [⟨id, x, ord, nev⟩])
          (by rw [tvs_append, List.length_append, ← hkk, HIX.out, ← HN.out]; simpa [tvs] using hown2) hgr (.inr hNN)
        rw [← Nat.add_assoc] at hp
        obtain ⟨w4, hw4⟩ : ∃ w4, w4 = w3.setCell ⟨g, 3 + L * 64 + dd, none⟩ (.slice (some ⟨g2, 0, none⟩) (n + 1) c2) := ⟨_, rfl⟩
        rw [← hw4] at hp ⊢
        obtain ⟨hW4, hS4, hF4⟩ := hp
        clear hown2 hgr hNN hcg2 hfg2 hw4 hown hcg hfg d1 d2 hTr
        have htw : ¬ WF g mb sl tb := fun hf => by have h1 := HW.out.foot_lt hf; have h2 := HTB.out; omega
        have d0' := hS4.cell_some d0 htw
        have c515 := hW4.c515
        obtain ⟨D, q1, q2, q3, q4⟩ := hW4.map.ex
        obtain ⟨w5, hrun0, q5, hturn⟩ := (show OwnsM w4.drew mb N D from q1).store keyed Try.underlying67 (by simp only [maxLen]; omega) (keyOf_int_mk Try.underlying3 hid) (plR_mk ⟨L, dd, false⟩)
        have hrun : (Instr.mapUpdate 67 (.map (some mb)) (.int .i64 id) (.agg #[.int .i64 (L : Int), .int .i64 (dd : Int), .bool false])).run Try.prog w4.drew = .ok () w5 := hrun0
        have Q1 := Lib.hid q1; have Q2 := Lib.hid q2; have Q3 := Lib.hid q3; have Q4 := Lib.hid q4; have Q5 := Lib.hid q5; have HT := Lib.hid hturn; have HW4 := Lib.hid hW4; have HS4 := Lib.hid hS4; have HF4 := Lib.hid hF4; have HK := Lib.hid hkk
        have HB2 := Lib.hid (below_trans HB0.out hbr)
        clear q1 q2 q3 q4 q5 hturn hW4 hS4 hF4 htw hrun0 d0 hbr hkk
        go_wp2_with fail
        go_region
        all_goals
          go_wp2_with fail
          refine bodyPost_end (results_none rfl _ _ _) rfl ?_
          have hs0 := HT.out.grown
          have hs : Same (at1 mb) w4 w5 := ⟨hs0.os, hs0.tape, hs0.output, hs0.size, fun k hk hn => hs0.block k hk (fun e => hn (by injection e))⟩
          have hm := MapIs.put (w := w4) (w' := w5) hid Q1.out Q2.out Q3.out Q4.out Q5.out
          have hbel : Below w.heap.size w w2 := HB2.out
          refine ⟨rfl, sl.set (L * 64 + dd) (Value.slice (some { block := g2, off := 0 }) (n + 1) c2), ?_, ?_, fun b hb => ?_⟩
          · have := HW4.out.mapped hs hm
            rw [HK.out]
            rwa [show plOf x now = ⟨L, dd, false⟩ by rw [HL.out, HDD.out]; rfl]
          · exact ((Same.of_below hbel (WF g mb sl)).trans HS4.out (fun i _ h => h)).trans hs (fun i _ h => .inr (.inl h))
          · rcases HF4.out b hb with h | h
            · exact .inl h
            · exact .inr (Nat.le_trans hbel.size h)
end Go.Proofs.Ytnnkchgkebcblaa
