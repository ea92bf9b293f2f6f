/- holds returns true. Printed by wip/gen_iholds.py. -/
import Derived.Test.YtfaemjlemaclbaaGreatMIScript
import Derived.Test.YtfaemjlemaclbaaGreatMIPlays1
import Derived.Test.YtfaemjlemaclbaaGreatMIBoth
import Derived.Test.YtfaemjlemaclbaaGreatMIKnows
namespace Go.Proofs.YtfaemjlemaclbaaGreat
set_option linter.unusedVariables false
set_option linter.unusedSimpArgs false
open Go.RowKit
/-- while a script goes on. -/
structure GoesI (w w' : World) (i x d : Nat) (S : Nat → Prop) (m : IM) : Prop where
  duo : IDuo w' x d S i m
  below : Below w.heap.size w w'
  new : ∀ b, S b → w.heap.size ≤ b
theorem GoesI.later {w w1 w2 : World} {i x d : Nat} {S : Nat → Prop} {m : IM} (h : GoesI w w1 i x d S m) (hb : Below w1.heap.size w1 w2) : GoesI w w2 i x d S m :=
  ⟨h.duo.later hb, below_trans h.below hb, h.new⟩
theorem GoesI.turn {w w1 w2 : World} {i x d : Nat} {S S' : Nat → Prop} {m m' : IM} (h : GoesI w w1 i x d S m) (hd : IDuo w2 x d S' (i + 1) m') (t : Turn S S' w1 w2) : GoesI w w2 (i + 1) x d S' m' :=
  ⟨hd, h.below.trans (t.same.belowB fun k hk => ⟨Nat.lt_of_lt_of_le hk h.below.size, fun e => by have := h.new k e; omega⟩), fun b hb => by
    rcases t.foot b hb with e | e
    · exact h.new b e
    · exact Nat.le_trans h.below.size e⟩
theorem GoesI.plays {w w1 : World} {i x d : Nat} {S : Nat → Prop} {m : IM} (h : GoesI w w1 i x d S m) (o : OpI) {dv gv : Value} (hu : URd w1 o.u dv gv) (f1 : o.u.data ≠ [] → ∀ b, dv.ownBlock = some b → b < w.heap.size) (f2 : o.u.got ≠ [] → ∀ b, gv.ownBlock = some b → b < w.heap.size) (hi : i ≤ 1099511627776) :
    Calls Tryz.prog 11 #[.pointer (some ⟨x, 0, none⟩), .pointer (some ⟨d, 0, none⟩), opv o dv gv] w1 fun e w' => e = .returned (.bool true) ∧ ∃ S', GoesI w w' (i + 1) x d S' (m.play o) := by
  refine (iplays_any h.duo o dv gv hu.dat hu.got (fun hn b e => ⟨Nat.lt_of_lt_of_le (f1 hn b e) h.below.size, fun hs => ?_⟩) (fun hn b e => ⟨Nat.lt_of_lt_of_le (f2 hn b e) h.below.size, fun hs => ?_⟩) hu.l1 hu.l2 (by omega)).mono ?_
  · have := f1 hn b e; have := h.new b hs; omega
  · have := f2 hn b e; have := h.new b hs; omega
  · rintro e w' ⟨rfl, S', h1, h2⟩
    exact ⟨rfl, S', h.turn h1 h2⟩
theorem GoesI.shows {w w1 : World} {i x d : Nat} {S : Nat → Prop} {m : IM} (h : GoesI w w1 i x d S m) :
    Calls Tryz.prog 12 #[.pointer (some ⟨x, 0, none⟩), .pointer (some ⟨d, 0, none⟩)] w1 fun e w' => e = .returned (.bool true) ∧ GoesI w w' i x d S m ∧ Below w1.heap.size w1 w' :=
  (shows_any h.duo).mono fun e w' ⟨a, b⟩ => ⟨a, h.later b, b⟩
set_option maxHeartbeats 8000000 in
set_option maxRecDepth 100000 in
theorem iholds_any (a b : Int) (v : Value) (ops : List OpI) (kd : Int) (w : World) (hv : OpsRdI w v ops) :
    Calls Tryz.prog 8 #[.int .i64 a, .int .i64 b, v, .int .i64 kd] w fun e w' => e = .returned (.bool true) ∧ Below w.heap.size w w' := by
  obtain ⟨ao, cap, rfl, hl, -⟩ := id hv
  have HV := Lib.hid hv
  clear hv
  obtain ⟨n, hn⟩ : ∃ n, n = ops.length := ⟨_, rfl⟩
  rw [← hn] at hl
  have HN := Lib.hid hn
  rw [← hn]
  clear hn
  by_cases hok : newOk a b
  · obtain ⟨a, rfl⟩ := Int.eq_ofNat_of_zero_le (show 0 ≤ a by have := hok.1; omega)
    obtain ⟨b, rfl⟩ := Int.eq_ofNat_of_zero_le (show 0 ≤ b by have := hok.2.2.1; omega)
    go_enter Tryz.func8, Tryz.ntmps8
    go_wp2_with fail
    refine (both_yes a b w hok).mono ?_
    intro e w1 hpost
    obtain ⟨x, d, S, rfl, hD, hS, hB1⟩ := hpost
    have HG := Lib.hid (⟨hD, hB1, hS⟩ : GoesI w w1 0 x d S ⟨a, b, 0, [], []⟩)
    obtain ⟨m, hm⟩ : ∃ m : IM, m = ⟨a, b, 0, [], []⟩ := ⟨_, rfl⟩
    rw [← hm] at HG
    clear hD hS hB1 hm
    go_wp2_with fail
    refine (knows_any _).mono ?_
    rintro e w9 ⟨rfl, hB9⟩
    have HG' := Lib.hid (HG.out.later hB9)
    clear HG hB9
    have HG := HG'
    clear HG'
    go_wp2_with fail
    go_loopw [12] (fun i wr => ∃ (t : Nat) (S : Nat → Prop) (m : IM), t ≤ n ∧ i = .int .i64 (t : Int) ∧ Hid (GoesI w wr t x d S m)) (fun i _ => n - (intOf i).toNat)
    case atStart => exact ⟨0, S, m, Nat.zero_le _, rfl, HG⟩
    case round =>
      clear HG
      obtain ⟨t, S, m, ht, rfl, HG⟩ := hrel
      by_cases hlt : t < n
      · obtain ⟨o, ho⟩ : ∃ o, ops[t]? = some o := ⟨_, List.getElem?_eq_getElem (by rw [← HN.out]; exact hlt)⟩
        obtain ⟨bb, off, dv, gv, rfl, hu, f1, f2, hcell⟩ := HV.out.at HG.out.below ho rfl
        have c := HG.out.plays o hu f1 f2 (by omega)
        obtain ⟨okind, ⟨ukind, uep, uses, path, idx, cnt, data, ucode, got⟩, oep, onum, ocode⟩ := o
        simp only [opv] at c
        have e0 := hcell 0 _ rfl
        rw [← Nat.add_assoc] at e0
        have e1 := hcell 1 _ rfl
        rw [← Nat.add_assoc] at e1
        have e2 := hcell 2 _ rfl
        rw [← Nat.add_assoc] at e2
        have e3 := hcell 3 _ rfl
        rw [← Nat.add_assoc] at e3
        have e4 := hcell 4 _ rfl
        rw [← Nat.add_assoc] at e4
        have e5 := hcell 5 _ rfl
        rw [← Nat.add_assoc] at e5
        have e6 := hcell 6 _ rfl
        rw [← Nat.add_assoc] at e6
        have e7 := hcell 7 _ rfl
        rw [← Nat.add_assoc] at e7
        have e8 := hcell 8 _ rfl
        rw [← Nat.add_assoc] at e8
        have e9 := hcell 9 _ rfl
        rw [← Nat.add_assoc] at e9
        have e10 := hcell 10 _ rfl
        rw [← Nat.add_assoc] at e10
        have e11 := hcell 11 _ rfl
        rw [← Nat.add_assoc] at e11
        have e12 := hcell 12 _ rfl
        rw [← Nat.add_assoc] at e12
        simp only [Nat.add_zero] at e0
        simp only at e1 e2 e3 e4 e5 e6 e8 e10 e11 e12
        have hdv := hu.dat
        have hgv := hu.got
        simp only at hdv hgv
        obtain ⟨dp, dc, rfl, -⟩ := id hdv
        obtain ⟨gp, gc, rfl, -⟩ := id hgv
        have HC := Lib.hid c
        have HGB := Lib.hid HG.out.below
        have ix : (t : Int) < (n : Int) := by omega
        have HOP := Lib.hid ho
        clear c hu f1 f2 hcell hdv hgv ho
        go_wp2_with fail
        refine HC.out.mono ?_
        rintro e w2 ⟨rfl, S2, h2⟩
        have HG2 := Lib.hid h2
        obtain ⟨bb', off', dv', gv', hq1, -, -, -, hq2⟩ := HV.out.at h2.below HOP.out rfl
        injection hq1 with hq1
        injection hq1 with hq1 hq3
        subst hq1
        subst hq3
        have z0 := hq2 0 _ rfl
        rw [← Nat.add_assoc] at z0
        simp only [Nat.add_zero] at z0
        have z0 : w2.cell? _ = some (.int .i64 okind) := z0
        have hsh := h2.shows
        have HSH := Lib.hid hsh
        clear h2 hq2 hsh e0 e1 e2 e3 e4 e5 e6 e7 e8 e9 e10 e11 e12
        by_cases hkd : okind = kd
        · have hkb : (okind == kd) = true := by simpa using hkd
          subst hkd
          go_wp2_with fail
          refine HSH.out.mono ?_
          rintro e w3 ⟨rfl, h3, -⟩
          have HG3 := Lib.hid h3
          clear h3
          go_wp2_with fail
          go_roundw
          case rel => exact ⟨t + 1, _, _, by omega, by go_num, HG3⟩
          case measure => simp [intOf]; omega
        · have hkb : (okind == kd) = false := by simpa using hkd
          go_wp2_with fail
          go_roundw
          case rel => exact ⟨t + 1, _, _, by omega, by go_num, HG2⟩
          case measure => simp [intOf]; omega
      · obtain rfl : t = n := by omega
        go_wp2_with fail
        go_ret
        exact ⟨rfl, HG.out.below⟩
  · go_enter Tryz.func8, Tryz.ntmps8
    go_wp2_with fail
    refine (both_no a b w hok).mono ?_
    rintro e w1 ⟨rfl, hw⟩
    rw [hw]
    clear hw w1
    go_wp2_with fail
    refine (knows_any _).mono ?_
    rintro e w9 ⟨rfl, hB9⟩
    have HB := Lib.hid hB9
    clear hB9
    go_wp2_with fail
    go_ret
    exact ⟨rfl, HB.out⟩
end Go.Proofs.YtfaemjlemaclbaaGreat
