/- InboxOnce returns true. -/
import Derived.Test.YtfaemjlemaclbaaMIWrote
namespace Go.Proofs.Ytfaemjlemaclbaa
set_option linter.unusedVariables false
set_option linter.unusedSimpArgs false
open Go.RowKit Go.Maps
structure OnceX (w wr : World) (t x : Nat) (S : Nat → Prop) (m : IM) (bv : Value) (B : List (Sess × Int)) : Prop where
  go : GoesX w wr t x S m
  own : wr.ownsRow w.heap.size 67 3 bv B.length (B.flatMap cb)
theorem OnceX.later {w wr w' : World} {t x : Nat} {S : Nat → Prop} {m : IM} {bv : Value} {B : List (Sess × Int)} (h : OnceX w wr t x S m bv B) (hb : Below wr.heap.size wr w') : OnceX w w' t x S m bv B := ⟨h.go.later hb, own_later h.own hb⟩
theorem OnceX.turn {w wr w' : World} {t x : Nat} {S S' : Nat → Prop} {m m' : IM} {bv : Value} {B : List (Sess × Int)} (h : OnceX w wr t x S m bv B) (hg : GoesX w w' (t + 1) x S' m') (ht : Turn S S' wr w') : OnceX w w' (t + 1) x S' m' bv B :=
  ⟨hg, own_same h.own ht.same (h.go.inb.row h.own (by decide) (by decide) (by decide) (by decide))⟩
theorem once_add {w W w' : World} {t x : Nat} {S : Nat → Prop} {m : IM} {bv v' : Value} {B : List (Sess × Int)} {s : Sess} {c : Int} (h : OnceX w W t x S m bv B) (ho : w'.ownsRow w.heap.size 67 3 v' (B.length + 1) (B.flatMap cb ++ [.int .u64 (s.1.toNat : Int), .int .u64 (s.2.toNat : Int), .int .i64 c])) (hg : W.grownBy w' bv.ownBlock) : OnceX w w' t x S m v' (B ++ [(s, c)]) :=
  ⟨⟨h.go.inb.same (Same.of_grown hg) fun b hb e => h.go.inb.row h.own (by decide) (by decide) (by decide) (by decide) b e.symm hb, h.go.below.grown hg h.go.below.size fun q hq => (h.own.lt q hq).1, h.go.new⟩, by
    rw [List.length_append, List.flatMap_append]
    simpa [cb] using ho⟩
theorem booked_else {m : IM} {B : List (Sess × Int)} (h : Booked m B) (o : OpI) (h1 : o.kind ≠ 1) (h2 : o.kind = 2 → (m.dec (o.ep, o.num) o.code).2 ≠ 0) : Booked (m.play o) B := by
  unfold IM.play
  rw [if_neg h1]
  split
  · next e => exact h.dec_no _ _ (h2 e)
  split
  · exact h.drop _
  · exact h
set_option maxHeartbeats 8000000 in
set_option maxRecDepth 100000 in
theorem ionce_in (a b : Int) (v : Value) (ops : List OpI) (w : World) (hv : OpsRdI w v ops) :
    Calls Try.prog 6 #[.int .i64 a, .int .i64 b, v] w fun e w' => e = .returned (.bool true) ∧ Below w.heap.size w w' := by
  obtain ⟨ao, cap, rfl, hl, -⟩ := id hv
  have HV := Lib.hid hv
  clear hv
  obtain ⟨n, hn⟩ : ∃ n, n = ops.length := ⟨_, rfl⟩
  rw [← hn] at hl
  have HN := Lib.hid hn
  rw [← hn]
  clear hn
  go_enter Try.func6, Try.ntmps6
  go_wp2_with fail
  have c := within_any a 64 w (by decide) (by decide)
  change Calls Try.prog _ #[_, .int .i64 64] _ _ at c
  refine c.mono ?_
  clear c
  rintro e w1 ⟨k1, hk1, rfl, hw⟩
  rw [hw]
  clear hw w1
  go_wp2_with fail
  have c := within_any b 4096 w (by decide) (by decide)
  change Calls Try.prog _ #[_, .int .i64 4096] _ _ at c
  refine c.mono ?_
  clear c
  rintro e w1 ⟨k2, hk2, rfl, hw⟩
  rw [hw]
  clear hw w1
  obtain ⟨A, hA⟩ : ∃ A : Nat, A = 1 + k1 := ⟨_, rfl⟩
  obtain ⟨B, hB⟩ : ∃ B : Nat, B = 1 + k2 := ⟨_, rfl⟩
  have eA : (1 : Int) + (k1 : Int) = (A : Int) := by omega
  have eB : (1 : Int) + (k2 : Int) = (B : Int) := by omega
  have hok : newOk (A : Int) (B : Int) := ⟨by omega, by omega, by omega, by omega⟩
  clear hA hB
  go_wp2_with fail
  refine (inew_yes A B w hok).mono ?_
  rintro e w1 ⟨x, S, rfl, h1, hS, hB1⟩
  have hG : OnceX w w1 0 x S ⟨A, B, 0, [], []⟩ (.slice none 0 0) [] := ⟨⟨h1, hB1, hS⟩, World.ownsRow_nil _ _ _ _⟩
  have hD : Booked ⟨A, B, 0, [], []⟩ [] := fun s c hc => by cases hc
  obtain ⟨m, hm⟩ : ∃ m : IM, m = ⟨A, B, 0, [], []⟩ := ⟨_, rfl⟩
  rw [← hm] at hG hD
  have HG := Lib.hid hG; have HD := Lib.hid hD
  clear h1 hS hB1 hG hD hm eA eB hk1 hk2
  go_wp2_with fail
  refine (knows_any _).mono ?_
  rintro e w9 ⟨rfl, hB9⟩
  have HG' := Lib.hid (HG.out.later hB9)
  clear HG hB9
  go_wp2_with fail
  go_loopw [9, 10] (fun bv i wr => ∃ (t : Nat) (S : Nat → Prop) (m : IM) (B : List (Sess × Int)), t ≤ n ∧ B.length ≤ t ∧ i = .int .i64 (t : Int) ∧ Hid (OnceX w wr t x S m bv B) ∧ Hid (Booked m B)) (fun _ i _ => n - (intOf i).toNat)
  case atStart => exact ⟨0, S, m, [], Nat.zero_le _, Nat.le_refl _, rfl, HG', HD⟩
  case round =>
    clear HG' HD
    obtain ⟨t, S, m, BK, ht, hbt, rfl, HG, HD⟩ := hrel
    by_cases hlt : t < n
    · obtain ⟨o, ho⟩ : ∃ o, ops[t]? = some o := ⟨_, List.getElem?_eq_getElem (by rw [← HN.out]; exact hlt)⟩
      obtain ⟨bb, off, dv, gv, rfl, hu, f1, f2, hcell⟩ := HV.out.at HG.out.go.below ho rfl
      obtain ⟨ba, bcap, rfl, -⟩ := own_open HG.out.own
      obtain ⟨l, hlb⟩ : ∃ l, l = BK.length := ⟨_, rfl⟩
      rw [← hlb] at hbt ⊢
      have HLB := Lib.hid hlb
      have HU := Lib.hid hu
      have HF1 := Lib.hid f1
      have HO := Lib.hid ho
      clear hlb
      obtain ⟨okind, ⟨ukind, uep, uses, path, idx, cnt, data, ucode, got⟩, oep, onum, ocode⟩ := o
      have e0 := hcell 0 _ rfl
      rw [← Nat.add_assoc] at e0
      have e1 := hcell 1 _ rfl
      rw [← Nat.add_assoc] at e1
      have e2 := hcell 2 _ rfl
      rw [← Nat.add_assoc] at e2
      have e3 := hcell 3 _ rfl
      rw [← Nat.add_assoc] at e3
      have e4 := hcell 4 _ rfl
      rw [← Nat.add_assoc] at e4
      have e5 := hcell 5 _ rfl
      rw [← Nat.add_assoc] at e5
      have e6 := hcell 6 _ rfl
      rw [← Nat.add_assoc] at e6
      have e7 := hcell 7 _ rfl
      rw [← Nat.add_assoc] at e7
      have e8 := hcell 8 _ rfl
      rw [← Nat.add_assoc] at e8
      have e9 := hcell 9 _ rfl
      rw [← Nat.add_assoc] at e9
      have e10 := hcell 10 _ rfl
      rw [← Nat.add_assoc] at e10
      have e11 := hcell 11 _ rfl
      rw [← Nat.add_assoc] at e11
      have e12 := hcell 12 _ rfl
      rw [← Nat.add_assoc] at e12
      simp only [Nat.add_zero] at e0
      simp only at e1 e2 e3 e4 e5 e6 e8 e10 e11 e12
      have hdv := hu.dat
      have hgv := hu.got
      simp only at hdv hgv
      obtain ⟨dp, dc, rfl, -⟩ := id hdv
      obtain ⟨gp, gc, rfl, -⟩ := id hgv
      have ix : (t : Int) < (n : Int) := by omega
      clear hu f1 f2 hcell hdv hgv ho
      by_cases k1 : okind = 1
      · subst k1
        go_wp2_with fail
        obtain ⟨W0, hW0⟩ : ∃ W0, W0 = (wr.alloc (.cells #[.int .i64 1, .int .i64 ukind, .int .u64 (uep.toNat : Int), .int .u64 (uses.toNat : Int), .int .i64 path, .int .i64 idx, .int .i64 cnt, .slice dp data.length dc, .int .i64 ucode, .slice gp got.length gc, .int .u64 (oep.toNat : Int), .int .u64 (onum.toNat : Int), .int .i64 ocode] 58)).alloc (.cells #[.int .u64 (uep.toNat : Int), .int .u64 (uses.toNat : Int)] 60) := ⟨_, rfl⟩
        rw [← hW0]
        have hB0 : Below wr.heap.size wr W0 := hW0 ▸ ((Below.refl _ _).alloc (Nat.le_refl _) _).alloc (by simp) _
        have hO : Blk W0 wr.heap.size 58 [.int .i64 1, .int .i64 ukind, .int .u64 (uep.toNat : Int), .int .u64 (uses.toNat : Int), .int .i64 path, .int .i64 idx, .int .i64 cnt, .slice dp data.length dc, .int .i64 ucode, .slice gp got.length gc, .int .u64 (oep.toNat : Int), .int .u64 (onum.toNat : Int), .int .i64 ocode] := hW0 ▸ (Blk.new wr _ _).alloc _
        have hs : Blk W0 (wr.heap.size + 1) 60 [.int .u64 (uep.toNat : Int), .int .u64 (uses.toNat : Int)] := by
          have := Blk.new (wr.alloc (.cells #[.int .i64 1, .int .i64 ukind, .int .u64 (uep.toNat : Int), .int .u64 (uses.toNat : Int), .int .i64 path, .int .i64 idx, .int .i64 cnt, .slice dp data.length dc, .int .i64 ucode, .slice gp got.length gc, .int .u64 (oep.toNat : Int), .int .u64 (onum.toNat : Int), .int .i64 ocode] 58)) 60 [.int .u64 (uep.toNat : Int), .int .u64 (uses.toNat : Int)]
          rw [show (wr.alloc (.cells #[.int .i64 1, .int .i64 ukind, .int .u64 (uep.toNat : Int), .int .u64 (uses.toNat : Int), .int .i64 path, .int .i64 idx, .int .i64 cnt, .slice dp data.length dc, .int .i64 ucode, .slice gp got.length gc, .int .u64 (oep.toNat : Int), .int .u64 (onum.toNat : Int), .int .i64 ocode] 58)).heap.size = wr.heap.size + 1 by simp] at this
          exact hW0 ▸ this
        have hBd : Below W0.heap.size W0 W0.drew := (Below.refl _ _).drew
        have HG0 := Lib.hid ((HG.out.later hB0).later hBd); have HO0 := Lib.hid (hO.later hBd); have HS0 := Lib.hid (hs.later hBd); have HU0 := Lib.hid ((HU.out.later hB0).later hBd)
        have s0 := hs.cell_some (i := 0) rfl
        have s1 := hs.cell_some (i := 1) rfl
        have hcl : m.C.length ≤ 4097 := by have h1 := HG.out.go.inb.inv.lc; have h2 := HG.out.go.inb.inv.ms2; omega
        obtain ⟨IS, hIS⟩ : ∃ IS : Bool, IS = decide ((uep, uses) ∈ m.C.map (·.1)) := ⟨_, rfl⟩
        have HIS := Lib.hid hIS
        obtain ⟨M, hM⟩ : ∃ M, M = m.C.length := ⟨_, rfl⟩
        have HM := Lib.hid hM
        have HCL := Lib.hid hcl
        have ob : wr.heap.size < W0.heap.size := hO.lt
        clear hBd hB0 hO hs hW0 e0 e1 e2 e3 e4 e5 e6 e7 e8 e9 e10 e11 e12 hIS hM hcl
        go_region_law (first
          | (go_simp; go_at_call 21; refine (in_decided HG0.out.go.inb).mono ?_; rintro e w3 ⟨v1, rfl, ho1, hB3⟩; rw [← HM.out] at ho1; obtain ⟨a1, cap1, rfl, -⟩ := own_open ho1; have hs3 := HS0.out.later hB3; have s0 := hs3.cell_some (i := 0) rfl; have s1 := hs3.cell_some (i := 1) rfl; have HR3 := Lib.hid (Rd.of_own ho1); have HB3 := Lib.hid hB3; clear ho1 hs3 hB3)
          | (go_simp; go_at_call 20; have c := ihas_any (.slice a1 M cap1) (m.C.map (·.1)) (uep, uses) w3 (by rw [List.length_map, ← HM.out]; exact HR3.out) (by rw [List.length_map]; have := HCL.out; omega); rw [← HIS.out] at c; refine c.mono ?_; clear c; rintro e w4 ⟨rfl, hB4⟩; have HB4 := Lib.hid (below_trans HB3.out hB4); clear hB4 HR3)
          | fail)
        all_goals
          have hO4 := HO0.out.later HB4.out
          have o0 := hO4.cell_some (i := 0) rfl
          have o1 := hO4.cell_some (i := 1) rfl
          have o2 := hO4.cell_some (i := 2) rfl
          have o3 := hO4.cell_some (i := 3) rfl
          have o4 := hO4.cell_some (i := 4) rfl
          have o5 := hO4.cell_some (i := 5) rfl
          have o6 := hO4.cell_some (i := 6) rfl
          have o7 := hO4.cell_some (i := 7) rfl
          have o8 := hO4.cell_some (i := 8) rfl
          have o9 := hO4.cell_some (i := 9) rfl
          have o10 := hO4.cell_some (i := 10) rfl
          have o11 := hO4.cell_some (i := 11) rfl
          have o12 := hO4.cell_some (i := 12) rfl
          have HG4 := Lib.hid (HG0.out.later HB4.out); have HO4 := Lib.hid hO4; have HS4 := Lib.hid (HS0.out.later HB4.out); have HU4 := Lib.hid (HU0.out.later HB4.out)
          have c := HG4.out.go.does ⟨1, ⟨ukind, uep, uses, path, idx, cnt, data, ucode, got⟩, oep, onum, ocode⟩ (dv := .slice dp data.length dc) (gv := .slice gp got.length gc) HU4.out HF1.out (by omega)
          simp only [opv] at c
          have HC := Lib.hid c
          clear c hO4 HB4 HB3 HG0 HO0 HS0 HU0 s0 s1
          go_wp2_with fail
          refine HC.out.mono ?_
          rintro e w5 ⟨st, cd_, er, ga, gn, gcc, ba2, bn, bcc, rfl, hst, -, S5, h5, t5⟩
          have HST := Lib.hid (hst rfl)
          have HG5 := Lib.hid (HG4.out.turn h5 t5)
          have T5 := Lib.hid t5
          have hobS : ¬ S wr.heap.size := fun e => by have := HG.out.go.inb.lt e; omega
          have hO5 := HO4.out.same t5.same hobS
          have hsbS : ¬ S (wr.heap.size + 1) := fun e => by have := HG.out.go.inb.lt e; omega
          have hS5 := HS4.out.same t5.same hsbS
          obtain ⟨W6, hW6⟩ : ∃ W6, W6 = w5.alloc (.cells #[.int .i64 st, .int .i64 cd_, .slice ga gn gcc, .slice ba2 bn bcc] 44) := ⟨_, rfl⟩
          have hB6 : Below w5.heap.size w5 W6 := hW6 ▸ (Below.refl _ _).alloc (Nat.le_refl _) _
          have hA6 : Blk W6 w5.heap.size 44 [.int .i64 st, .int .i64 cd_, .slice ga gn gcc, .slice ba2 bn bcc] := hW6 ▸ Blk.new w5 _ _
          have hO6 := hO5.later hB6
          have HO6 := Lib.hid hO6
          have HS6 := Lib.hid (hS5.later hB6)
          have HA6 := Lib.hid hA6
          have HG6 := Lib.hid (HG5.out.later hB6)
          have hbk : Booked (m.play ⟨1, ⟨ukind, uep, uses, path, idx, cnt, data, ucode, got⟩, oep, onum, ocode⟩) BK := by
            rw [IM.play, if_pos rfl]
            exact HD.out.take _
          have HBK := Lib.hid hbk
          have o0 := hO6.cell_some (i := 0) rfl
          rw [hW6] at o0
          have HW6 := Lib.hid hW6
          have hIS := HIS.out
          clear hst h5 t5 HC hobS hsbS hO5 hS5 hA6 hO6 hbk o1 o2 o3 o4 o5 o6 o7 o8 o9 o10 o11 o12 hB6 hW6
          cases IS with
          | false =>
            have hno : ¬ (uep, uses) ∈ m.C.map (·.1) := of_decide_eq_false hIS.symm
            have hno : ¬ m.is (uep, uses) := hno
            have hs5 : st ≠ 5 := HST.out.1 ▸ take_not hno
            have hsb : (st == 5) = false := by simpa using hs5
            have a0 := HA6.out.cell_some (i := 0) rfl
            rw [HW6.out] at a0
            clear hIS hno
            go_wp2_with fail
            rw [← HW6.out]
            go_roundw
            case rel => exact ⟨t + 1, S5, _, BK, by omega, by have := HLB.out; omega, by go_num, by rw [HLB.out]; exact HG6, HBK⟩
            case measure => simp [intOf]; omega
          | true =>
            have hyes : (uep, uses) ∈ m.C.map (·.1) := of_decide_eq_true hIS.symm
            have hyes : m.is (uep, uses) := hyes
            clear hIS
            have o1 := HO6.out.cell_some (i := 1) rfl
            have o2 := HO6.out.cell_some (i := 2) rfl
            have o3 := HO6.out.cell_some (i := 3) rfl
            have o4 := HO6.out.cell_some (i := 4) rfl
            have o5 := HO6.out.cell_some (i := 5) rfl
            have o6 := HO6.out.cell_some (i := 6) rfl
            have o7 := HO6.out.cell_some (i := 7) rfl
            have o8 := HO6.out.cell_some (i := 8) rfl
            have o9 := HO6.out.cell_some (i := 9) rfl
            rw [HW6.out] at o1 o2 o3 o4 o5 o6 o7 o8 o9
            have cd := fun W => rdata_any ⟨ukind, uep, uses, path, idx, cnt, data, ucode, got⟩ dp gp dc gc W
            by_cases hdat : UD.isData ⟨ukind, uep, uses, path, idx, cnt, data, ucode, got⟩
            · obtain ⟨c5, hc5, hst5, hcd5⟩ := take_is (u := ⟨ukind, uep, uses, path, idx, cnt, data, ucode, got⟩) HG.out.go.inb.inv hyes hdat
              have hlast := HD.out (uep, uses) c5 (lk_mem hc5)
              rw [decide_eq_true hdat] at cd
              have HCD := Lib.hid cd
              obtain rfl : st = 5 := HST.out.1.trans hst5
              obtain rfl : cd_ = c5 := HST.out.2.trans hcd5
              clear hyes cd hc5 hst5 hcd5
              go_wp2_with fail
              rw [← HW6.out]
              refine (HCD.out W6).mono ?_
              rintro e w7 ⟨rfl, hB7⟩
              have hA7 := HA6.out.later hB7
              have hS7 := HS6.out.later hB7
              have hO7 := HO6.out.later hB7
              have a0 := hA7.cell_some (i := 0) rfl
              have a1 := hA7.cell_some (i := 1) rfl
              have t0 := hS7.cell_some (i := 0) rfl
              have t1 := hS7.cell_some (i := 1) rfl
              have o0 := hO7.cell_some (i := 0) rfl
              have HG7 := Lib.hid (HG6.out.later hB7)
              have hwr := wrote_yes (.slice ba l bcap) BK (uep, uses) cd_ w7 (by rw [HLB.out]; exact Rd.of_own HG7.out.own) (by have := HLB.out; omega) hlast
              have HWR := Lib.hid hwr
              have HO7 := Lib.hid hO7
              clear hA7 hS7 hO7 hB7 o1 o2 o3 o4 o5 o6 o7 o8 o9 hwr hlast
              go_wp2_with fail
              refine HWR.out.mono ?_
              rintro e w8 ⟨rfl, hB8⟩
              have o0 := (HO7.out.later hB8).cell_some (i := 0) rfl
              have HG8 := Lib.hid (HG7.out.later hB8)
              clear hB8 HWR
              go_wp2_with fail
              go_roundw
              case rel => exact ⟨t + 1, S5, _, BK, by omega, by have := HLB.out; omega, by go_num, by rw [HLB.out]; exact HG8, HBK⟩
              case measure => simp [intOf]; omega
            · rw [decide_eq_false hdat] at cd
              have HCD := Lib.hid cd
              clear hyes cd
              go_wp2_with fail
              rw [← HW6.out]
              refine (HCD.out W6).mono ?_
              rintro e w7 ⟨rfl, hB7⟩
              have o0 := (HO6.out.later hB7).cell_some (i := 0) rfl
              have HG7 := Lib.hid (HG6.out.later hB7)
              clear hB7 o1 o2 o3 o4 o5 o6 o7 o8 o9
              go_wp2_with fail
              go_roundw
              case rel => exact ⟨t + 1, S5, _, BK, by omega, by have := HLB.out; omega, by go_num, by rw [HLB.out]; exact HG7, HBK⟩
              case measure => simp [intOf]; omega
      · have kb : (okind == 1) = false := by simpa using k1
        go_wp2_with fail
        obtain ⟨W0, hW0⟩ : ∃ W0, W0 = (wr.alloc (.cells #[.int .i64 okind, .int .i64 ukind, .int .u64 (uep.toNat : Int), .int .u64 (uses.toNat : Int), .int .i64 path, .int .i64 idx, .int .i64 cnt, .slice dp data.length dc, .int .i64 ucode, .slice gp got.length gc, .int .u64 (oep.toNat : Int), .int .u64 (onum.toNat : Int), .int .i64 ocode] 58)).alloc (.cells #[.int .u64 (oep.toNat : Int), .int .u64 (onum.toNat : Int)] 60) := ⟨_, rfl⟩
        rw [← hW0]
        have hB0 : Below wr.heap.size wr W0 := hW0 ▸ ((Below.refl _ _).alloc (Nat.le_refl _) _).alloc (by simp) _
        have hO : Blk W0 wr.heap.size 58 [.int .i64 okind, .int .i64 ukind, .int .u64 (uep.toNat : Int), .int .u64 (uses.toNat : Int), .int .i64 path, .int .i64 idx, .int .i64 cnt, .slice dp data.length dc, .int .i64 ucode, .slice gp got.length gc, .int .u64 (oep.toNat : Int), .int .u64 (onum.toNat : Int), .int .i64 ocode] := hW0 ▸ (Blk.new wr _ _).alloc _
        have hs : Blk W0 (wr.heap.size + 1) 60 [.int .u64 (oep.toNat : Int), .int .u64 (onum.toNat : Int)] := by
          have := Blk.new (wr.alloc (.cells #[.int .i64 okind, .int .i64 ukind, .int .u64 (uep.toNat : Int), .int .u64 (uses.toNat : Int), .int .i64 path, .int .i64 idx, .int .i64 cnt, .slice dp data.length dc, .int .i64 ucode, .slice gp got.length gc, .int .u64 (oep.toNat : Int), .int .u64 (onum.toNat : Int), .int .i64 ocode] 58)) 60 [.int .u64 (oep.toNat : Int), .int .u64 (onum.toNat : Int)]
          rw [show (wr.alloc (.cells #[.int .i64 okind, .int .i64 ukind, .int .u64 (uep.toNat : Int), .int .u64 (uses.toNat : Int), .int .i64 path, .int .i64 idx, .int .i64 cnt, .slice dp data.length dc, .int .i64 ucode, .slice gp got.length gc, .int .u64 (oep.toNat : Int), .int .u64 (onum.toNat : Int), .int .i64 ocode] 58)).heap.size = wr.heap.size + 1 by simp] at this
          exact hW0 ▸ this
        have hBd : Below W0.heap.size W0 W0.drew := (Below.refl _ _).drew
        have HG0 := Lib.hid ((HG.out.later hB0).later hBd); have HO0 := Lib.hid (hO.later hBd); have HS0 := Lib.hid (hs.later hBd); have HU0 := Lib.hid ((HU.out.later hB0).later hBd)
        have s0 := hs.cell_some (i := 0) rfl
        have s1 := hs.cell_some (i := 1) rfl
        have hcl : m.C.length ≤ 4097 := by have h1 := HG.out.go.inb.inv.lc; have h2 := HG.out.go.inb.inv.ms2; omega
        obtain ⟨IS, hIS⟩ : ∃ IS : Bool, IS = decide ((oep, onum) ∈ m.C.map (·.1)) := ⟨_, rfl⟩
        have HIS := Lib.hid hIS
        obtain ⟨M, hM⟩ : ∃ M, M = m.C.length := ⟨_, rfl⟩
        have HM := Lib.hid hM
        have HCL := Lib.hid hcl
        have ob : wr.heap.size < W0.heap.size := hO.lt
        clear hBd hB0 hO hs hW0 e0 e1 e2 e3 e4 e5 e6 e7 e8 e9 e10 e11 e12 hIS hM hcl
        go_region_law (first
          | (go_simp; go_at_call 21; refine (in_decided HG0.out.go.inb).mono ?_; rintro e w3 ⟨v1, rfl, ho1, hB3⟩; rw [← HM.out] at ho1; obtain ⟨a1, cap1, rfl, -⟩ := own_open ho1; have hs3 := HS0.out.later hB3; have s0 := hs3.cell_some (i := 0) rfl; have s1 := hs3.cell_some (i := 1) rfl; have HR3 := Lib.hid (Rd.of_own ho1); have HB3 := Lib.hid hB3; clear ho1 hs3 hB3)
          | (go_simp; go_at_call 20; have c := ihas_any (.slice a1 M cap1) (m.C.map (·.1)) (oep, onum) w3 (by rw [List.length_map, ← HM.out]; exact HR3.out) (by rw [List.length_map]; have := HCL.out; omega); rw [← HIS.out] at c; refine c.mono ?_; clear c; rintro e w4 ⟨rfl, hB4⟩; have HB4 := Lib.hid (below_trans HB3.out hB4); clear hB4 HR3)
          | fail)
        all_goals
          have hO4 := HO0.out.later HB4.out
          have o0 := hO4.cell_some (i := 0) rfl
          have o1 := hO4.cell_some (i := 1) rfl
          have o2 := hO4.cell_some (i := 2) rfl
          have o3 := hO4.cell_some (i := 3) rfl
          have o4 := hO4.cell_some (i := 4) rfl
          have o5 := hO4.cell_some (i := 5) rfl
          have o6 := hO4.cell_some (i := 6) rfl
          have o7 := hO4.cell_some (i := 7) rfl
          have o8 := hO4.cell_some (i := 8) rfl
          have o9 := hO4.cell_some (i := 9) rfl
          have o10 := hO4.cell_some (i := 10) rfl
          have o11 := hO4.cell_some (i := 11) rfl
          have o12 := hO4.cell_some (i := 12) rfl
          have HG4 := Lib.hid (HG0.out.later HB4.out); have HO4 := Lib.hid hO4; have HS4 := Lib.hid (HS0.out.later HB4.out); have HU4 := Lib.hid (HU0.out.later HB4.out)
          have c := HG4.out.go.does ⟨okind, ⟨ukind, uep, uses, path, idx, cnt, data, ucode, got⟩, oep, onum, ocode⟩ (dv := .slice dp data.length dc) (gv := .slice gp got.length gc) HU4.out HF1.out (by omega)
          simp only [opv] at c
          have HC := Lib.hid c
          clear c hO4 HB4 HB3 HG0 HO0 HS0 HU0 s0 s1
          go_wp2_with fail
          refine HC.out.mono ?_
          rintro e w5 ⟨st, cd_, er, ga, gn, gcc, ba2, bn, bcc, rfl, -, hst, S5, h5, t5⟩
          have HST := Lib.hid hst
          have HG5 := Lib.hid (HG4.out.turn h5 t5)
          have T5 := Lib.hid t5
          have hobS : ¬ S wr.heap.size := fun e => by have := HG.out.go.inb.lt e; omega
          have hO5 := HO4.out.same t5.same hobS
          have hsbS : ¬ S (wr.heap.size + 1) := fun e => by have := HG.out.go.inb.lt e; omega
          have hS5 := HS4.out.same t5.same hsbS
          obtain ⟨W6, hW6⟩ : ∃ W6, W6 = w5.alloc (.cells #[.int .i64 st, .int .i64 cd_, .slice ga gn gcc, .slice ba2 bn bcc] 44) := ⟨_, rfl⟩
          have hB6 : Below w5.heap.size w5 W6 := hW6 ▸ (Below.refl _ _).alloc (Nat.le_refl _) _
          have hA6 : Blk W6 w5.heap.size 44 [.int .i64 st, .int .i64 cd_, .slice ga gn gcc, .slice ba2 bn bcc] := hW6 ▸ Blk.new w5 _ _
          have hO6 := hO5.later hB6
          have HO6 := Lib.hid hO6
          have HS6 := Lib.hid (hS5.later hB6)
          have HA6 := Lib.hid hA6
          have HG6 := Lib.hid (HG5.out.later hB6)
          have o0 := hO6.cell_some (i := 0) rfl
          rw [hW6] at o0
          have HW6 := Lib.hid hW6
          have hIS := HIS.out
          have p12 := HO6.out.cell_some (i := 12) rfl
          have q0 := HS6.out.cell_some (i := 0) rfl
          have q1 := HS6.out.cell_some (i := 1) rfl
          clear hst h5 t5 HC hobS hsbS hO5 hS5 hA6 hO6  o1 o2 o3 o4 o5 o6 o7 o8 o9 o10 o11 o12 hB6 hW6
          by_cases k2 : okind = 2
          · subst k2
            have her : er = (m.dec (oep, onum) ocode).2 := HST.out rfl
            by_cases h0 : er = 0
            · have hd0 : (m.dec (oep, onum) ocode).2 = 0 := her.symm.trans h0
              have hno := dec_is hd0
              have hIS' : IS = false := hIS.trans (decide_eq_false hno)
              have hbk : Booked (m.play ⟨2, ⟨ukind, uep, uses, path, idx, cnt, data, ucode, got⟩, oep, onum, ocode⟩) (BK ++ [((oep, onum), ocode)]) := by
                have := HD.out.dec (oep, onum) ocode hd0
                rw [IM.play, if_neg (show ¬ (2 : Int) = 1 by decide), if_pos rfl]
                exact this
              have HBK := Lib.hid hbk
              rw [HW6.out] at p12 q0 q1
              subst hIS'
              subst h0
              have hown := HG6.out.own
              rw [← HLB.out] at hown
              have hbase := HG6.out.go.below.size
              have hb24 : (l + 1) * 24 ≤ 140737488355328 := by omega
              clear hIS her hd0 hno hbk
              have HG6a := HG6.out
              have HBS := hbase
              rw [HW6.out] at hown hbase HG6a
              rw [← HLB.out] at HG6a
              have HG6b := Lib.hid HG6a
              have hsz : (w5.alloc (.cells #[.int .i64 st, .int .i64 cd_, .slice ga gn gcc, .slice ba2 bn bcc] 44)).heap.size = w5.heap.size + 1 := by simp
              have HSZ := Lib.hid hsz
              clear hsz
              clear HG6a HBS
              go_wp2_with (at_builtin; go_loud (refine wpList_app1 El.code rfl (.tmp 115) (.tmp 120) rfl hown rfl (cs := #[.int .u64 (oep.toNat : Int), .int .u64 (onum.toNat : Int), .int .i64 ocode]) (by rw [HSZ.out]; rfl) rfl (by simp [Value.oneCell']) hb24 hbase ?_); intro v7 w7 hown7 hgr7 hN7; clear hN7; go_loud (have h7 := once_add (v' := v7) HG6b.out (s := (oep, onum)) (c := ocode) (HLB.out ▸ hown7) hgr7); have HG7 := Lib.hid h7; clear hown7 hgr7 h7)
              go_roundw
              case rel => exact ⟨t + 1, S5, _, BK ++ [((oep, onum), ocode)], by omega, by rw [List.length_append]; have := HLB.out; simp; omega, by go_num, HG7, HBK⟩
              case measure => simp [intOf]; omega
            · have hbk : Booked (m.play ⟨2, ⟨ukind, uep, uses, path, idx, cnt, data, ucode, got⟩, oep, onum, ocode⟩) BK := booked_else HD.out ⟨2, ⟨ukind, uep, uses, path, idx, cnt, data, ucode, got⟩, oep, onum, ocode⟩ (show ¬ (2 : Int) = 1 by decide) fun _ => her ▸ h0
              have HBK := Lib.hid hbk
              have hb0 : (er == 0) = false := by simpa using h0
              clear hIS her hbk p12 q0 q1
              go_wp2_with fail
              rw [← HW6.out]
              go_roundw
              case rel => exact ⟨t + 1, S5, _, BK, by omega, by have := HLB.out; omega, by go_num, by rw [HLB.out]; exact HG6, HBK⟩
              case measure => simp [intOf]; omega
          · have hbk : Booked (m.play ⟨okind, ⟨ukind, uep, uses, path, idx, cnt, data, ucode, got⟩, oep, onum, ocode⟩) BK := booked_else HD.out ⟨okind, ⟨ukind, uep, uses, path, idx, cnt, data, ucode, got⟩, oep, onum, ocode⟩ k1 fun e => absurd e k2
            have HBK := Lib.hid hbk
            have kb2 : (okind == 2) = false := by simpa using k2
            clear hIS hbk p12 q0 q1
            go_wp2_with fail
            rw [← HW6.out]
            go_roundw
            case rel => exact ⟨t + 1, S5, _, BK, by omega, by have := HLB.out; omega, by go_num, by rw [HLB.out]; exact HG6, HBK⟩
            case measure => simp [intOf]; omega
    · obtain rfl : t = n := by omega
      go_wp2_with fail
      go_ret
      exact ⟨rfl, HG.out.go.below⟩
theorem ionce_walk (W : World) (v0 : Int) (x0 : Int) (h0 : cInt.rep W [.int .i64 v0] x0) (v1 : Int) (x1 : Int) (h1 : cInt.rep W [.int .i64 v1] x1) (v2 : Value) (x2) (h2 : cOpsI.rep W [v2] x2) :
    Calls Try.prog 6 #[.int .i64 v0, .int .i64 v1, v2] W fun e w' => e = .returned (.bool true) ∧ Below W.heap.size W w' := ionce_in v0 v1 v2 _ W (cOpsI_rd h2)
end Go.Proofs.Ytfaemjlemaclbaa
