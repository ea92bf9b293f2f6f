/- CutterBack returns true, for every block, every length and every order. -/
import Derived.Test.YtgnbnkoanoalhaaBackLaw
import Derived.Deep.DeepCutAuto
namespace Go.Proofs.Ytgnbnkoanoalhaa
set_option linter.unusedVariables false
set_option linter.unusedSimpArgs false
open Go.RowKit

set_option maxHeartbeats 1000000 in
set_option maxRecDepth 100000 in
theorem back_no (v vo : Value) (l : List UInt8) (mtu : Int) (w : World) (hl : l.length ≤ 140737488351232) (hr : Bs w v l) (he : cutErr l.length mtu ≠ 0) :
    Calls Try.prog 6 #[v, .int .i64 mtu, vo] w fun e w' => e = .returned (.bool true) ∧ Below w.heap.size w w' := by
  go_enter Try.func6, Try.ntmps6
  go_wp2_with fail
  refine (cuts_no v l mtu _ hr he (by omega)).mono ?_
  rintro e w1 ⟨⟨a, rfl⟩, rfl⟩
  go_wp2_with fail
  refine (cut_any v l mtu _ hr (by omega)).mono ?_
  rintro e w1 ⟨v1, rfl, ⟨vs, h0, _⟩, hB1⟩
  have hc : cutOf l mtu = [] := by simp [cutOf, he]
  rw [hc] at h0
  have hv : ∃ ao c, v1 = Value.slice ao 0 c := by
    rcases h0.2 with ⟨h, _⟩ | ⟨g, c, _, h, _⟩
    · exact ⟨_, _, h⟩
    · exact ⟨_, _, h⟩
  obtain ⟨ao, c, rfl⟩ := hv
  have hne : ((cutErr l.length mtu) != 0) = true := by simpa using he
  clear he hc h0
  go_wp2_with fail
  refine (num_any _ _).mono ?_
  rintro e _ ⟨rfl, rfl⟩
  go_wp2_with fail
  go_ret
  exact ⟨rfl, hB1⟩

set_option maxHeartbeats 16000000 in
set_option maxRecDepth 100000 in
theorem back_yes (v vo : Value) (l : List UInt8) (os : List Int) (m k : Nat) (w : World) (hr : Bs w v l) (ho : Rd w vo os.length (os.map (Value.int .i64))) (hol : os.length ≤ 140737488355328)
    (hcut : Cuts l.length m k) (hk : k = (l.length + m - 1) / m) (he : cutErr l.length m = 0) :
    Calls Try.prog 6 #[v, .int .i64 m, vo] w fun e w' => e = .returned (.bool true) ∧ Below w.heap.size w w' := by
  have hpc : cutOf l (m : Int) = pieces m l k := by simp [cutOf, he, hk]
  obtain ⟨oap, ocap, rfl, ho1, ho2⟩ := ho
  have ho := And.intro trivial ho2.2
  have hk0 := hcut.k0; have hk1 := hcut.k1; have hm0 := hcut.m0; have hm1 := hcut.m1; have hn1 := hcut.n1
  have HK := Lib.hid hk; clear hk
  have hpl : (pieces m l k).length = k := by simp [pieces]
  go_enter Try.func6, Try.ntmps6
  go_wp2_with fail
  refine (cuts_yes v l m k _ hr hcut HK.out).mono ?_
  rintro e w1 ⟨rfl, rfl⟩
  go_wp2_with fail
  refine (cut_any v l m _ hr (by omega)).mono ?_
  rintro e w1 ⟨v1, rfl, hp1, hB1⟩
  rw [he]
  rw [hpc] at hp1
  clear he hpc
  obtain ⟨vs, h0, hin, hne⟩ := hp1
  rw [hpl] at h0
  have hvl : vs.length = k := by simpa using h0.1
  obtain ⟨gp, cp, rfl, _, _⟩ := h0.form (by omega)
  have HVL := Lib.hid hvl; have HPL := Lib.hid hpl; clear hvl hpl
  go_wp2_with fail
  refine (new_yes k _ hk0 hk1).mono ?_
  rintro e w2 ⟨rfl, hb2, hB2⟩
  obtain ⟨g, hg⟩ : ∃ g, g = w1.heap.size := ⟨_, rfl⟩
  rw [← hg] at hb2 ⊢
  have HG := Lib.hid hg; clear hg
  have hkk : ((k : Int) != (k : Int)) = false := by simp
  go_wp2_with fail
  refine (num_any _ _).mono ?_
  rintro e _ ⟨rfl, rfl⟩
  go_wp2_with fail
  refine (num_any _ _).mono ?_
  rintro e _ ⟨rfl, rfl⟩
  go_wp2_with (refine wpList_mk1 El.bool_ rfl rfl _ _ rfl k rfl rfl rfl rfl (by omega) (by simp only [maxLen]; omega) ?_)
  go_loopw [14, 15] (fun lv i wr => ∃ (t : Nat) (H : Nat → Bool), t ≤ os.length + k ∧ i = .int .i64 t ∧ lv = .int .i64 (left k H) ∧ (BoxS.ofH k m l H).at wr g ∧ Blk wr w2.heap.size 4 (haveC k H) ∧ Same (at1 g) w2 wr ∧
      (∀ j, j < k → j + os.length < t → H j = true)) (fun _ i _ => os.length + k - (intOf i).toNat)
  case atStart =>
    refine ⟨0, fun _ => false, Nat.zero_le _, rfl, ?_, ?_, ?_, (Same.refl _ _).alloc _, fun j _ h => by omega⟩
    · rw [left_none]
    · rw [ofH_none]; exact BoxAt.later hb2 ((Below.refl _ _).alloc (Nat.le_refl _) _)
    · rw [haveC_none]; exact Blk.rep _ _ _ _
  case round =>
    obtain ⟨t, H, ht, rfl, rfl, hb, hkb, hS, hdone⟩ := hrel
    have hgw : g < w2.heap.size := hb2.blk.lt
    have hlow := hB1.size
    have hgg : w1.heap.size ≤ g := Nat.le_of_eq HG.out.symm
    have hng : ¬ at1 g w2.heap.size := fun h => by simp only [at1] at h; omega
    have hBr : Below w1.heap.size w1 wr := hB2.trans (hS.belowB fun i hi => ⟨Nat.lt_of_lt_of_le hi hB2.size, fun h => by simp only [at1] at h; omega⟩)
    have hBw : Below w.heap.size w wr := hB1.trans (hBr.mono hlow)
    have hrw := hr.later hBw
    obtain ⟨vp, vn, vc, rfl⟩ : ∃ xp xn xc, v = .slice xp xn xc := by obtain ⟨a, c, h, _⟩ := hr; exact ⟨_, _, _, h⟩
    obtain ⟨lf, hlf⟩ : ∃ lf, lf = left k H := ⟨_, rfl⟩
    rw [← hlf]
    have hll : lf ≤ k := hlf ▸ left_le
    have HLF := Lib.hid hlf; clear hlf
    by_cases hte : t < os.length + k
    · go_upto_if 87 with (fail)
      go_cut [16] (fun s wx => ∃ a : Nat, a < k ∧ s = .int .i64 a ∧ wr = wx ∧ Hid (os.length ≤ t → t = os.length + a))
      case first =>
        by_cases hto : t < os.length
        · obtain ⟨a, haa, hE, hr1, hr2⟩ := backRem os[t] k hk0
          obtain ⟨ob, oo, rfl, hoc⟩ := (ho.2 (by intro h; simp at h; subst h; simp at hto))
          have hot : (os.map (Value.int .i64))[t]? = some (.int .i64 os[t]) := by simp [hto]
          have et : wr.cell? ⟨ob, oo + t, none⟩ = some (.int .i64 os[t]) := below_cell hBw (hoc t _ hot) (World.block_lt_of_cell? _ _ (hoc t _ hot))
          clear hot hoc
          go_wp2_with fail
          go_meet
          exact ⟨a, haa, by rw [hE], rfl, fun h => by omega⟩
        · have hab : ∃ a : Nat, a < k ∧ (t : Int) - os.length = a ∧ t = os.length + a := ⟨t - os.length, by omega, by omega, by omega⟩
          obtain ⟨a, haa, hE, hta⟩ := hab
          have HTA := Lib.hid hta; clear hta
          go_wp2_with fail
          go_meet
          exact ⟨a, haa, by rw [hE], rfl, fun _ => HTA.out⟩
      case rest =>
        obtain ⟨a, haa, rfl, rfl, HTA⟩ := hcut
        have HD := Lib.hid hdone; clear hdone
        have hxp := piece_pos hcut haa
        obtain ⟨x, hx⟩ : ∃ x, vs[a]? = some x := ⟨_, List.getElem?_eq_getElem (by rw [HVL.out]; exact haa)⟩
        have hxo := own_later (hin a x (piece m l a) hx (by rw [pieces, List.getElem?_map, List.getElem?_range haa]; rfl)) hBr
        have hcx : wr.cell? ⟨gp, a, none⟩ = some x := ((own_later h0 hBr).cellAt a (by omega)).trans hx
        obtain ⟨gx, cx, rfl, _, _⟩ := hxo.form (by omega)
        have hres := ofH_err (H := H) hcut haa
        have hnext := ofH_put (H := H) hcut haa
        have hia : (a : Int) < (k : Int) := by omega
        have HN := Lib.hid hnext; have HX := Lib.hid hx
        clear hx hnext hin hne h0
        rcases all_or (k := k) H with hall | hsome
        · have hHa := hall a haa
          rw [hHa, if_pos rfl] at hres
          have hl0 : ((lf : Int) == 0) = true := by have := left_zero hall; have := HLF.out; rw [beq_iff_eq]; omega
          have HA := Lib.hid hHa; have HRES := Lib.hid hres; clear hHa hres
          go_wp2_with fail
          refine (wholeH_yes g k m l H _ hb hcut hall).mono ?_
          rintro e w5 ⟨v5, rfl, hown, hB5⟩
          obtain ⟨g5, c5, rfl, _, _⟩ := hown.form (by have := hcut.lo; omega)
          have k5 := run_str8 (Bs.of_own hown) (W := w5) rfl
          have kb := run_str8 (hrw.later hB5) (W := w5) rfl
          have hb5 := at_later hb hB5
          have hx5 := own_later hxo hB5
          have hcx5 : w5.cell? ⟨gp, a, none⟩ = some (.slice (some ⟨gx, 0, none⟩) (piece m l a).length cx) := below_cell hB5 hcx (World.block_lt_of_cell? _ _ hcx)
          go_wp2_with fail
          refine (put_any g (BoxS.ofH k m l H) (a : Int) _ (piece m l a) _ hb5 (Bs.of_own hx5) (ofH_fine hcut)).mono ?_
          rintro e w6 ⟨rfl, hb6, hS6⟩
          rw [HN.out] at hb6
          simp only [BoxS.ofH]
          rw [HRES.out]
          have hk6 := (hkb.later hB5).same hS6 hng
          have e6 := hk6.cell_some (haveC_at (H := H) haa)
          rw [HA.out] at e6
          have f6 := hk6.frozen a
          go_wp2_with (go_at_call 16; refine (num_any _ _).mono ?_; rintro e _ ⟨rfl, rfl⟩)
          have hS7 := ((hS.trans (Same.of_below hB5 no) (fun _ _ h => h.elim)).trans hS6 (fun _ _ h => h)).setCell (p := ⟨w2.heap.size, a, none⟩) (fun h => absurd h (Nat.lt_irrefl _)) (.bool true)
          have hk7 := hk6.set a (.bool true)
          rw [haveC_set] at hk7
          have hb7 : (BoxS.ofH k m l (addH H a)).at (w6.setCell ⟨w2.heap.size, a, none⟩ (.bool true)) g := at_same hb6 ((Same.refl (at1 w2.heap.size) _).setCell (p := ⟨w2.heap.size, a, none⟩) (fun _ => rfl) _) (fun h => hng h.symm)
          clear hb hb5 hb6 hk6 hkb hxo hx5 hS6 hS
          go_roundw
          case rel => exact ⟨t + 1, addH H a, by omega, by go_num, by rw [addH_same HA.out]; exact HLF.out ▸ rfl, hb7, hk7, hS7, done_next HD.out HTA.out⟩
          case measure => simp [intOf]; omega
        · have hl0 : ((lf : Int) == 0) = false := by have := left_pos hsome; have := HLF.out; rw [beq_eq_false_iff_ne]; omega
          cases hHa : H a with
          | true =>
            rw [hHa, if_pos rfl] at hres
            have HA := Lib.hid hHa; have HRES := Lib.hid hres; clear hHa hres
            go_wp2_with fail
            refine (wholeH_no g k m l H _ hb hcut hsome).mono ?_
            rintro e w5 ⟨rfl, hB5⟩
            have hb5 := at_later hb hB5
            have hx5 := own_later hxo hB5
            have hcx5 : w5.cell? ⟨gp, a, none⟩ = some (.slice (some ⟨gx, 0, none⟩) (piece m l a).length cx) := below_cell hB5 hcx (World.block_lt_of_cell? _ _ hcx)
            go_wp2_with fail
            refine (put_any g (BoxS.ofH k m l H) (a : Int) _ (piece m l a) _ hb5 (Bs.of_own hx5) (ofH_fine hcut)).mono ?_
            rintro e w6 ⟨rfl, hb6, hS6⟩
            rw [HN.out] at hb6
            simp only [BoxS.ofH]
            rw [HRES.out]
            have hk6 := (hkb.later hB5).same hS6 hng
            have e6 := hk6.cell_some (haveC_at (H := H) haa)
            rw [HA.out] at e6
            have f6 := hk6.frozen a
            go_wp2_with (go_at_call 16; refine (num_any _ _).mono ?_; rintro e _ ⟨rfl, rfl⟩)
            have hS7 := ((hS.trans (Same.of_below hB5 no) (fun _ _ h => h.elim)).trans hS6 (fun _ _ h => h)).setCell (p := ⟨w2.heap.size, a, none⟩) (fun h => absurd h (Nat.lt_irrefl _)) (.bool true)
            have hk7 := hk6.set a (.bool true)
            rw [haveC_set] at hk7
            have hb7 : (BoxS.ofH k m l (addH H a)).at (w6.setCell ⟨w2.heap.size, a, none⟩ (.bool true)) g := at_same hb6 ((Same.refl (at1 w2.heap.size) _).setCell (p := ⟨w2.heap.size, a, none⟩) (fun _ => rfl) _) (fun h => hng h.symm)
            clear hb hb5 hb6 hk6 hkb hxo hx5 hS6 hS
            go_roundw
            case rel => exact ⟨t + 1, addH H a, by omega, by go_num, by rw [addH_same HA.out]; exact HLF.out ▸ rfl, hb7, hk7, hS7, done_next HD.out HTA.out⟩
            case measure => simp [intOf]; omega
          | false =>
            rw [hHa, if_neg (by decide)] at hres
            have HA := Lib.hid hHa; have HRES := Lib.hid hres; clear hHa hres
            have hlp : 1 ≤ lf := by have := left_pos hsome; have := HLF.out; omega
            go_wp2_with fail
            refine (wholeH_no g k m l H _ hb hcut hsome).mono ?_
            rintro e w5 ⟨rfl, hB5⟩
            have hb5 := at_later hb hB5
            have hx5 := own_later hxo hB5
            have hcx5 : w5.cell? ⟨gp, a, none⟩ = some (.slice (some ⟨gx, 0, none⟩) (piece m l a).length cx) := below_cell hB5 hcx (World.block_lt_of_cell? _ _ hcx)
            go_wp2_with fail
            refine (put_any g (BoxS.ofH k m l H) (a : Int) _ (piece m l a) _ hb5 (Bs.of_own hx5) (ofH_fine hcut)).mono ?_
            rintro e w6 ⟨rfl, hb6, hS6⟩
            rw [HN.out] at hb6
            simp only [BoxS.ofH]
            rw [HRES.out]
            have hk6 := (hkb.later hB5).same hS6 hng
            have e6 := hk6.cell_some (haveC_at (H := H) haa)
            rw [HA.out] at e6
            have f6 := hk6.frozen a
            go_wp2_with (go_at_call 16; refine (num_any _ _).mono ?_; rintro e _ ⟨rfl, rfl⟩)
            have hS7 := ((hS.trans (Same.of_below hB5 no) (fun _ _ h => h.elim)).trans hS6 (fun _ _ h => h)).setCell (p := ⟨w2.heap.size, a, none⟩) (fun h => absurd h (Nat.lt_irrefl _)) (.bool true)
            have hk7 := hk6.set a (.bool true)
            rw [haveC_set] at hk7
            have hb7 : (BoxS.ofH k m l (addH H a)).at (w6.setCell ⟨w2.heap.size, a, none⟩ (.bool true)) g := at_same hb6 ((Same.refl (at1 w2.heap.size) _).setCell (p := ⟨w2.heap.size, a, none⟩) (fun _ => rfl) _) (fun h => hng h.symm)
            clear hb hb5 hb6 hk6 hkb hxo hx5 hS6 hS
            go_roundw
            case rel => exact ⟨t + 1, addH H a, by omega, by go_num, by have := left_add haa HA.out; have := HLF.out; refine congrArg (Value.int IntKind.i64) ?_; omega, hb7, hk7, hS7, done_next HD.out HTA.out⟩
            case measure => simp [intOf]; omega
    · have hall : ∀ i, i < k → H i = true := fun i hi => hdone i hi (by omega)
      go_wp2_with fail
      refine (wholeH_yes g k m l H _ hb hcut hall).mono ?_
      rintro e w5 ⟨v5, rfl, hown, hB5⟩
      obtain ⟨g5, c5, rfl, _, _⟩ := hown.form (by have := hcut.lo; omega)
      have hb5 := at_later hb hB5
      go_wp2_with fail
      have hlk : lenH k m H = if 1 < k then m else 0 := by
        unfold lenH
        by_cases h1 : 1 < k
        · rw [if_pos h1, if_pos]
          simp only [List.any_eq_true, List.mem_range]
          exact ⟨0, by omega, hall 0 (by omega)⟩
        · rw [if_neg h1, if_neg]
          simp only [List.any_eq_true, List.mem_range]
          rintro ⟨x, hx, _⟩
          omega
      by_cases h1k : 1 < k
      · have hLH : lenH k m H = m := by rw [hlk, if_pos h1k]
        clear hlk
        refine (length_any g k (lenH k m H) (psH m l k H) _ hb5).mono ?_
        rintro e _ ⟨rfl, n6, rfl⟩
        rw [hLH]
        have k5 := fun n => run_str8 (Bs.of_own hown) (W := w5.drewN n) rfl
        have kb := fun n => run_str8 (hrw.later hB5) (W := w5.drewN n) rfl
        have hBz := below_drewN (hBw.trans (hB5.mono hBw.size)) n6
        have hbz := BoxAt.drewN hb5 n6
        have d1 : decide (0 < m) = true := by simp; omega
        have d2 : decide (1 < k) = true := by simp; omega
        have d3 : decide ((1 : Int) < (k : Int)) = true := by simp; omega
        have hst := str_beq_yes (a := l) rfl
        have hkk2 : ((k : Int) == (k : Int)) = true := by simp
        have hmm : ((m : Int) == (m : Int)) = true := by simp
        clear hLH hown hb hkb hdone hall
        go_wp2_with (go_at_call 25; refine (count_any g k (lenH k m H) (psH m l k H) _ hbz).mono ?_; rintro e _ ⟨rfl, rfl⟩)
        go_ret
        exact ⟨rfl, hBz⟩
      · have hLH : lenH k m H = 0 := by rw [hlk, if_neg h1k]
        clear hlk
        refine (length_any g k (lenH k m H) (psH m l k H) _ hb5).mono ?_
        rintro e _ ⟨rfl, n6, rfl⟩
        rw [hLH]
        have k5 := fun n => run_str8 (Bs.of_own hown) (W := w5.drewN n) rfl
        have kb := fun n => run_str8 (hrw.later hB5) (W := w5.drewN n) rfl
        have hBz := below_drewN (hBw.trans (hB5.mono hBw.size)) n6
        have hbz := BoxAt.drewN hb5 n6
        have d2 : decide (1 < k) = false := by simp; omega
        have d3 : decide ((1 : Int) < (k : Int)) = false := by simp; omega
        have hst := str_beq_yes (a := l) rfl
        have hkk2 : ((k : Int) == (k : Int)) = true := by simp
        have hmm : ((m : Int) == (m : Int)) = true := by simp
        clear hLH hown hb hkb hdone hall
        go_wp2_with (go_at_call 25; refine (count_any g k (lenH k m H) (psH m l k H) _ hbz).mono ?_; rintro e _ ⟨rfl, rfl⟩)
        go_ret
        exact ⟨rfl, hBz⟩
theorem backLaw (W : World) (v0 : Value) (l : List UInt8) (h0 : cBytes.rep W [v0] l) (v1 : Value) (n : Int) (h1 : cInt.rep W [v1] n) (v2 : Value) (os : List Int) (h2 : cInts.rep W [v2] os) :
    Calls Try.prog 6 #[v0, v1, v2] W fun e w' => e = .returned (.bool true) ∧ Below W.heap.size W w' := by
  obtain ⟨hb, hl⟩ := cBytes_bs h0
  obtain ⟨h1, _⟩ := h1
  simp only [List.cons.injEq, and_true] at h1
  subst h1
  obtain ⟨hr, hol⟩ := cInts_rd h2
  by_cases he : cutErr l.length n = 0
  · obtain ⟨m, rfl⟩ := Int.eq_ofNat_of_zero_le (show 0 ≤ n by have := cutErr_zero he; omega)
    obtain ⟨a, b, c, d, e, _⟩ := cutErr_zero_nat he
    exact back_yes v0 v2 l os m _ W hb hr (by omega) (cuts_of a b c d e) rfl he
  · exact back_no v0 v2 l n W hl hb he
end Go.Proofs.Ytgnbnkoanoalhaa
