/- CutterWhole returns true. -/
import Derived.Test.YtgnbnkoanoalhaaSmall
import Derived.Test.YtgnbnkoanoalhaaGood
import Derived.Test.YtgnbnkoanoalhaaScript
import Derived.Deep.RegionLaw
namespace Go.Proofs.Ytgnbnkoanoalhaa
set_option linter.unusedVariables false
set_option linter.unusedSimpArgs false
open Go.RowKit

theorem putErr_zero {b : BoxS} {index : Int} {seg : List UInt8} (h : putErr b.cnt b.len b.ps index seg = 0) :
    ∃ i : Nat, index = i ∧ i < b.cnt ∧ 1 ≤ seg.length ∧ seg.length ≤ 1024 ∧ b.ps.getD i [] = [] ∧ b.put index seg = ⟨b.cnt, putLen b.cnt b.len i seg.length, b.ps.set i seg⟩ := by
  by_cases hc : index < 0 ∨ (b.cnt : Int) ≤ index ∨ seg.length = 0 ∨ 1024 < seg.length
  · rw [putErr_arg hc] at h; omega
  obtain ⟨i, rfl⟩ := Int.eq_ofNat_of_zero_le (show 0 ≤ index by omega)
  have h0 := h
  rw [putErr_in hc, Int.toNat_natCast] at h0
  refine ⟨i, rfl, by omega, by omega, by omega, ?_, by rw [BoxS.put, if_pos h, Int.toNat_natCast]⟩
  unfold putIn at h0
  split at h0
  · omega
  split at h0
  · omega
  next h2 => exact Classical.not_not.1 h2

set_option maxHeartbeats 1000000 in
set_option maxRecDepth 100000 in
theorem whole_out (x : Value) (s : ScriptD) (w : World) (hc : s.count < 1 ∨ 64 < s.count) :
    Calls Try.prog 5 #[.agg #[.int .i64 s.count, x]] w fun e w' => e = .returned (.bool true) ∧ Below w.heap.size w w' := by
  obtain ⟨cnt, ops⟩ := s
  simp only at hc ⊢
  have hB0 : Below w.heap.size w (w.alloc (.cells #[.int .i64 cnt, x] 37)) := (Below.refl _ _).alloc (Nat.le_refl _) _
  have hpn : ∀ W : World, (binOp .eql 38 (.pointer none) (.pointer none)).run Try.prog W = .ok (.bool true) W := fun _ => by kernel_rfl
  by_cases h1 : cnt < 1
  · clear hc
    go_enter Try.func5, Try.ntmps5
    go_wp2_with fail
    refine (new_no cnt _ (.inl h1)).mono ?_
    rintro e w1 ⟨rfl, rfl⟩
    go_wp2_with fail
    refine (num_any _ _).mono ?_
    rintro e _ ⟨rfl, rfl⟩
    go_wp2_with fail
    go_ret
    exact ⟨rfl, hB0⟩
  · have h2 : 64 < cnt := by omega
    clear hc
    go_enter Try.func5, Try.ntmps5
    go_wp2_with fail
    refine (new_no cnt _ (.inr h2)).mono ?_
    rintro e w1 ⟨rfl, rfl⟩
    go_wp2_with fail
    refine (num_any _ _).mono ?_
    rintro e _ ⟨rfl, rfl⟩
    go_wp2_with fail
    go_ret
    exact ⟨rfl, hB0⟩

def SegsAt (w : World) (base gs n : Nat) (ps : List (List UInt8)) : Prop :=
  ∃ hv : List Value, hv.length = n ∧ Blk w gs 22 hv ∧ ∀ j y, hv[j]? = some y → w.ownsRow base 5 1 y (ps.getD j []).length ((ps.getD j []).map ub)

theorem SegsAt.box {b : BoxS} {w w' : World} {g base gs n : Nat} {ps : List (List UInt8)} (h : SegsAt w base gs n ps) (hb : b.at w g) (hS : Same (at1 g) w w') : SegsAt w' base gs n ps := by
  obtain ⟨hv, h1, h2, h3⟩ := h
  have hk := BoxAt.blk hb
  exact ⟨hv, h1, h2.same hS (fun e => Blk.ne h2 hk (by decide) e), fun j y hy => own_same (h3 j y hy) hS (fun b e he => own_blk_ne (h3 j y hy) hk (by decide) (by rw [e, he]))⟩
theorem SegsAt.later {w w' : World} {base gs n : Nat} {ps : List (List UInt8)} (h : SegsAt w base gs n ps) (hB : Below w.heap.size w w') : SegsAt w' base gs n ps := by
  obtain ⟨hv, h1, h2, h3⟩ := h
  exact ⟨hv, h1, h2.later hB, fun j y hy => own_later (h3 j y hy) hB⟩
theorem segs_put {w w8 : World} {base base' gs n i : Nat} {ps : List (List UInt8)} {v8 : Value} {sg : List UInt8} (h : SegsAt w base gs n ps) (hB : Below w.heap.size w w8)
    (hown : w8.ownsRow base' 5 1 v8 sg.length (sg.map ub)) (hbb : base ≤ base') (hi : i < ps.length) : SegsAt (w8.setCell ⟨gs, i, none⟩ v8) base gs n (ps.set i sg) := by
  obtain ⟨hv, h1, h2, h3⟩ := h.later hB
  have keep : ∀ {b m : Nat} {y : Value} {xs : List Value}, w8.ownsRow b 5 1 y m xs → (w8.setCell ⟨gs, i, none⟩ v8).ownsRow b 5 1 y m xs := fun ho =>
    own_same ho ((Same.refl (at1 gs) w8).setCell (p := ⟨gs, i, none⟩) (fun _ => rfl) v8) (fun b e he => own_blk_ne ho h2 (by decide) (by rw [e, he]))
  refine ⟨hv.set i v8, by simp [h1], h2.set i v8, fun j y hy => ?_⟩
  rw [getD_set _ _ _ _ _ hi]
  rw [List.getElem?_set] at hy
  by_cases hji : i = j
  · subst hji
    rw [if_pos rfl]
    rw [if_pos rfl] at hy
    split at hy
    · injection hy with hy
      subst hy
      exact own_mono (keep hown) hbb
    · cases hy
  · rw [if_neg hji] at hy
    rw [if_neg (fun e => hji e.symm)]
    exact keep (h3 j y hy)

theorem SegsAt.bss {w : World} {base gs n : Nat} {ps : List (List UInt8)} (h : SegsAt w base gs n ps) (hn : n ≤ ps.length) (hm : n ≤ maxLen) : Bss w (.slice (some ⟨gs, 0, none⟩) n n) (ps.take n) := by
  obtain ⟨hv, h1, h2, h3⟩ := h
  have hl : (ps.take n).length = n := by rw [List.length_take]; omega
  refine ⟨hv, by rw [hl, h1], by rw [hl]; exact Rd.mk (Nat.le_refl _) hm fun j u hu => by rw [Nat.zero_add]; exact h2.cell_some hu, fun i x l hx hl => ?_⟩
  have := Rd.of_own (h3 i x hx)
  rw [List.getElem?_take] at hl
  split at hl
  · rw [List.getD_eq_getElem?_getD, hl] at this
    exact this
  · cases hl

def allNe (ps : List (List UInt8)) (k : Nat) : Bool := (ps.take k).all fun p => decide (0 < p.length)
theorem allNe_succ (ps : List (List UInt8)) (k : Nat) (h : k < ps.length) : allNe ps (k + 1) = (allNe ps k && decide (0 < (ps.getD k []).length)) := by
  unfold allNe
  rw [List.take_succ_eq_append_getElem h, List.all_append, List.getD_eq_getElem?_getD, List.getElem?_eq_getElem h]
  simp
theorem allNe_yes {ps : List (List UInt8)} {k : Nat} (h : allNe ps k = true) : ∀ i, i < k → i < ps.length → ps.getD i [] ≠ [] := by
  intro i hi hl he
  unfold allNe at h
  rw [List.all_eq_true] at h
  have := h ps[i] (by rw [List.mem_take_iff_getElem]; exact ⟨i, by omega, rfl⟩)
  rw [List.getD_eq_getElem?_getD, List.getElem?_eq_getElem hl] at he
  simp at he
  simp [he] at this
theorem allNe_no {ps : List (List UInt8)} : ∀ {k : Nat}, k ≤ ps.length → allNe ps k = false → ∃ j, j < k ∧ ps.getD j [] = [] ∧ ∀ i, i < j → ps.getD i [] ≠ [] := by
  intro k
  induction k with
  | zero => intro _ h; simp [allNe] at h
  | succ k ih =>
    intro hl h
    cases hk : allNe ps k with
    | false =>
      obtain ⟨j, h1, h2, h3⟩ := ih (by omega) hk
      exact ⟨j, by omega, h2, h3⟩
    | true =>
      rw [allNe_succ ps k (by omega), hk] at h
      refine ⟨k, by omega, ?_, fun i hi => allNe_yes hk i hi (by omega)⟩
      simp at h
      simpa [List.getD_eq_getElem?_getD] using h

set_option maxHeartbeats 4000000 in
set_option maxRecDepth 100000 in
theorem whole_in (x : Value) (n : Nat) (ops : List OpD) (w : World) (hx : OpsRd w x ops) (h1 : 1 ≤ n) (h2 : n ≤ 64) :
    Calls Try.prog 5 #[.agg #[.int .i64 n, x]] w fun e w' => e = .returned (.bool true) ∧ Below w.heap.size w w' := by
  obtain ⟨oap, ocap, rfl, hol, ho⟩ := id hx
  obtain ⟨wa, hwa⟩ : ∃ wa, wa = w.alloc (.cells #[.int .i64 n, .slice oap ops.length ocap] 37) := ⟨_, rfl⟩
  have hB0 : Below w.heap.size w wa := hwa ▸ (Below.refl _ _).alloc (Nat.le_refl _) _
  have hN0 : Blk wa w.heap.size 37 [.int .i64 n, .slice oap ops.length ocap] := hwa ▸ Blk.new w _ _
  go_enter Try.func5, Try.ntmps5
  go_wp2_with fail
  rw [← hwa]
  clear hwa
  refine (new_yes n _ h1 h2).mono ?_
  rintro e w1 ⟨rfl, hb1, hB1⟩
  have hN1 := hN0.later hB1
  obtain ⟨g, hg⟩ : ∃ g, g = wa.heap.size := ⟨_, rfl⟩
  rw [← hg] at hb1 ⊢
  have HG := Lib.hid hg; clear hg
  have n0 := hN1.cell_some (i := 0) rfl
  have n1 := hN1.cell_some (i := 1) rfl
  go_wp2_with fail
  refine (num_any _ _).mono ?_
  rintro e _ ⟨rfl, rfl⟩
  go_wp2_with fail
  refine (small_any _).mono ?_
  rintro e w3 ⟨rfl, hB3⟩
  have hN3 := hN1.later hB3
  have m0 := hN3.cell_some (i := 0) rfl
  have m1 := hN3.cell_some (i := 1) rfl
  go_wp2_with (refine wpList_mk1 El.bytes rfl rfl _ _ rfl n rfl rfl rfl rfl (by omega) (by simp only [maxLen]; omega) ?_)
  go_loopw [6] (fun i wr => ∃ (t : Nat) (b : BoxS), t ≤ ops.length ∧ i = .int .i64 t ∧ Good b ∧ Hid (b.cnt = n) ∧ b.at wr g ∧ SegsAt wr w.heap.size w3.heap.size n b.ps ∧ Same (at1 g) w3 wr) (fun i _ => ops.length - (intOf i).toNat)
  case atStart =>
    refine ⟨0, ⟨n, 0, List.replicate 64 []⟩, Nat.zero_le _, rfl, good_new n h1 h2, rfl, at_later (at_later hb1 hB3) ((Below.refl _ _).alloc (Nat.le_refl _) _), ⟨_, by simp, Blk.rep _ _ _ _, fun j y hy => ?_⟩, (Same.refl _ _).alloc _⟩
    obtain rfl : y = .slice none 0 0 := by
      rw [List.getElem?_replicate] at hy
      split at hy
      · injection hy with hy; exact hy.symm
      · cases hy
    have : (List.replicate 64 ([] : List UInt8)).getD j [] = [] := by
      rw [List.getD_eq_getElem?_getD, List.getElem?_replicate]; split <;> rfl
    rw [this]
    exact World.ownsRow_nil _ _ _ _
  case round =>
    obtain ⟨t, b, ht, rfl, hgood, hbn, hb, hsegs, hS⟩ := hrel
    have hgg : wa.heap.size ≤ g := Nat.le_of_eq HG.out.symm
    have hlow0 := hB0.size
    have hNl : w.heap.size < wa.heap.size := hN0.lt
    have hg3 : g < w3.heap.size := Nat.lt_of_lt_of_le (at_lt (b := ⟨n, 0, List.replicate 64 []⟩) hb1) hB3.size
    have hBw3 : Below w.heap.size w w3 := hB0.trans ((hB1.trans (hB3.mono hB1.size)).mono hlow0)
    have hBw : Below w.heap.size w wr := hBw3.trans (hS.belowB fun i hi => ⟨by have := hBw3.size; omega, fun h => by simp only [at1] at h; omega⟩)
    have hNr := hN3.same hS (fun h => by simp only [at1] at h; omega)
    have r0 := hNr.cell_some (i := 0) rfl
    have r1 := hNr.cell_some (i := 1) rfl
    by_cases hlt : t < ops.length
    · obtain ⟨ob, oo, rfl, hoc⟩ := ho (by omega)
      obtain ⟨xs, hxs, hsl, e0, e1, e2⟩ := hoc t ops[t] (List.getElem?_eq_getElem hlt)
      have hxr := hxs.later hBw
      have e0 := below_cell hBw e0 (World.block_lt_of_cell? _ _ e0)
      have e1 := below_cell hBw e1 (World.block_lt_of_cell? _ _ e1)
      have e2 := below_cell hBw e2 (World.block_lt_of_cell? _ _ e2)
      obtain ⟨xp, xn, xc, rfl⟩ : ∃ xp xn xc, xs = .slice xp xn xc := by obtain ⟨a, c, h, _⟩ := hxs; exact ⟨_, _, _, h⟩
      obtain ⟨kd, ix, sg, ho'⟩ : ∃ kd ix sg, ops[t] = OpD.mk kd ix sg := ⟨_, _, _, rfl⟩
      rw [ho'] at hxr hsl e0 e1
      simp only at hxr hsl e0 e1
      clear ho' hoc hxs
      have HS := Lib.hid hsegs; have HGd := Lib.hid hgood; clear hsegs hgood
      obtain ⟨wo, hwo⟩ : ∃ wo, wo = wr.alloc (.cells #[.int .i64 kd, .int .i64 ix, .slice xp xn xc] 42) := ⟨_, rfl⟩
      have hBo : Below wr.heap.size wr wo := hwo ▸ (Below.refl _ _).alloc (Nat.le_refl _) _
      have hOo : Blk wo wr.heap.size 42 [.int .i64 kd, .int .i64 ix, .slice xp xn xc] := hwo ▸ Blk.new wr _ _
      go_wp2_with fail
      rw [← hwo]
      clear hwo
      refine (put_any g b ix _ sg _ (at_later hb hBo) (hxr.later hBo) HGd.out.fine).mono ?_
      rintro e w5 ⟨rfl, hb5, hS5⟩
      obtain ⟨pe, hpe⟩ : ∃ pe, pe = putErr b.cnt b.len b.ps ix sg := ⟨_, rfl⟩
      rw [← hpe]
      have HPE := Lib.hid hpe; clear hpe
      have hgr : g < wr.heap.size := at_lt hb
      have hO5 := hOo.same hS5 (fun h => by simp only [at1] at h; omega)
      have o0 := hO5.cell_some (i := 0) rfl
      have o1 := hO5.cell_some (i := 1) rfl
      have o2 := hO5.cell_some (i := 2) rfl
      have hS5r : Same (at1 g) wr w5 := (Same.of_below hBo _).trans hS5 (fun _ _ h => h)
      have hS6 := hS.trans hS5r (fun _ _ h => h)
      have hN5 := hNr.same hS5r (fun h => by simp only [at1] at h; omega)
      have s0 := hN5.cell_some (i := 0) rfl
      go_wp2_with fail
      refine (num_any _ _).mono ?_
      rintro e _ ⟨rfl, rfl⟩
      by_cases hp : pe = 0
      · have hpb : (pe == 0) = true := by simpa using hp
        obtain ⟨i, hi, hin, hs1, hs2, hps, hput⟩ := putErr_zero (b := b) (HPE.out ▸ hp)
        have hgp := good_put b HGd.out ix sg
        rw [hput] at hb5 hgp
        have hcn := hbn.out
        have hpl64 := HGd.out.n
        obtain ⟨hv, hv1, hv2, hv3⟩ := HS.out.box hb hS5r
        have hin' : i < n := by omega
        obtain ⟨y, hy⟩ : ∃ y, hv[i]? = some y := ⟨_, List.getElem?_eq_getElem (by omega)⟩
        have hyo := hv3 i y hy
        rw [hps] at hyo
        obtain ⟨yp, yc, hye⟩ : ∃ yp yc, y = Value.slice yp 0 yc := by
          rcases hyo.2 with ⟨h, _⟩ | ⟨g', c', _, h, _⟩
          · exact ⟨_, _, h⟩
          · exact ⟨_, _, h⟩
        subst hye
        have hcy : w5.cell? ⟨w3.heap.size, i, none⟩ = some (.slice yp 0 yc) := hv2.cell_some hy
        have hfy : w5.frozen? ⟨w3.heap.size, i, none⟩ = false := hv2.frozen i
        have hgs5 : w3.heap.size < w5.heap.size := hv2.lt
        have hsegs5 : SegsAt w5 w.heap.size w3.heap.size n b.ps := HS.out.box hb hS5r
        have hx5 : Bs w5 (.slice xp xn xc) sg := (hxr.later hBo).same hS5 (fun b' e he => bs_ne_box (at_later hb hBo) (hxr.later hBo) hs1 (by rw [e, he]))
        obtain rfl : xn = sg.length := by
          obtain ⟨_, _, h, _⟩ := hx5
          injection h
        have q1 := fun o => (hO5.alloc o).cell_some (i := 1) rfl
        have q2 := fun o => (hO5.alloc o).cell_some (i := 2) rfl
        have hix1 : (i : Int) < (n : Int) := by omega
        have hlow5 : w.heap.size ≤ w5.heap.size := Nat.le_trans hBw.size hS5r.size
        have hsz : 1 ≤ sg.length := hs1
        subst hi
        have HPUT := Lib.hid hput; have HPS := Lib.hid hps; have HCN := Lib.hid hcn; have HB5 := Lib.hid hb5; have HGP := Lib.hid hgp; have HSE := Lib.hid hsegs5; have HI := Lib.hid hin
        clear hput hps hcn hb5 hgp hsegs5 hv3 hyo hy hv1 hp hb hxr e0 e1 e2 hpl64 hin
        have hsb : ((sg.length : Int) == 0) = false := by rw [beq_eq_false_iff_ne]; omega
        go_wp2_with fail
        go_region_law (go_loud (refine step_app El.u8 rfl (.tmp 99) (.tmp 101) rfl (by first | exact World.ownsRow_lit w5 #[] 0 (Nat.le_refl _) (Nat.zero_le _) rfl | exact (World.ownsRow_lit w5 #[] 0 (Nat.le_refl _) (Nat.zero_le _) rfl).drew | exact World.ownsRow_lit w5.drew #[] 0 (Nat.le_refl _) (Nat.zero_le _) rfl) rfl (by first | exact hx5.alloc _ | exact (hx5.alloc _).drew) rfl (by simp) (ub_one sg) (by omega) (by simp) ?_); intro v8 w8 hown8 hgr8 hN8; obtain ⟨g8, c8, rfl, _, _⟩ := hown8.form (by omega); have hgr := grown_pre (w := w5) (by first | exact ((Below.refl _ _).alloc (Nat.le_refl _) _).drew | exact ((Below.refl _ _).drew).alloc (Nat.le_refl _) _) hgr8; have hB8 : Below w5.heap.size w5 w8 := (Below.refl _ _).grown hgr (Nat.le_refl _) (fun k hk => by have hk2 : some w5.heap.size = some k := hk; injection hk2 with hk2; omega); have o18 := (hO5.later hB8).cell_some (i := 1) rfl; have hcy8 := below_cell hB8 hcy hgs5; have hfy8 := (hB8.frozen (p := ⟨w3.heap.size, i, none⟩) hgs5).trans hfy; clear hgr8 hN8 hgr)
        all_goals
          have hnew := segs_put (i := i) HSE.out hB8 (by simpa using hown8) hlow5 (by rw [HGd.out.n]; omega)
          have hbz : (BoxS.mk b.cnt (putLen b.cnt b.len i sg.length) (b.ps.set i sg)).at (w8.setCell ⟨w3.heap.size, i, none⟩ (.slice (some ⟨g8, 0, none⟩) sg.length c8)) g := at_same (at_later HB5.out hB8) ((Same.refl (at1 w3.heap.size) _).setCell (p := ⟨w3.heap.size, i, none⟩) (fun _ => rfl) _) (fun h => by simp only [at1] at h; omega)
          have hSz := (hS6.trans (Same.of_below hB8 no) (fun _ _ h => h.elim)).setCell (p := ⟨w3.heap.size, i, none⟩) (fun h => absurd h (Nat.lt_irrefl _)) (.slice (some ⟨g8, 0, none⟩) sg.length c8)
          clear hown8 hB8
          go_wp2
          go_roundw
          case rel => exact ⟨t + 1, ⟨b.cnt, putLen b.cnt b.len i sg.length, b.ps.set i sg⟩, by omega, by go_num, HGP.out, HCN.out, hbz, hnew, hSz⟩
          case measure => simp [intOf]; omega
      · have hpb : (pe == 0) = false := by simpa using hp
        have hsame : b.put ix sg = b := by rw [BoxS.put, if_neg (by rw [← HPE.out]; exact hp)]
        rw [hsame] at hb5
        have hsegs5 : SegsAt w5 w.heap.size w3.heap.size n b.ps := HS.out.box hb hS5r
        clear hp hb hxr e0 e1 e2
        go_wp2_with fail
        go_roundw
        case rel => exact ⟨t + 1, b, by omega, by go_num, HGd.out, hbn, hb5, hsegs5, hS6⟩
        case measure => simp [intOf]; omega
    · obtain rfl : t = ops.length := by omega
      obtain ⟨wl, hwl⟩ : ∃ wl, wl = wr := ⟨_, rfl⟩
      subst hwl
      have hcn := hbn.out
      obtain ⟨hv, hv1, hv2, hv3⟩ := hsegs
      have hgr : g < wl.heap.size := at_lt hb
      have hlowr : w.heap.size ≤ wl.heap.size := hBw.size
      have hpl64 := hgood.n
      have hfine := hgood.fine
      have hfat := hfine.at
      have HGd := Lib.hid hgood; have HV3 := Lib.hid hv3; have HCN := Lib.hid hcn; have HV1 := Lib.hid hv1; have HP64 := Lib.hid hpl64; have HFI := Lib.hid hfine; have HFA := Lib.hid hfat; have HBX := Lib.hid hb; have HFL := Lib.hid (flat_le hfine)
      clear hgood hv3 hcn hv1 hpl64 hfine hfat hb hbn hBw3 hx ho hN0 hN1 hN3 hb1 hB1 hB3 hB0 n0 n1 m0 m1
      go_wp2_with fail
      go_loopw [8, 9, 10] (fun al fl i wx => ∃ k : Nat, k ≤ n ∧ i = .int .i64 k ∧ fl = .bool (allNe b.ps k) ∧ wx.ownsRow wl.heap.size 5 1 al (b.ps.take k).flatten.length ((b.ps.take k).flatten.map ub) ∧ Below wl.heap.size wl wx) (fun _ _ i _ => n - (intOf i).toNat)
      case atStart => exact ⟨0, Nat.zero_le _, rfl, rfl, World.ownsRow_nil _ _ _ _, Below.refl _ _⟩
      case round =>
        obtain ⟨k, hk, rfl, rfl, hown, hBx⟩ := hrel
        have hzx := hBx.size
        have hNx := hNr.later hBx
        have x0 := hNx.cell_some (i := 0) rfl
        by_cases hlt : k < n
        · obtain ⟨y, hy⟩ : ∃ y, hv[k]? = some y := ⟨_, List.getElem?_eq_getElem (by rw [HV1.out]; exact hlt)⟩
          obtain ⟨p, hp⟩ : ∃ p, p = b.ps.getD k [] := ⟨_, rfl⟩
          have hyo := own_later (HV3.out k y hy) hBx
          have hpl : p.length ≤ 1024 := hp ▸ HFA.out k
          have hkl : k < b.ps.length := by rw [HP64.out]; omega
          have hts := take_succ_getD b.ps k hkl
          have hans := allNe_succ b.ps k hkl
          rw [← hp] at hyo hts hans
          obtain ⟨yp, yc, rfl, hyr⟩ := Rd.of_own hyo
          have cs := (hv2.later hBx).cell_some hy
          have hfl := HFL.out k
          have ix : (k : Int) < n := by omega
          have hyR : Rd wr (.slice yp p.length yc) p.length (p.map ub) := Rd.of_own hyo
          have HP := Lib.hid hp; have HT := Lib.hid hts; have HA := Lib.hid hans; have HYR := Lib.hid hyR; clear hp hts hans hyo hyr hy hyR
          cases hf : allNe b.ps k
          all_goals
            have HF := Lib.hid hf; clear hf
            go_wp2_with (at_builtin; go_loud (refine wpList_app El.u8 rfl (.tmp 119) (.tmp 123) rfl hown rfl HYR.out rfl (by simp) (ub_one _) (by omega) hzx ?_); intro v5 w5 hown5 hgr5 _)
            have hB5 := hBx.grown hgr5 hzx (fun k hk => (hown.lt k hk).1)
            clear hgr5 hown
            go_roundw
            case rel => exact ⟨k + 1, by omega, by go_num, by rw [HA.out, HF.out]; simp, by rw [HT.out, List.length_append, List.map_append]; exact hown5, hB5⟩
            case measure => simp [intOf]; omega
        · obtain rfl : k = n := by omega
          have hfl := HFL.out k
          obtain ⟨L, hL⟩ : ∃ L, L = (b.ps.take k).flatten := ⟨_, rfl⟩
          rw [← hL] at hown hfl
          have HL := Lib.hid hL; clear hL
          cases hf : allNe b.ps k
          · obtain ⟨j, hj, hjn, hja⟩ := allNe_no (by rw [HP64.out]; omega) hf
            have hflg := Lib.hid hf; clear hf
            go_wp2_with fail
            refine (whole_no g b.cnt b.len j b.ps _ (BoxAt.later HBX.out hBx) HFI.out (by rw [HCN.out]; exact hj) hjn hja).mono ?_
            rintro e w6 ⟨rfl, hB6⟩
            go_wp2_with fail
            go_ret
            exact ⟨rfl, (hBw.trans (hBx.mono hlowr)).trans (hB6.mono (by omega))⟩
          · have hall : ∀ i, i < k → b.ps.getD i [] ≠ [] := fun i hi => allNe_yes hf i hi (by rw [HP64.out]; omega)
            have hflg := Lib.hid hf; clear hf
            go_wp2_with fail
            refine (whole_yes g b.cnt b.len b.ps _ (BoxAt.later HBX.out hBx) HFI.out (by rw [HCN.out]; exact hall)).mono ?_
            rintro e w6 ⟨v6, rfl, hown6, hB6⟩
            rw [HCN.out, ← HL.out] at hown6
            have hBw6 : Below w.heap.size w w6 := (hBw.trans (hBx.mono hlowr)).trans (hB6.mono (by omega))
            obtain ⟨y, hy⟩ : ∃ y, hv[0]? = some y := ⟨_, List.getElem?_eq_getElem (by rw [HV1.out]; exact h1)⟩
            obtain ⟨p, hp⟩ : ∃ p, p = b.ps.getD 0 [] := ⟨_, rfl⟩
            have HP := Lib.hid hp; clear hp
            have hyo := own_later (HV3.out 0 y hy) (hBx.trans (hB6.mono (by omega)))
            rw [← HP.out] at hyo
            obtain ⟨yp, yc, rfl, hyr⟩ := Rd.of_own hyo
            have hlb : Bss w6 (.slice (some ⟨w3.heap.size, 0, none⟩) k k) (b.ps.take k) := SegsAt.bss (SegsAt.later (SegsAt.later ⟨hv, HV1.out, hv2, HV3.out⟩ hBx) hB6) (by rw [HP64.out]; omega) (by simp only [maxLen]; omega)
            have cs := ((hv2.later hBx).later hB6).cell_some hy
            have hN6 := hNx.later hB6
            have z0 := hN6.cell_some (i := 0) rfl
            have hlr := own_later hown hB6
            have h8 : Bs w6 _ _ := Bs.of_own hlr
            have h6 : Bs w6 _ _ := Bs.of_own hown6
            obtain ⟨a8, c8, rfl, -⟩ := id h8
            obtain ⟨a6, c6, rfl, -⟩ := id h6
            have hgw := good_whole b HGd.out (by rw [HCN.out]; exact hall)
            rw [HCN.out, ← HL.out] at hgw
            have H6 := Lib.hid h6; have H8 := Lib.hid h8; clear h6 h8; have HGW := Lib.hid hgw; have HLB := Lib.hid hlb; clear hgw hlb hyr hyo hy hlr hown hown6 hall
            have hq := str_beq_yes (a := L) (b := L) rfl
            by_cases hn1 : 1 < k
            · go_wp2_with fail
              refine (cut_any _ L _ _ H6.out (by omega)).mono ?_
              rintro e w7 ⟨v7, rfl, hp7, hB7⟩
              obtain ⟨q1, q2, q3⟩ := HGW.out p.length (by rw [if_pos hn1, HP.out])
              rw [q1]
              rw [q2] at hp7
              have HP7 := Lib.hid hp7; clear hp7 q1 q2
              have k1 := run_str8 (H6.out.later hB7) (W := w7) rfl
              have k2 := run_str8 (H8.out.later hB7) (W := w7) rfl
              go_wp2_with fail
              refine (num_any _ _).mono ?_
              rintro e _ ⟨rfl, rfl⟩
              go_wp2_with fail
              refine (sameLists_yes _ _ (b.ps.take k) _ HP7.out.bss (HLB.out.later hB7) (by rw [List.length_take]; omega)).mono ?_
              rintro e _ ⟨rfl, n8, rfl⟩
              go_wp2_with fail
              go_ret
              exact ⟨rfl, below_drewN (hBw6.trans (hB7.mono (by have := hBw6.size; omega))) _⟩
            · go_wp2_with fail
              refine (cut_any _ L _ _ H6.out (by omega)).mono ?_
              rintro e w7 ⟨v7, rfl, hp7, hB7⟩
              obtain ⟨q1, q2, q3⟩ := HGW.out L.length (by rw [if_neg hn1])
              rw [q1]
              rw [q2] at hp7
              have HP7 := Lib.hid hp7; clear hp7 q1 q2
              have k1 := run_str8 (H6.out.later hB7) (W := w7) rfl
              have k2 := run_str8 (H8.out.later hB7) (W := w7) rfl
              go_wp2_with fail
              refine (num_any _ _).mono ?_
              rintro e _ ⟨rfl, rfl⟩
              go_wp2_with fail
              refine (sameLists_yes _ _ (b.ps.take k) _ HP7.out.bss (HLB.out.later hB7) (by rw [List.length_take]; omega)).mono ?_
              rintro e _ ⟨rfl, n8, rfl⟩
              go_wp2_with fail
              go_ret
              exact ⟨rfl, below_drewN (hBw6.trans (hB7.mono (by have := hBw6.size; omega))) _⟩

theorem wholeLaw_walk (W : World) (cs0 : Array Value) (s : ScriptD) (h0 : cScript.rep W cs0.toList s) :
    Calls Try.prog 5 #[.agg cs0] W fun e w' => e = .returned (.bool true) ∧ Below W.heap.size W w' := by
  obtain ⟨x, hcs, hx⟩ := cScript_rd h0
  obtain rfl : cs0 = #[.int .i64 s.count, x] := by
    apply Array.ext'
    rw [hcs]
  by_cases hc : s.count < 1 ∨ 64 < s.count
  · exact whole_out x s W hc
  · obtain ⟨n, hn⟩ := Int.eq_ofNat_of_zero_le (show 0 ≤ s.count by omega)
    have := whole_in x n s.ops W hx (by omega) (by omega)
    rw [← hn] at this
    exact this
end Go.Proofs.Ytgnbnkoanoalhaa
