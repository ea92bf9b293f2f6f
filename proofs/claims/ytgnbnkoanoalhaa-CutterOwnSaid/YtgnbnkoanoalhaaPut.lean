/- Put: the segment with that index, or why not. -/
import Derived.Test.YtgnbnkoanoalhaaBox
namespace Go.Proofs.Ytgnbnkoanoalhaa
set_option linter.unusedVariables false
set_option linter.unusedSimpArgs false
open Go.RowKit

def putLast (cnt : Nat) (ps : List (List UInt8)) (i n : Nat) : Nat := if i + 1 = cnt then n else (ps.getD (cnt - 1) []).length
def putLen (cnt len i n : Nat) : Nat := if i + 1 = cnt then len else if len = 0 then n else len
def thereErr (p seg : List UInt8) : Int := if p = seg then 3 else 120
/-- what Put answers at an index that is one, to a segment of 1 to 1024 bytes. -/
def putIn (cnt len : Nat) (ps : List (List UInt8)) (i : Nat) (seg : List UInt8) : Int :=
  if ps.getD i [] = seg then 3 else if ps.getD i [] ≠ [] then 120 else if i + 1 ≠ cnt ∧ len ≠ 0 ∧ len ≠ seg.length then 120
  else if 0 < putLen cnt len i seg.length ∧ putLen cnt len i seg.length < putLast cnt ps i seg.length ∨ 1024 < leastOf cnt (putLen cnt len i seg.length) (putLast cnt ps i seg.length) then 120 else 0
def putErr (cnt len : Nat) (ps : List (List UInt8)) (index : Int) (seg : List UInt8) : Int :=
  if index < 0 ∨ (cnt : Int) ≤ index ∨ seg.length = 0 ∨ 1024 < seg.length then 1 else putIn cnt len ps index.toNat seg
/-- a box as New and Put leave it. -/
structure Fine (cnt len : Nat) (ps : List (List UInt8)) : Prop where
  lo : 1 ≤ cnt
  hi : cnt ≤ 64
  len : len ≤ 1024
  seg : ∀ p ∈ ps, p.length ≤ 1024
theorem Fine.at {cnt len : Nat} {ps : List (List UInt8)} (h : Fine cnt len ps) (i : Nat) : (ps.getD i []).length ≤ 1024 := by
  rw [List.getD_eq_getElem?_getD]
  cases hi : ps[i]? with
  | none => simp
  | some p => exact h.seg p (List.mem_of_getElem? hi)

set_option maxHeartbeats 2000000 in
set_option maxRecDepth 100000 in
theorem put_arg (g cnt len : Nat) (ps : List (List UInt8)) (index : Int) (v : Value) (seg : List UInt8) (w : World) (h : BoxAt w g cnt len ps) (hr : Bs w v seg)
    (hc : index < 0 ∨ (cnt : Int) ≤ index ∨ seg.length = 0 ∨ 1024 < seg.length) :
    Calls Try.prog 21 #[.pointer (some ⟨g, 0, none⟩), .int .i64 index, v] w fun e w' => e = .returned (.int .i64 1) ∧ w = w' := by
  have c0 := h.c0
  obtain ⟨ao, cap, rfl, hn, hm, hcc⟩ := id hr
  by_cases h1 : index < 0
  · clear hc
    go_enter Try.func21, Try.ntmps21
    go_wp2
    go_ret
    exact ⟨rfl, rfl⟩
  by_cases h2 : (cnt : Int) ≤ index
  · clear hc
    go_enter Try.func21, Try.ntmps21
    go_wp2
    go_ret
    exact ⟨rfl, rfl⟩
  by_cases h3 : seg.length < 1
  · clear hc
    have hb : ((seg.length : Int) == 0) = true := by rw [beq_iff_eq]; omega
    go_enter Try.func21, Try.ntmps21
    go_wp2
    go_ret
    exact ⟨rfl, rfl⟩
  · have h4 : 1024 < seg.length := by omega
    have hb : ((seg.length : Int) == 0) = false := by rw [beq_eq_false_iff_ne]; omega
    clear hc
    go_enter Try.func21, Try.ntmps21
    go_wp2
    go_ret
    exact ⟨rfl, rfl⟩
set_option maxHeartbeats 2000000 in
set_option maxRecDepth 100000 in
theorem put_there (g cnt len i : Nat) (ps : List (List UInt8)) (p : List UInt8) (v : Value) (seg : List UInt8) (w : World) (h : BoxAt w g cnt len ps) (hr : Bs w v seg) (hf : Fine cnt len ps)
    (h1 : i < cnt) (h3 : 1 ≤ seg.length) (h4 : seg.length ≤ 1024) (hp : ps.getD i [] = p) (he : p ≠ []) :
    Calls Try.prog 21 #[.pointer (some ⟨g, 0, none⟩), .int .i64 i, v] w fun e w' => e = .returned (.int .i64 (thereErr p seg)) ∧ w = w' := by
  have c0 := h.c0
  have hi64 : i < 64 := by have := hf.hi; omega
  have cp := h.cp hi64
  rw [hp] at cp
  obtain ⟨ao, cap, rfl, hn, hm, hcc⟩ := id hr
  have hne : ((seg.length : Int) == 0) = false := by rw [beq_eq_false_iff_ne]; omega
  have k2 := run_str8 hr (W := w) rfl
  have hHP := Lib.hid hp; clear hp
  by_cases hps : p = seg
  · have e1 := str_beq_yes hps
    have HE := Lib.hid hps; clear hps he
    go_enter Try.func21, Try.ntmps21
    go_wp2
    go_ret
    exact ⟨by rw [thereErr, if_pos HE.out]; rfl, rfl⟩
  · have e1 := str_beq_no hps
    have e2 := str_some he
    have HE := Lib.hid hps; clear hps he
    go_enter Try.func21, Try.ntmps21
    go_wp2
    go_ret
    exact ⟨by rw [thereErr, if_neg HE.out]; rfl, rfl⟩

def PutPost (w w' : World) (g cnt len i : Nat) (ps : List (List UInt8)) (seg : List UInt8) (r : Int) : Prop :=
  Same (at1 g) w w' ∧ (r = 0 → BoxAt w' g cnt (putLen cnt len i seg.length) (ps.set i seg)) ∧ (r ≠ 0 → BoxAt w' g cnt len ps)
theorem put_facts {w w1 : World} {g cnt len L : Nat} {ps : List (List UInt8)} (h : BoxAt w g cnt len ps)
    (hb : Below (w.alloc (.cells #[.int .i64 cnt, .int .i64 L] 63)).drew.heap.size (w.alloc (.cells #[.int .i64 cnt, .int .i64 L] 63)).drew w1) :
    w1.cell? ⟨w.heap.size, 0, none⟩ = some (.int .i64 cnt) ∧ w1.cell? ⟨w.heap.size, 1, none⟩ = some (.int .i64 L) ∧ BoxAt w1 g cnt len ps ∧ Below w.heap.size w w1 := by
  have hB : Below w.heap.size w (w.alloc (.cells #[.int .i64 cnt, .int .i64 L] 63)).drew := ((Below.refl _ _).alloc (Nat.le_refl _) _).drew
  have hN : Blk (w.alloc (.cells #[.int .i64 cnt, .int .i64 L] 63)).drew w.heap.size 63 [.int .i64 cnt, .int .i64 L] := Blk.new w _ _
  have hB1 := hB.trans (hb.mono hB.size)
  exact ⟨(hN.later hb).cell_some rfl, (hN.later hb).cell_some rfl, h.later hB1, hB1⟩
theorem box_put {w : World} {g cnt len L i : Nat} {ps : List (List UInt8)} {seg : List UInt8} (h : BoxAt w g cnt len ps) (hi : i < 64) :
    BoxAt (((w.setCell ⟨g, 0, none⟩ (.int .i64 cnt)).setCell ⟨g, 1, none⟩ (.int .i64 L)).setCell ⟨g, 2 + i, none⟩ (.string (str seg))) g cnt L (ps.set i seg) := by
  refine ⟨by simp [h.n], ?_⟩
  have := ((h.blk.set 0 (.int .i64 cnt)).set 1 (.int .i64 L)).set (2 + i) (.string (str seg))
  have e : ((([Value.int .i64 cnt, .int .i64 len] ++ ps.map strv).set 0 (.int .i64 cnt)).set 1 (.int .i64 L)).set (2 + i) (.string (str seg)) = [.int .i64 cnt, .int .i64 L] ++ (ps.set i seg).map strv := by
    rw [Nat.add_comm 2 i]
    simp [List.map_set, strv]
  rwa [e] at this
/-- bytes do not lie in a box. -/
theorem bs_ne_box {w : World} {g cnt len : Nat} {ps : List (List UInt8)} (h : BoxAt w g cnt len ps) {ao : Option Addr} {n cap : Nat} {seg : List UInt8} (hr : Bs w (.slice ao n cap) seg) (h1 : 1 ≤ seg.length) :
    (Value.slice ao n cap).ownBlock ≠ some g := by
  obtain ⟨b, off, cap', hv, _, _, _, hc⟩ := hr.form (by intro h; simp at h; subst h; simp at h1)
  injection hv with e1 e2 e3
  subst e1
  intro he
  have hbg : b = g := by simpa [Value.ownBlock] using he
  subst hbg
  have h0 := hc 0 (ub seg[0]) (by rw [List.getElem?_map, List.getElem?_eq_getElem (by omega)]; rfl)
  rw [h.blk.cell] at h0
  obtain ⟨x, hx⟩ : ∃ x, x = off + 0 := ⟨_, rfl⟩
  rw [← hx] at h0
  match x, h0 with
  | 0, h0 => simp [ub] at h0
  | 1, h0 => simp [ub] at h0
  | x + 2, h0 =>
    simp only [List.cons_append, List.nil_append, List.getElem?_cons_succ, List.getElem?_map, Option.map_eq_some_iff] at h0
    obtain ⟨p, _, hp⟩ := h0
    simp [strv, ub] at hp

set_option maxHeartbeats 2000000 in
set_option maxRecDepth 100000 in
theorem put_last (g cnt len i : Nat) (ps : List (List UInt8)) (v : Value) (seg : List UInt8) (w : World) (h : BoxAt w g cnt len ps) (hr : Bs w v seg) (hf : Fine cnt len ps)
    (h1 : i + 1 = cnt) (h3 : 1 ≤ seg.length) (h4 : seg.length ≤ 1024) (hp : ps.getD i [] = []) :
    Calls Try.prog 21 #[.pointer (some ⟨g, 0, none⟩), .int .i64 i, v] w fun e w' => e = .returned (.int .i64 (putIn cnt len ps i seg)) ∧ PutPost w w' g cnt len i ps seg (putIn cnt len ps i seg) := by
  have c0 := h.c0
  have hi64 : i < 64 := by have := hf.hi; omega
  have cp := h.cp hi64
  rw [hp] at cp
  have c1 := h.c1
  have hcnt : cnt ≤ 64 := hf.hi
  obtain ⟨ao, cap, rfl, hn, hm, hcc⟩ := id hr
  have hne : ((seg.length : Int) == 0) = false := by rw [beq_eq_false_iff_ne]; omega
  have k2 := run_str8 hr (W := w) rfl
  have hsn : ([] : List UInt8) ≠ seg := by intro h; subst h; simp at h3
  have e1 := str_beq_no hsn
  have e2 := str_none
  have ix1 : (i : Int) < 64 := by omega
  have hci : (cnt : Int) - 1 = i := by omega
  have hwi : IntKind.i64.wrap ((cnt : Int) - 1) = i := by rw [hci]; exact IntWalk.i64_in _ (by omega)
  have hpl : putLen cnt len i seg.length = len := if_pos h1
  have hpa : putLast cnt ps i seg.length = seg.length := if_pos h1
  have hput : putIn cnt len ps i seg = if 0 < len ∧ len < seg.length ∨ 1024 < leastOf cnt len seg.length then 120 else 0 := by
    rw [putIn, hp, if_neg hsn, if_neg (by simp), if_neg (by omega), hpl, hpa]
  have HP := Lib.hid hp; have H1 := Lib.hid h1; have HU := Lib.hid hput; have HL := Lib.hid hpl; have HSN := Lib.hid hsn; clear hp hput hpl hpa hsn
  have hal := fun o => h.later ((Below.refl w.heap.size w).alloc (Nat.le_refl _) o)
  have a0 := fun o => (hal o).c0
  have a1 := fun o => (hal o).c1
  have ap := fun o => (hal o).cp hi64
  rw [HP.out] at ap
  have hg := h.blk.lt
  have hcmp : ((i : Int) == (i : Int)) = true := by simp
  by_cases hbad : 0 < len ∧ len < seg.length
  · have HB := Lib.hid hbad
    obtain ⟨hb1, hb2⟩ := hbad
    clear h1
    go_enter Try.func21, Try.ntmps21
    go_wp2
    go_region
    go_wp2
    go_ret
    have hr : putIn cnt len ps i seg = 120 := by rw [HU.out, if_pos (.inl HB.out)]
    refine ⟨by rw [hr]; rfl, ?_⟩
    rw [hr]
    exact ⟨Same.of_below (((Below.refl _ _).alloc (Nat.le_refl _) _).drew) _, fun h => by omega, fun _ => ⟨h.n, (hal _).blk⟩⟩
  · have HB := Lib.hid hbad
    by_cases hl0 : 0 < len
    · have hb' : ¬ (len < seg.length) := by omega
      clear h1
      go_enter Try.func21, Try.ntmps21
      go_wp2
      go_region
      go_wp2_with fail
      refine (least_any cnt len seg.length _ hf.lo hcnt (by have := hf.len; omega) (by omega)).mono ?_
      rintro e w1 ⟨rfl, hb1⟩
      obtain ⟨n0, n1, hx, hB1⟩ := put_facts h hb1
      have hr1 := hr.later hB1
      have hng := bs_ne_box hx hr1 h3
      have d0 := hx.c0
      have d1 := hx.c1
      have dp := hx.cp hi64
      have f0 := hx.blk.frozen 0
      have f1 := hx.blk.frozen 1
      have fp := hx.blk.frozen (2 + i)
      have hW2 := ((hr1.setCell (p := ⟨g, 0, none⟩) hng (.int .i64 cnt)).setCell (p := ⟨g, 1, none⟩) hng (.int .i64 len))
      have k3 := run_str8 hW2 (W := ((w1.setCell ⟨g, 0, none⟩ (.int .i64 cnt)).setCell ⟨g, 1, none⟩ (.int .i64 len)).drew) rfl
      have hxp := box_put (L := len) (seg := seg) hx hi64
      have hS := (((Same.of_below hB1 (at1 g)).setCell (p := ⟨g, 0, none⟩) (fun _ => rfl) (.int .i64 cnt)).setCell (p := ⟨g, 1, none⟩) (fun _ => rfl) (.int .i64 len)).setCell (p := ⟨g, 2 + i, none⟩) (fun _ => rfl) (.string (str seg))
      clear hb1 hW2
      have HL2 := Lib.hid HL.out
      by_cases hl : leastOf cnt len seg.length ≤ 1024
      · go_wp2_with fail
        go_region
        go_wp2
        go_ret
        have hr : putIn cnt len ps i seg = 0 := by rw [HU.out, if_neg (by have := HB.out; omega)]
        refine ⟨by rw [hr]; rfl, ?_⟩
        rw [hr]
        exact ⟨hS.drew, fun _ => by rw [HL2.out]; exact ⟨hxp.n, hxp.blk⟩, fun h => absurd rfl h⟩
      · go_wp2_with fail
        go_ret
        have hr : putIn cnt len ps i seg = 120 := by rw [HU.out, if_pos (by omega)]
        refine ⟨by rw [hr]; rfl, ?_⟩
        rw [hr]
        exact ⟨Same.of_below hB1 _, fun h => by omega, fun _ => hx⟩
    · have hz0 : len ≤ 0 := by omega
      clear h1
      go_enter Try.func21, Try.ntmps21
      go_wp2
      go_region
      go_wp2_with fail
      refine (least_any cnt len seg.length _ hf.lo hcnt (by have := hf.len; omega) (by omega)).mono ?_
      rintro e w1 ⟨rfl, hb1⟩
      obtain ⟨n0, n1, hx, hB1⟩ := put_facts h hb1
      have hr1 := hr.later hB1
      have hng := bs_ne_box hx hr1 h3
      have d0 := hx.c0
      have d1 := hx.c1
      have dp := hx.cp hi64
      have f0 := hx.blk.frozen 0
      have f1 := hx.blk.frozen 1
      have fp := hx.blk.frozen (2 + i)
      have hW2 := ((hr1.setCell (p := ⟨g, 0, none⟩) hng (.int .i64 cnt)).setCell (p := ⟨g, 1, none⟩) hng (.int .i64 len))
      have k3 := run_str8 hW2 (W := ((w1.setCell ⟨g, 0, none⟩ (.int .i64 cnt)).setCell ⟨g, 1, none⟩ (.int .i64 len)).drew) rfl
      have hxp := box_put (L := len) (seg := seg) hx hi64
      have hS := (((Same.of_below hB1 (at1 g)).setCell (p := ⟨g, 0, none⟩) (fun _ => rfl) (.int .i64 cnt)).setCell (p := ⟨g, 1, none⟩) (fun _ => rfl) (.int .i64 len)).setCell (p := ⟨g, 2 + i, none⟩) (fun _ => rfl) (.string (str seg))
      clear hb1 hW2
      have HL2 := Lib.hid HL.out
      by_cases hl : leastOf cnt len seg.length ≤ 1024
      · go_wp2_with fail
        go_region
        go_wp2
        go_ret
        have hr : putIn cnt len ps i seg = 0 := by rw [HU.out, if_neg (by have := HB.out; omega)]
        refine ⟨by rw [hr]; rfl, ?_⟩
        rw [hr]
        exact ⟨hS.drew, fun _ => by rw [HL2.out]; exact ⟨hxp.n, hxp.blk⟩, fun h => absurd rfl h⟩
      · go_wp2_with fail
        go_ret
        have hr : putIn cnt len ps i seg = 120 := by rw [HU.out, if_pos (by omega)]
        refine ⟨by rw [hr]; rfl, ?_⟩
        rw [hr]
        exact ⟨Same.of_below hB1 _, fun h => by omega, fun _ => hx⟩
end Go.Proofs.Ytgnbnkoanoalhaa
