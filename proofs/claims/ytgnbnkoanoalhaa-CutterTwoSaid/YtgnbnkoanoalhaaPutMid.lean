/- Put of a segment that is not the last one. -/
import Derived.Test.YtgnbnkoanoalhaaPut
namespace Go.Proofs.Ytgnbnkoanoalhaa
set_option linter.unusedVariables false
set_option linter.unusedSimpArgs false
open Go.RowKit

set_option maxHeartbeats 2000000 in
set_option maxRecDepth 100000 in
theorem put_mid0 (g cnt len i m : Nat) (ps : List (List UInt8)) (q : List UInt8) (v : Value) (seg : List UInt8) (w : World) (h : BoxAt w g cnt len ps) (hr : Bs w v seg) (hf : Fine cnt len ps)
    (hm1 : cnt = m + 1) (h1 : i < m) (h3 : 1 ≤ seg.length) (h4 : seg.length ≤ 1024) (hp : ps.getD i [] = []) (hq : ps.getD m [] = q) (hl0 : len = 0) :
    Calls Try.prog 21 #[.pointer (some ⟨g, 0, none⟩), .int .i64 i, v] w fun e w' => e = .returned (.int .i64 (putIn cnt len ps i seg)) ∧ PutPost w w' g cnt len i ps seg (putIn cnt len ps i seg) := by
  have c0 := h.c0
  have hcnt : cnt ≤ 64 := hf.hi
  have hi64 : i < 64 := by omega
  have hm64 : m < 64 := by omega
  have cp := h.cp hi64
  have cq := h.cp hm64
  rw [hp] at cp
  rw [hq] at cq
  have c1 := h.c1
  have hql : q.length ≤ 1024 := hq ▸ hf.at m
  have hsz : (str q).size = q.length := str_size q
  obtain ⟨ao, cap, rfl, hn, hm, hcc⟩ := id hr
  have hne : ((seg.length : Int) == 0) = false := by rw [beq_eq_false_iff_ne]; omega
  have k2 := run_str8 hr (W := w) rfl
  have hsn : ([] : List UInt8) ≠ seg := by intro h; subst h; simp at h3
  have e1 := str_beq_no hsn
  have e2 := str_none
  have ix1 : (i : Int) < 64 := by omega
  have ix2 : (m : Int) < 64 := by omega
  have hci : (cnt : Int) - 1 = m := by omega
  have hwi : IntKind.i64.wrap ((cnt : Int) - 1) = m := by rw [hci]; exact IntWalk.i64_in _ (by omega)
  have hpa : putLast cnt ps i seg.length = q.length := by rw [putLast, if_neg (by omega), show cnt - 1 = m by omega, hq]
  have hpl : putLen cnt len i seg.length = seg.length := by rw [putLen, if_neg (by omega), if_pos hl0]
  have hput : putIn cnt len ps i seg = if 0 < seg.length ∧ seg.length < q.length ∨ 1024 < leastOf cnt seg.length q.length then 120 else 0 := by
    rw [putIn, hp, if_neg hsn, if_neg (by simp), if_neg (by omega), hpl, hpa]
  have HL := Lib.hid hpl; clear hpl
  have hlb : ((len : Int) == 0) = true := by rw [beq_iff_eq]; omega
  have HP := Lib.hid hp; have HQ := Lib.hid hq; have HU := Lib.hid hput; have HSN := Lib.hid hsn; have HM := Lib.hid hm1; clear hp hput hpa hsn hq
  have hBelow : ∀ o, Below w.heap.size w (w.alloc o) := fun o => (Below.refl w.heap.size w).alloc (Nat.le_refl _) o
  have hal := fun o => h.later (hBelow o)
  have a0 := fun o => (hal o).c0
  have a1 := fun o => (hal o).c1
  have ap := fun o => (hal o).cp hi64
  have aq := fun o => (hal o).cp hm64
  rw [HP.out] at ap
  rw [HQ.out] at aq
  have hg := h.blk.lt
  have hcmp : ((i : Int) == (m : Int)) = false := by rw [beq_eq_false_iff_ne]; omega
  have hcnt1 : i < cnt := by omega
  clear hm1 hl0
  by_cases hbad : 0 < seg.length ∧ seg.length < q.length
  · have HB := Lib.hid hbad
    obtain ⟨hb1, hb2⟩ := hbad
    go_enter Try.func21, Try.ntmps21
    go_wp2
    go_region
    go_wp2
    go_ret
    have hr : putIn cnt len ps i seg = 120 := by rw [HU.out, if_pos (.inl HB.out)]
    refine ⟨by rw [hr]; rfl, ?_⟩
    rw [hr]
    exact ⟨Same.of_below (hBelow _).drew _, fun h => by omega, fun _ => ⟨h.n, (hal _).blk⟩⟩
  · have HB := Lib.hid hbad
    have hb' : ¬ (seg.length < q.length) := by omega
    · go_enter Try.func21, Try.ntmps21
      go_wp2
      go_region
      go_wp2_with fail
      refine (least_any cnt seg.length q.length _ hf.lo hcnt (by have := hf.len; omega) (by omega)).mono ?_
      rintro e w1 ⟨rfl, hb1⟩
      obtain ⟨n0, n1, hx, hB1⟩ := put_facts h hb1
      have hr1 := hr.later hB1
      have hng := bs_ne_box hx hr1 h3
      have d0 := hx.c0
      have d1 := hx.c1
      have dp := hx.cp hi64
      have f0 := hx.blk.frozen 0
      have f1 := hx.blk.frozen 1
      have fp := hx.blk.frozen (2 + i)
      have hW2 := ((hr1.setCell (p := ⟨g, 0, none⟩) hng (.int .i64 cnt)).setCell (p := ⟨g, 1, none⟩) hng (.int .i64 seg.length))
      have k3 := run_str8 hW2 (W := ((w1.setCell ⟨g, 0, none⟩ (.int .i64 cnt)).setCell ⟨g, 1, none⟩ (.int .i64 seg.length)).drew) rfl
      have hxp := box_put (L := seg.length) (seg := seg) hx hi64
      have hS := (((Same.of_below hB1 (at1 g)).setCell (p := ⟨g, 0, none⟩) (fun _ => rfl) (.int .i64 cnt)).setCell (p := ⟨g, 1, none⟩) (fun _ => rfl) (.int .i64 seg.length)).setCell (p := ⟨g, 2 + i, none⟩) (fun _ => rfl) (.string (str seg))
      clear hb1 hW2
      by_cases hl : leastOf cnt seg.length q.length ≤ 1024
      · go_wp2_with fail
        go_region
        go_wp2
        go_ret
        have hr : putIn cnt len ps i seg = 0 := by rw [HU.out, if_neg (by have := HB.out; omega)]
        refine ⟨by rw [hr]; rfl, ?_⟩
        rw [hr]
        exact ⟨hS.drew, fun _ => by rw [HL.out]; exact ⟨hxp.n, hxp.blk⟩, fun h => absurd rfl h⟩
      · go_wp2_with fail
        go_ret
        have hr : putIn cnt len ps i seg = 120 := by rw [HU.out, if_pos (by omega)]
        refine ⟨by rw [hr]; rfl, ?_⟩
        rw [hr]
        exact ⟨Same.of_below hB1 _, fun h => by omega, fun _ => hx⟩
set_option maxHeartbeats 2000000 in
set_option maxRecDepth 100000 in
theorem put_midL (g cnt len i m : Nat) (ps : List (List UInt8)) (q : List UInt8) (v : Value) (seg : List UInt8) (w : World) (h : BoxAt w g cnt len ps) (hr : Bs w v seg) (hf : Fine cnt len ps)
    (hm1 : cnt = m + 1) (h1 : i < m) (h3 : 1 ≤ seg.length) (h4 : seg.length ≤ 1024) (hp : ps.getD i [] = []) (hq : ps.getD m [] = q) (hl0 : len = seg.length) :
    Calls Try.prog 21 #[.pointer (some ⟨g, 0, none⟩), .int .i64 i, v] w fun e w' => e = .returned (.int .i64 (putIn cnt len ps i seg)) ∧ PutPost w w' g cnt len i ps seg (putIn cnt len ps i seg) := by
  have c0 := h.c0
  have hcnt : cnt ≤ 64 := hf.hi
  have hi64 : i < 64 := by omega
  have hm64 : m < 64 := by omega
  have cp := h.cp hi64
  have cq := h.cp hm64
  rw [hp] at cp
  rw [hq] at cq
  have c1 := h.c1
  have hql : q.length ≤ 1024 := hq ▸ hf.at m
  have hsz : (str q).size = q.length := str_size q
  obtain ⟨ao, cap, rfl, hn, hm, hcc⟩ := id hr
  have hne : ((seg.length : Int) == 0) = false := by rw [beq_eq_false_iff_ne]; omega
  have k2 := run_str8 hr (W := w) rfl
  have hsn : ([] : List UInt8) ≠ seg := by intro h; subst h; simp at h3
  have e1 := str_beq_no hsn
  have e2 := str_none
  have ix1 : (i : Int) < 64 := by omega
  have ix2 : (m : Int) < 64 := by omega
  have hci : (cnt : Int) - 1 = m := by omega
  have hwi : IntKind.i64.wrap ((cnt : Int) - 1) = m := by rw [hci]; exact IntWalk.i64_in _ (by omega)
  have hpa : putLast cnt ps i seg.length = q.length := by rw [putLast, if_neg (by omega), show cnt - 1 = m by omega, hq]
  have hpl : putLen cnt len i seg.length = len := by rw [putLen, if_neg (by omega), if_neg (by omega)]
  have hput : putIn cnt len ps i seg = if 0 < len ∧ len < q.length ∨ 1024 < leastOf cnt len q.length then 120 else 0 := by
    rw [putIn, hp, if_neg hsn, if_neg (by simp), if_neg (by omega), hpl, hpa]
  have HL := Lib.hid hpl; clear hpl
  have hlb : ((len : Int) == 0) = false := by rw [beq_eq_false_iff_ne]; omega
  have hlb2 : ((len : Int) != (seg.length : Int)) = false := by rw [bne_eq_false_iff_eq]; omega
  have hlp : 0 < len := by omega
  have HP := Lib.hid hp; have HQ := Lib.hid hq; have HU := Lib.hid hput; have HSN := Lib.hid hsn; have HM := Lib.hid hm1; clear hp hput hpa hsn hq
  have hBelow : ∀ o, Below w.heap.size w (w.alloc o) := fun o => (Below.refl w.heap.size w).alloc (Nat.le_refl _) o
  have hal := fun o => h.later (hBelow o)
  have a0 := fun o => (hal o).c0
  have a1 := fun o => (hal o).c1
  have ap := fun o => (hal o).cp hi64
  have aq := fun o => (hal o).cp hm64
  rw [HP.out] at ap
  rw [HQ.out] at aq
  have hg := h.blk.lt
  have hcmp : ((i : Int) == (m : Int)) = false := by rw [beq_eq_false_iff_ne]; omega
  have hcnt1 : i < cnt := by omega
  clear hm1 hl0
  by_cases hbad : 0 < len ∧ len < q.length
  · have HB := Lib.hid hbad
    obtain ⟨hb1, hb2⟩ := hbad
    go_enter Try.func21, Try.ntmps21
    go_wp2
    go_region
    go_wp2
    go_ret
    have hr : putIn cnt len ps i seg = 120 := by rw [HU.out, if_pos (.inl HB.out)]
    refine ⟨by rw [hr]; rfl, ?_⟩
    rw [hr]
    exact ⟨Same.of_below (hBelow _).drew _, fun h => by omega, fun _ => ⟨h.n, (hal _).blk⟩⟩
  · have HB := Lib.hid hbad
    have hb' : ¬ (len < q.length) := by omega
    · go_enter Try.func21, Try.ntmps21
      go_wp2
      go_region
      go_wp2_with fail
      refine (least_any cnt len q.length _ hf.lo hcnt (by have := hf.len; omega) (by omega)).mono ?_
      rintro e w1 ⟨rfl, hb1⟩
      obtain ⟨n0, n1, hx, hB1⟩ := put_facts h hb1
      have hr1 := hr.later hB1
      have hng := bs_ne_box hx hr1 h3
      have d0 := hx.c0
      have d1 := hx.c1
      have dp := hx.cp hi64
      have f0 := hx.blk.frozen 0
      have f1 := hx.blk.frozen 1
      have fp := hx.blk.frozen (2 + i)
      have hW2 := ((hr1.setCell (p := ⟨g, 0, none⟩) hng (.int .i64 cnt)).setCell (p := ⟨g, 1, none⟩) hng (.int .i64 len))
      have k3 := run_str8 hW2 (W := ((w1.setCell ⟨g, 0, none⟩ (.int .i64 cnt)).setCell ⟨g, 1, none⟩ (.int .i64 len)).drew) rfl
      have hxp := box_put (L := len) (seg := seg) hx hi64
      have hS := (((Same.of_below hB1 (at1 g)).setCell (p := ⟨g, 0, none⟩) (fun _ => rfl) (.int .i64 cnt)).setCell (p := ⟨g, 1, none⟩) (fun _ => rfl) (.int .i64 len)).setCell (p := ⟨g, 2 + i, none⟩) (fun _ => rfl) (.string (str seg))
      clear hb1 hW2
      by_cases hl : leastOf cnt len q.length ≤ 1024
      · go_wp2_with fail
        go_region
        go_wp2
        go_ret
        have hr : putIn cnt len ps i seg = 0 := by rw [HU.out, if_neg (by have := HB.out; omega)]
        refine ⟨by rw [hr]; rfl, ?_⟩
        rw [hr]
        exact ⟨hS.drew, fun _ => by rw [HL.out]; exact ⟨hxp.n, hxp.blk⟩, fun h => absurd rfl h⟩
      · go_wp2_with fail
        go_ret
        have hr : putIn cnt len ps i seg = 120 := by rw [HU.out, if_pos (by omega)]
        refine ⟨by rw [hr]; rfl, ?_⟩
        rw [hr]
        exact ⟨Same.of_below hB1 _, fun h => by omega, fun _ => hx⟩
set_option maxHeartbeats 2000000 in
set_option maxRecDepth 100000 in
theorem put_midN (g cnt len i m : Nat) (ps : List (List UInt8)) (q : List UInt8) (v : Value) (seg : List UInt8) (w : World) (h : BoxAt w g cnt len ps) (hr : Bs w v seg) (hf : Fine cnt len ps)
    (hm1 : cnt = m + 1) (h1 : i < m) (h3 : 1 ≤ seg.length) (h4 : seg.length ≤ 1024) (hp : ps.getD i [] = []) (hq : ps.getD m [] = q) (hl0 : len ≠ 0) (hl1 : len ≠ seg.length) :
    Calls Try.prog 21 #[.pointer (some ⟨g, 0, none⟩), .int .i64 i, v] w fun e w' => e = .returned (.int .i64 (putIn cnt len ps i seg)) ∧ PutPost w w' g cnt len i ps seg (putIn cnt len ps i seg) := by
  have c0 := h.c0
  have hcnt : cnt ≤ 64 := hf.hi
  have hi64 : i < 64 := by omega
  have hm64 : m < 64 := by omega
  have cp := h.cp hi64
  have cq := h.cp hm64
  rw [hp] at cp
  rw [hq] at cq
  have c1 := h.c1
  have hql : q.length ≤ 1024 := hq ▸ hf.at m
  have hsz : (str q).size = q.length := str_size q
  obtain ⟨ao, cap, rfl, hn, hm, hcc⟩ := id hr
  have hne : ((seg.length : Int) == 0) = false := by rw [beq_eq_false_iff_ne]; omega
  have k2 := run_str8 hr (W := w) rfl
  have hsn : ([] : List UInt8) ≠ seg := by intro h; subst h; simp at h3
  have e1 := str_beq_no hsn
  have e2 := str_none
  have ix1 : (i : Int) < 64 := by omega
  have ix2 : (m : Int) < 64 := by omega
  have hci : (cnt : Int) - 1 = m := by omega
  have hwi : IntKind.i64.wrap ((cnt : Int) - 1) = m := by rw [hci]; exact IntWalk.i64_in _ (by omega)
  have hpa : putLast cnt ps i seg.length = q.length := by rw [putLast, if_neg (by omega), show cnt - 1 = m by omega, hq]
  have hput : putIn cnt len ps i seg = 120 := by
    rw [putIn, hp, if_neg hsn, if_neg (by simp), if_pos (by omega)]
  have hlb : ((len : Int) == 0) = false := by rw [beq_eq_false_iff_ne]; omega
  have hlb2 : ((len : Int) != (seg.length : Int)) = true := by rw [bne_iff_ne]; omega
  have HP := Lib.hid hp; have HQ := Lib.hid hq; have HU := Lib.hid hput; have HSN := Lib.hid hsn; have HM := Lib.hid hm1; clear hp hput hpa hsn hq
  have hBelow : ∀ o, Below w.heap.size w (w.alloc o) := fun o => (Below.refl w.heap.size w).alloc (Nat.le_refl _) o
  have hal := fun o => h.later (hBelow o)
  have a0 := fun o => (hal o).c0
  have a1 := fun o => (hal o).c1
  have ap := fun o => (hal o).cp hi64
  have aq := fun o => (hal o).cp hm64
  rw [HP.out] at ap
  rw [HQ.out] at aq
  have hg := h.blk.lt
  have hcmp : ((i : Int) == (m : Int)) = false := by rw [beq_eq_false_iff_ne]; omega
  have hcnt1 : i < cnt := by omega
  clear hm1 hl0 hl1
  go_enter Try.func21, Try.ntmps21
  go_wp2
  go_region
  go_wp2
  go_ret
  have hr : putIn cnt len ps i seg = 120 := HU.out
  refine ⟨by rw [hr]; rfl, ?_⟩
  rw [hr]
  exact ⟨Same.of_below (hBelow _).drew _, fun h => by omega, fun _ => ⟨h.n, (hal _).blk⟩⟩
end Go.Proofs.Ytgnbnkoanoalhaa
