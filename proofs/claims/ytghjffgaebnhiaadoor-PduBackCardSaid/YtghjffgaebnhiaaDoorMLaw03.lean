/- halyardlaw03: bytes, stays. -/
import Derived.Test.YtghjffgaebnhiaaDoorMRest03
import Derived.Test.YtghjffgaebnhiaaDoorMEnc1
namespace Go.Proofs.YtghjffgaebnhiaaDoor
set_option linter.unusedVariables false
set_option linter.unusedSimpArgs false
open Go.RowKit
def tens (n : Nat) : List UInt8 := List.replicate n 201
/-- lent: a copy in new memory, with four marks behind it. -/
def LentB (base : Nat) (v : Value) (l : List UInt8) (w : World) : Prop :=
  ∃ g, v = .slice (some ⟨g, 0, none⟩) l.length (l.length + 4) ∧ base ≤ g ∧ Blk w g 5 ((l ++ tens 4).map ub)
theorem LentB.bs {base : Nat} {v : Value} {l : List UInt8} {w : World} (h : LentB base v l w) (hl : l.length ≤ 140737488355328) : Bs w v l := by
  obtain ⟨g, rfl, _, hb⟩ := h
  refine Rd.mk (by omega) (by simp only [maxLen]; omega) fun j u hu => ?_
  rw [Nat.zero_add]
  refine hb.cell_some ?_
  rw [List.map_append, List.getElem?_append_left (List.getElem?_eq_some_iff.1 hu).1]
  exact hu
theorem LentB.later {base : Nat} {v : Value} {l : List UInt8} {w w' : World} (h : LentB base v l w) (hb : Below w.heap.size w w') : LentB base v l w' := by
  obtain ⟨g, h1, h2, h3⟩ := h
  exact ⟨g, h1, h2, h3.later hb⟩
theorem blk_byte {w : World} {g : Nat} {t : TypeId} {cs rest : List Value} (k : Nat) (u : Value) (h : Blk w g t (cs ++ rest)) (hl : cs.length = k) (hr : 1 ≤ rest.length) :
    Blk (w.setCell ⟨g, k, none⟩ u) g t ((cs ++ [u]) ++ rest.drop 1) := by
  have := h.set k u
  match rest, hr with
  | x :: rest, _ =>
    have e : (cs ++ x :: rest).set k u = (cs ++ [u]) ++ rest := by
      rw [List.set_append_right _ _ (by omega), hl, Nat.sub_self]
      simp
    rw [e] at this
    exact this
set_option maxHeartbeats 2000000 in
set_option maxRecDepth 100000 in
theorem bytes_any (v : Value) (l : List UInt8) (w : World) (h : Bs w v l) (hl : l.length ≤ 140737488355328) :
    Calls Tryd.prog 15 #[v] w fun e w' => ∃ v', e = .returned v' ∧ LentB w.heap.size v' l w' ∧ Below w.heap.size w w' := by
  have hr : Rd w v l.length (l.map ub) := h
  obtain ⟨p, c, rfl, -⟩ := id h
  obtain ⟨C, hC⟩ : ∃ C, C = l.map ub := ⟨_, rfl⟩
  have HLL : Hid (C.length = l.length * 1) := Lib.hid (by simp [hC])
  have HO : Hid (∀ x ∈ C, x.oneCell' = true) := Lib.hid (by rw [hC]; exact ub_one l)
  have HCC := Lib.hid hC
  rw [← hC] at hr
  clear h hC
  go_enter Tryd.func15, Tryd.ntmps15
  go_wp2_with (first
    | (refine wpList_mkN El.u8 rfl (.tmp 7) (.tmp 7) rfl (l.length + 4) rfl rfl (by omega) (by omega) (by omega) (by simp only [maxLen]; omega) ?_; intro cur hcur; have HCUR := Lib.hid hcur; clear hcur)
    | (with_reducible refine wpList_copyB El.u8 rfl (.tmp 9) (.tmp 10) rfl (Blk.new w 5 cur) (hr.later ((Below.refl _ _).alloc (Nat.le_refl _) _)) rfl rfl HLL.out (by omega) (by rw [HCUR.out, HLL.out]; omega) HO.out ?_))
  have hb0 := (Blk.new w 5 cur).setRow (C ++ cur.drop C.length)
  have hB0 : Below w.heap.size w ((w.alloc (.cells cur.toArray 5)).setRow w.heap.size (C ++ cur.drop C.length).toArray) := below_setRow ((Below.refl _ _).alloc (Nat.le_refl _) _) (Nat.le_refl _) _
  obtain ⟨w1, hw1⟩ : ∃ w1, w1 = (w.alloc (.cells cur.toArray 5)).setRow w.heap.size (C ++ cur.drop C.length).toArray := ⟨_, rfl⟩
  rw [← hw1] at hb0 hB0 ⊢
  have hrest : (cur.drop C.length).length = 4 := by rw [List.length_drop, HCUR.out, HLL.out]; omega
  obtain ⟨rest, hre⟩ : ∃ rest, rest = cur.drop C.length := ⟨_, rfl⟩
  rw [← hre] at hb0 hrest
  rw [HCC.out] at hb0
  have HB0 := Lib.hid hb0; have HREST := Lib.hid hrest
  clear hw1 hre hb0 hrest hr
  go_loopw [4] (fun i wr => ∃ (k : Nat) (rest : List Value), k ≤ 4 ∧ i = .int .i64 (l.length + k : Nat) ∧ Hid (rest.length = 4 - k) ∧ Hid (Blk wr w.heap.size 5 ((l ++ tens k).map ub ++ rest)) ∧ Below w.heap.size w wr) (fun i _ => l.length + 4 - (intOf i).toNat)
  case atStart => exact ⟨0, rest, by omega, rfl, HREST, by simpa [tens] using HB0, hB0⟩
  case round =>
    obtain ⟨k, rest, hk, rfl, hrl, hb, hB⟩ := hrel
    by_cases hlt : k < 4
    · have ix : ((l.length + k : Nat) : Int) < (l.length : Int) + 4 := by omega
      have ix2 : (0 : Int) ≤ ((l.length + k : Nat) : Int) := by omega
      have hll : ((l ++ tens k).map ub).length = l.length + k := by simp [tens]
      have hr2 : 1 ≤ rest.length := by rw [hrl.out]; omega
      obtain ⟨y, c0⟩ : ∃ y, wr.cell? ⟨w.heap.size, l.length + k, none⟩ = some y := ⟨_, hb.out.cell_some (List.getElem?_eq_getElem (by rw [List.length_append, hll]; omega))⟩
      have f0 := hb.out.frozen (l.length + k)
      have HB3 := Lib.hid (blk_byte (l.length + k) (ub 201) hb.out hll hr2)
      clear hll hr2
      go_wp2_with fail
      go_roundw
      case rel =>
        refine ⟨k + 1, rest.drop 1, by omega, by go_num, Lib.hid (by rw [List.length_drop, hrl.out]; omega), Lib.hid ?_, hB.setCell (p := ⟨w.heap.size, _, none⟩) (Nat.le_refl _) _⟩
        have e : (l ++ tens (k + 1)).map ub = (l ++ tens k).map ub ++ [ub 201] := by
          rw [tens, List.replicate_succ', ← List.append_assoc, List.map_append]
          rfl
        rw [e]
        exact HB3.out
      case measure => simp [intOf]; omega
    · obtain rfl : k = 4 := by omega
      have hrn : rest = [] := List.eq_nil_of_length_eq_zero (by rw [hrl.out])
      subst hrn
      have HBB : Hid (Blk wr w.heap.size 5 ((l ++ tens 4).map ub)) := Lib.hid (by simpa using hb.out)
      go_wp2_with fail
      go_ret
      exact ⟨_, rfl, ⟨_, rfl, Nat.le_refl _, HBB.out⟩, hB⟩
set_option maxHeartbeats 2000000 in
set_option maxRecDepth 100000 in
theorem stays_any (base : Nat) (v u : Value) (l : List UInt8) (w : World) (h : LentB base v l w) (hu : Bs w u l) (hl : l.length ≤ 140737488355328) :
    Calls Tryd.prog 19 #[v, u] w fun e w' => e = .returned (.bool true) ∧ Below w.heap.size w w' := by
  have hbs := h.bs hl
  obtain ⟨g, rfl, hbg, hblk⟩ := h
  obtain ⟨ao, cap, rfl, -⟩ := id hu
  have cv1 := fun q => run_str8 hbs (W := w.drewN q) rfl
  have hbs2 : Bs w (.slice (some ⟨g, 0, none⟩) l.length (l.length + 4)) l := hbs
  have cv2 := fun q => run_str8 hu (W := w.drewN q) rfl
  obtain ⟨n, hn⟩ : ∃ n, n = l.length := ⟨_, rfl⟩
  have hc : ∀ k, n ≤ k → k < n + 4 → w.cell? ⟨g, k, none⟩ = some (.int .u8 201) := fun k h1 h2 => by
    refine hblk.cell_some ?_
    rw [List.getElem?_map, List.getElem?_append_right (by omega), tens, List.getElem?_replicate, if_pos (by omega)]
    rfl
  rw [← hn] at cv1 cv2 hl ⊢
  have HC := Lib.hid hc
  obtain ⟨sl, hsl⟩ : ∃ sl, sl = str l := ⟨_, rfl⟩
  rw [← hsl] at cv1 cv2
  clear hc hblk hbs hbs2 hu hn hsl
  go_enter Tryd.func19, Tryd.ntmps19
  go_wp2_with fail
  go_loopw [6] (fun i wr => ∃ k : Nat, n ≤ k ∧ k ≤ n + 4 ∧ i = .int .i64 (k : Int) ∧ wr = w) (fun i _ => n + 4 - (intOf i).toNat)
  case atStart => exact ⟨n, Nat.le_refl _, by omega, rfl, rfl⟩
  case round =>
    obtain ⟨k, h1, h2, rfl, rfl⟩ := hrel
    by_cases hlt : k < n + 4
    · have ix : (k : Int) < (n : Int) + 4 := by omega
      have e0 := HC.out k h1 hlt
      go_wp2_with fail
      go_roundw
      case rel => exact ⟨k + 1, by omega, by omega, by go_num, trivial⟩
      case measure => simp [intOf]; omega
    · obtain rfl : k = n + 4 := by omega
      go_wp2_with fail
      go_quiet (fail)
      go_wp2_with fail
      go_ret
      exact ⟨rfl, below_drewN (Below.refl _ _) _⟩
end Go.Proofs.YtghjffgaebnhiaaDoor
