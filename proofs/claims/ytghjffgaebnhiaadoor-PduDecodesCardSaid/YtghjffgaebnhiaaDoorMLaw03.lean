/- Law03, Given: joined. -/
import Derived.Test.YtghjffgaebnhiaaDoorMRest03
import Derived.Test.YtghjffgaebnhiaaDoorMEnc1
import Derived.Test.YtghjffgaebnhiaaDoorMValidA
section
/- halyardlaw03: bytes, stays. -/
namespace Go.Proofs.YtghjffgaebnhiaaDoor
set_option linter.unusedVariables false
set_option linter.unusedSimpArgs false
open Go.RowKit
def tens (n : Nat) : List UInt8 := List.replicate n 201
/-- lent: a copy in new memory, with four marks behind it. -/
def LentB (base : Nat) (v : Value) (l : List UInt8) (w : World) : Prop :=
  ∃ g, v = .slice (some ⟨g, 0, none⟩) l.length (l.length + 4) ∧ base ≤ g ∧ Blk w g 5 ((l ++ tens 4).map ub)
theorem LentB.bs {base : Nat} {v : Value} {l : List UInt8} {w : World} (h : LentB base v l w) (hl : l.length ≤ 140737488355328) : Bs w v l := by
  obtain ⟨g, rfl, _, hb⟩ := h
  refine Rd.mk (by omega) (by simp only [maxLen]; omega) fun j u hu => ?_
  rw [Nat.zero_add]
  refine hb.cell_some ?_
  rw [List.map_append, List.getElem?_append_left (List.getElem?_eq_some_iff.1 hu).1]
  exact hu
theorem LentB.later {base : Nat} {v : Value} {l : List UInt8} {w w' : World} (h : LentB base v l w) (hb : Below w.heap.size w w') : LentB base v l w' := by
  obtain ⟨g, h1, h2, h3⟩ := h
  exact ⟨g, h1, h2, h3.later hb⟩
theorem blk_byte {w : World} {g : Nat} {t : TypeId} {cs rest : List Value} (k : Nat) (u : Value) (h : Blk w g t (cs ++ rest)) (hl : cs.length = k) (hr : 1 ≤ rest.length) :
    Blk (w.setCell ⟨g, k, none⟩ u) g t ((cs ++ [u]) ++ rest.drop 1) := by
  have := h.set k u
  match rest, hr with
  | x :: rest, _ =>
    have e : (cs ++ x :: rest).set k u = (cs ++ [u]) ++ rest := by
      rw [List.set_append_right _ _ (by omega), hl, Nat.sub_self]
      simp
    rw [e] at this
    exact this
set_option maxHeartbeats 2000000 in
set_option maxRecDepth 100000 in
theorem bytes_any (v : Value) (l : List UInt8) (w : World) (h : Bs w v l) (hl : l.length ≤ 140737488355328) :
    Calls Tryd.prog 15 #[v] w fun e w' => ∃ v', e = .returned v' ∧ LentB w.heap.size v' l w' ∧ Below w.heap.size w w' := by
  have hr : Rd w v l.length (l.map ub) := h
  obtain ⟨p, c, rfl, -⟩ := id h
  obtain ⟨C, hC⟩ : ∃ C, C = l.map ub := ⟨_, rfl⟩
  have HLL : Hid (C.length = l.length * 1) := Lib.hid (by simp [hC])
  have HO : Hid (∀ x ∈ C, x.oneCell' = true) := Lib.hid (by rw [hC]; exact ub_one l)
  have HCC := Lib.hid hC
  rw [← hC] at hr
  clear h hC
  go_enter Tryd.func15, Tryd.ntmps15
  go_wp2_with (first
    | (refine wpList_mkN El.u8 rfl (.tmp 7) (.tmp 7) rfl (l.length + 4) rfl rfl (by omega) (by omega) (by omega) (by simp only [maxLen]; omega) ?_; intro cur hcur; have HCUR := Lib.hid hcur; clear hcur)
    | (with_reducible refine wpList_copyB El.u8 rfl (.tmp 9) (.tmp 10) rfl (Blk.new w 5 cur) (hr.later ((Below.refl _ _).alloc (Nat.le_refl _) _)) rfl rfl HLL.out (by omega) (by rw [HCUR.out, HLL.out]; omega) HO.out ?_))
  have hb0 := (Blk.new w 5 cur).setRow (C ++ cur.drop C.length)
  have hB0 : Below w.heap.size w ((w.alloc (.cells cur.toArray 5)).setRow w.heap.size (C ++ cur.drop C.length).toArray) := below_setRow ((Below.refl _ _).alloc (Nat.le_refl _) _) (Nat.le_refl _) _
  obtain ⟨w1, hw1⟩ : ∃ w1, w1 = (w.alloc (.cells cur.toArray 5)).setRow w.heap.size (C ++ cur.drop C.length).toArray := ⟨_, rfl⟩
  rw [← hw1] at hb0 hB0 ⊢
  have hrest : (cur.drop C.length).length = 4 := by rw [List.length_drop, HCUR.out, HLL.out]; omega
  obtain ⟨rest, hre⟩ : ∃ rest, rest = cur.drop C.length := ⟨_, rfl⟩
  rw [← hre] at hb0 hrest
  rw [HCC.out] at hb0
  have HB0 := Lib.hid hb0; have HREST := Lib.hid hrest
  clear hw1 hre hb0 hrest hr
  go_loopw [4] (fun i wr => ∃ (k : Nat) (rest : List Value), k ≤ 4 ∧ i = .int .i64 (l.length + k : Nat) ∧ Hid (rest.length = 4 - k) ∧ Hid (Blk wr w.heap.size 5 ((l ++ tens k).map ub ++ rest)) ∧ Below w.heap.size w wr) (fun i _ => l.length + 4 - (intOf i).toNat)
  case atStart => exact ⟨0, rest, by omega, rfl, HREST, by simpa [tens] using HB0, hB0⟩
  case round =>
    obtain ⟨k, rest, hk, rfl, hrl, hb, hB⟩ := hrel
    by_cases hlt : k < 4
    · have ix : ((l.length + k : Nat) : Int) < (l.length : Int) + 4 := by omega
      have ix2 : (0 : Int) ≤ ((l.length + k : Nat) : Int) := by omega
      have hll : ((l ++ tens k).map ub).length = l.length + k := by simp [tens]
      have hr2 : 1 ≤ rest.length := by rw [hrl.out]; omega
      obtain ⟨y, c0⟩ : ∃ y, wr.cell? ⟨w.heap.size, l.length + k, none⟩ = some y := ⟨_, hb.out.cell_some (List.getElem?_eq_getElem (by rw [List.length_append, hll]; omega))⟩
      have f0 := hb.out.frozen (l.length + k)
      have HB3 := Lib.hid (blk_byte (l.length + k) (ub 201) hb.out hll hr2)
      clear hll hr2
      go_wp2_with fail
      go_roundw
      case rel =>
        refine ⟨k + 1, rest.drop 1, by omega, by go_num, Lib.hid (by rw [List.length_drop, hrl.out]; omega), Lib.hid ?_, hB.setCell (p := ⟨w.heap.size, _, none⟩) (Nat.le_refl _) _⟩
        have e : (l ++ tens (k + 1)).map ub = (l ++ tens k).map ub ++ [ub 201] := by
          rw [tens, List.replicate_succ', ← List.append_assoc, List.map_append]
          rfl
        rw [e]
        exact HB3.out
      case measure => simp [intOf]; omega
    · obtain rfl : k = 4 := by omega
      have hrn : rest = [] := List.eq_nil_of_length_eq_zero (by rw [hrl.out])
      subst hrn
      have HBB : Hid (Blk wr w.heap.size 5 ((l ++ tens 4).map ub)) := Lib.hid (by simpa using hb.out)
      go_wp2_with fail
      go_ret
      exact ⟨_, rfl, ⟨_, rfl, Nat.le_refl _, HBB.out⟩, hB⟩
set_option maxHeartbeats 2000000 in
set_option maxRecDepth 100000 in
theorem stays_any (base : Nat) (v u : Value) (l : List UInt8) (w : World) (h : LentB base v l w) (hu : Bs w u l) (hl : l.length ≤ 140737488355328) :
    Calls Tryd.prog 19 #[v, u] w fun e w' => e = .returned (.bool true) ∧ Below w.heap.size w w' := by
  have hbs := h.bs hl
  obtain ⟨g, rfl, hbg, hblk⟩ := h
  obtain ⟨ao, cap, rfl, -⟩ := id hu
  have cv1 := fun q => run_str8 hbs (W := w.drewN q) rfl
  have hbs2 : Bs w (.slice (some ⟨g, 0, none⟩) l.length (l.length + 4)) l := hbs
  have cv2 := fun q => run_str8 hu (W := w.drewN q) rfl
  obtain ⟨n, hn⟩ : ∃ n, n = l.length := ⟨_, rfl⟩
  have hc : ∀ k, n ≤ k → k < n + 4 → w.cell? ⟨g, k, none⟩ = some (.int .u8 201) := fun k h1 h2 => by
    refine hblk.cell_some ?_
    rw [List.getElem?_map, List.getElem?_append_right (by omega), tens, List.getElem?_replicate, if_pos (by omega)]
    rfl
  rw [← hn] at cv1 cv2 hl ⊢
  have HC := Lib.hid hc
  obtain ⟨sl, hsl⟩ : ∃ sl, sl = str l := ⟨_, rfl⟩
  rw [← hsl] at cv1 cv2
  clear hc hblk hbs hbs2 hu hn hsl
  go_enter Tryd.func19, Tryd.ntmps19
  go_wp2_with fail
  go_loopw [6] (fun i wr => ∃ k : Nat, n ≤ k ∧ k ≤ n + 4 ∧ i = .int .i64 (k : Int) ∧ wr = w) (fun i _ => n + 4 - (intOf i).toNat)
  case atStart => exact ⟨n, Nat.le_refl _, by omega, rfl, rfl⟩
  case round =>
    obtain ⟨k, h1, h2, rfl, rfl⟩ := hrel
    by_cases hlt : k < n + 4
    · have ix : (k : Int) < (n : Int) + 4 := by omega
      have e0 := HC.out k h1 hlt
      go_wp2_with fail
      go_roundw
      case rel => exact ⟨k + 1, by omega, by omega, by go_num, trivial⟩
      case measure => simp [intOf]; omega
    · obtain rfl : k = n + 4 := by omega
      go_wp2_with fail
      go_quiet (fail)
      go_wp2_with fail
      go_ret
      exact ⟨rfl, below_drewN (Below.refl _ _) _⟩
end Go.Proofs.YtghjffgaebnhiaaDoor
end
section
/- halyardlaw03: given. -/
namespace Go.Proofs.YtghjffgaebnhiaaDoor
set_option linter.unusedVariables false
set_option linter.unusedSimpArgs false
open Go.RowKit
theorem Rgs.below' {w w' : World} {v : Value} {l : List (Int × Int)} (h : Rgs w v l) (hb : Below w.heap.size w w') : Rgs w' v l := h.later hb
def GivenPost (w : World) (u : UD) (e : Ending) (w' : World) : Prop := ∃ v1 v2, e = .returned (uv u v1 v2) ∧ LentB w.heap.size v1 u.data w' ∧ LentR w.heap.size v2 u.got w' ∧ Below w.heap.size w w'
set_option maxHeartbeats 2000000 in
set_option maxRecDepth 100000 in
theorem given_any (u : UD) (dv gv : Value) (w : World) (hd : Bs w dv u.data) (hg : Rgs w gv u.got) (hl1 : u.data.length ≤ 140737488355328) (hl2 : u.got.length ≤ 8796093022208) :
    Calls Tryd.prog 9 #[uv u dv gv] w fun e w' => GivenPost w u e w' := by
  obtain ⟨kind, ep, ses, path, idx, cnt, data, code, got⟩ := u
  simp only at hd hg hl1 hl2
  obtain ⟨dp, dc, rfl, -⟩ := id hd
  obtain ⟨gp, gc, rfl, -⟩ := id hg
  simp only [uv]
  obtain ⟨n, hn⟩ : ∃ n, n = data.length := ⟨_, rfl⟩
  obtain ⟨k, hk⟩ : ∃ k, k = got.length := ⟨_, rfl⟩
  obtain ⟨e1, he1⟩ : ∃ e1, e1 = ep.toNat := ⟨_, rfl⟩
  obtain ⟨e2, he2⟩ : ∃ e2, e2 = ses.toNat := ⟨_, rfl⟩
  obtain ⟨W0, hW0⟩ : ∃ W0, W0 = (w.alloc (.cells #[.int .i64 kind, .int .u64 (e1 : Int), .int .u64 (e2 : Int), .int .i64 path, .int .i64 idx, .int .i64 cnt, .slice dp n dc, .int .i64 code, .slice gp k gc] 26)).alloc (.cells #[.int .i64 0, .int .u64 0, .int .u64 0, .int .i64 0, .int .i64 0, .int .i64 0, .slice none 0 0, .int .i64 0, .slice none 0 0] 26) := ⟨_, rfl⟩
  have hB0 : Below w.heap.size w W0 := hW0 ▸ ((Below.refl _ _).alloc (Nat.le_refl _) _).alloc (by simp) _
  have hu0 : Blk W0 w.heap.size 26 [.int .i64 kind, .int .u64 (e1 : Int), .int .u64 (e2 : Int), .int .i64 path, .int .i64 idx, .int .i64 cnt, .slice dp n dc, .int .i64 code, .slice gp k gc] := hW0 ▸ (Blk.new w _ _).alloc _
  have ha0 : Blk W0 (w.heap.size + 1) 26 [.int .i64 0, .int .u64 0, .int .u64 0, .int .i64 0, .int .i64 0, .int .i64 0, .slice none 0 0, .int .i64 0, .slice none 0 0] := by
    have := Blk.new (w.alloc (.cells #[.int .i64 kind, .int .u64 (e1 : Int), .int .u64 (e2 : Int), .int .i64 path, .int .i64 idx, .int .i64 cnt, .slice dp n dc, .int .i64 code, .slice gp k gc] 26)) 26 [.int .i64 0, .int .u64 0, .int .u64 0, .int .i64 0, .int .i64 0, .int .i64 0, .slice none 0 0, .int .i64 0, .slice none 0 0]
    rw [show (w.alloc (.cells #[.int .i64 kind, .int .u64 (e1 : Int), .int .u64 (e2 : Int), .int .i64 path, .int .i64 idx, .int .i64 cnt, .slice dp n dc, .int .i64 code, .slice gp k gc] 26)).heap.size = w.heap.size + 1 by simp] at this
    exact hW0 ▸ this
  have hcb := bytes_any (.slice dp data.length dc) data W0 (Rd.later hd hB0) hl1
  have hcr := fun (W : World) (hB : Below w.heap.size w W) => ranges_any (.slice gp got.length gc) got W (hg.below' hB) hl2
  rw [← hn] at hcb
  rw [← hk] at hcr
  have u6 := hu0.cell_some (i := 6) rfl
  rw [hW0] at u6
  have HCB := Lib.hid hcb; have HCR := Lib.hid hcr; have HU0 := Lib.hid hu0; have HA0 := Lib.hid ha0; have HB0 := Lib.hid hB0; have HN := Lib.hid hn; have HK := Lib.hid hk; have HE1 := Lib.hid he1; have HE2 := Lib.hid he2
  have hz0 : w.heap.size + 1 < W0.heap.size := ha0.lt
  rw [← hn, ← hk, ← he1, ← he2]
  clear hcb hcr hu0 ha0 hB0 hd hg hn hk he1 he2 hl1 hl2
  go_enter Tryd.func9, Tryd.ntmps9
  go_wp2_with fail
  rw [← hW0]
  refine HCB.out.mono ?_
  rintro e w1 ⟨v1, rfl, hl1, hB1⟩
  obtain ⟨b1, rfl, hb1, hblk1⟩ := hl1
  rw [← HN.out]
  have hu1 := HU0.out.later hB1
  have ha1 := HA0.out.later hB1
  have c6 := hu1.cell_some (i := 6) rfl
  have f6 := hu1.frozen 6
  have hu2 := hu1.set 6 (.slice (some ⟨b1, 0, none⟩) n (n + 4))
  have ha2 := ha1.far (p := ⟨w.heap.size, 6, none⟩) (by simp) (.slice (some ⟨b1, 0, none⟩) n (n + 4))
  have c8 := hu2.cell_some (i := 8) rfl
  obtain ⟨W2, hW2⟩ : ∃ W2, W2 = w1.setCell ⟨w.heap.size, 6, none⟩ (.slice (some ⟨b1, 0, none⟩) n (n + 4)) := ⟨_, rfl⟩
  have hne1 : b1 ≠ w.heap.size := by omega
  have hlb2 : Blk W2 b1 5 ((data ++ tens 4).map ub) := hW2 ▸ hblk1.far (p := ⟨w.heap.size, 6, none⟩) hne1 _
  have hbw2 : Below w.heap.size w W2 := hW2 ▸ (below_trans HB0.out hB1).setCell (p := ⟨w.heap.size, 6, none⟩) (Nat.le_refl _) _
  have hsz2 : W2.heap.size = w1.heap.size := by rw [hW2]; simp [World.setCell]
  rw [← hW2] at hu2 ha2
  have HCR2 := Lib.hid (HCR.out W2 hbw2)
  have HU2 := Lib.hid hu2; have HA2 := Lib.hid ha2; have HL2 := Lib.hid hlb2; have HB2 := Lib.hid hbw2; have HW2 := Lib.hid hW2
  have hz1 := hB1.size
  clear hu1 ha1 hu2 ha2 hlb2 hbw2 hblk1 hB1 hW2 hW0 u6 HCB HCR
  go_wp2_with fail
  rw [← HW2.out]
  refine HCR2.out.mono ?_
  rintro e w3 ⟨v3, rfl, hl3, hB3⟩
  obtain ⟨b2, rfl, hb2, hblk2⟩ := hl3
  rw [← HK.out]
  have hu3 := HU2.out.later hB3
  have ha3 := HA2.out.later hB3
  have hl3 := HL2.out.later hB3
  have d8 := hu3.cell_some (i := 8) rfl
  have g8 := hu3.frozen 8
  have hu4 := hu3.set 8 (.slice (some ⟨b2, 0, none⟩) k (k + 3))
  have ha4 := ha3.far (p := ⟨w.heap.size, 8, none⟩) (by simp) (.slice (some ⟨b2, 0, none⟩) k (k + 3))
  have x0 := hu4.cell_some (i := 0) rfl
  have x1 := hu4.cell_some (i := 1) rfl
  have x2 := hu4.cell_some (i := 2) rfl
  have x3 := hu4.cell_some (i := 3) rfl
  have x4 := hu4.cell_some (i := 4) rfl
  have x5 := hu4.cell_some (i := 5) rfl
  have x6 := hu4.cell_some (i := 6) rfl
  have x7 := hu4.cell_some (i := 7) rfl
  have x8 := hu4.cell_some (i := 8) rfl
  have y0 := ha4.cell_some (i := 0) rfl
  have y1 := ha4.cell_some (i := 1) rfl
  have y2 := ha4.cell_some (i := 2) rfl
  have y3 := ha4.cell_some (i := 3) rfl
  have y4 := ha4.cell_some (i := 4) rfl
  have y5 := ha4.cell_some (i := 5) rfl
  have y6 := ha4.cell_some (i := 6) rfl
  have y7 := ha4.cell_some (i := 7) rfl
  have y8 := ha4.cell_some (i := 8) rfl
  have z0 := ha4.frozen 0
  have z1 := ha4.frozen 1
  have z2 := ha4.frozen 2
  have z3 := ha4.frozen 3
  have z4 := ha4.frozen 4
  have z5 := ha4.frozen 5
  have z6 := ha4.frozen 6
  have z7 := ha4.frozen 7
  have z8 := ha4.frozen 8
  have hne2 : b2 ≠ w.heap.size := by omega
  have hne3 : b1 ≠ w.heap.size + 1 := by omega
  have hne4 : b2 ≠ w.heap.size + 1 := by omega
  have HA4 := Lib.hid ha4
  have HL3 := Lib.hid (hl3.far (p := ⟨w.heap.size, 8, none⟩) hne1 (.slice (some ⟨b2, 0, none⟩) k (k + 3))); have HL4 := Lib.hid (hblk2.far (p := ⟨w.heap.size, 8, none⟩) hne2 (.slice (some ⟨b2, 0, none⟩) k (k + 3)))
  have HBW := Lib.hid ((below_trans HB2.out hB3).setCell (p := ⟨w.heap.size, 8, none⟩) (Nat.le_refl _) (.slice (some ⟨b2, 0, none⟩) k (k + 3)))
  have hz3 := hB3.size
  clear hu3 ha3 hl3 hu4 ha4 hblk2 hB3 HCR2 c6 f6 c8
  go_wp2_with fail
  refine bodyPost_ret (v := .agg #[.int .i64 kind, .int .u64 (e1 : Int), .int .u64 (e2 : Int), .int .i64 path, .int .i64 idx, .int .i64 cnt, .slice (some ⟨b1, 0, none⟩) n (n + 4), .int .i64 code, .slice (some ⟨b2, 0, none⟩) k (k + 3)]) (results_cell_row rfl _ _ (w.heap.size + 1) _ _ _ _ rfl (((((((((HA4.out.set 0 (.int .i64 kind)).set 1 (.int .u64 (e1 : Int))).set 2 (.int .u64 (e2 : Int))).set 3 (.int .i64 path)).set 4 (.int .i64 idx)).set 5 (.int .i64 cnt)).set 6 (.slice (some ⟨b1, 0, none⟩) n (n + 4))).set 7 (.int .i64 code)).set 8 (.slice (some ⟨b2, 0, none⟩) k (k + 3))) Tryd.underlying26 rfl (by kernel_rfl)) rfl ?_
  obtain ⟨W6, hW6⟩ : ∃ W6, W6 = w3.setCell ⟨w.heap.size, 8, none⟩ (.slice (some ⟨b2, 0, none⟩) k (k + 3)) := ⟨_, rfl⟩
  have hL3 := HL3.out; have hL4 := HL4.out; have hBW := HBW.out
  rw [← hW6] at hL3 hL4 hBW ⊢
  have hS7 : Same (at1 (w.heap.size + 1)) W6 _ := ((((((((((Same.refl (at1 (w.heap.size + 1)) W6).setCell (p := ⟨w.heap.size + 1, 0, none⟩) (fun _ => rfl) (.int .i64 kind)).setCell (p := ⟨w.heap.size + 1, 1, none⟩) (fun _ => rfl) (.int .u64 (e1 : Int))).setCell (p := ⟨w.heap.size + 1, 2, none⟩) (fun _ => rfl) (.int .u64 (e2 : Int))).setCell (p := ⟨w.heap.size + 1, 3, none⟩) (fun _ => rfl) (.int .i64 path)).setCell (p := ⟨w.heap.size + 1, 4, none⟩) (fun _ => rfl) (.int .i64 idx)).setCell (p := ⟨w.heap.size + 1, 5, none⟩) (fun _ => rfl) (.int .i64 cnt)).setCell (p := ⟨w.heap.size + 1, 6, none⟩) (fun _ => rfl) (.slice (some ⟨b1, 0, none⟩) n (n + 4))).setCell (p := ⟨w.heap.size + 1, 7, none⟩) (fun _ => rfl) (.int .i64 code)).setCell (p := ⟨w.heap.size + 1, 8, none⟩) (fun _ => rfl) (.slice (some ⟨b2, 0, none⟩) k (k + 3)))
  refine ⟨.slice (some ⟨b1, 0, none⟩) n (n + 4), .slice (some ⟨b2, 0, none⟩) k (k + 3), ?_, ⟨b1, by rw [HN.out], by omega, hL3.same hS7 hne3⟩, ⟨b2, by rw [HK.out], by omega, hL4.same hS7 hne4⟩, hBW.trans (hS7.belowB fun i hi => ⟨Nat.lt_of_lt_of_le hi hBW.size, fun e => by have : i = w.heap.size + 1 := e; omega⟩)⟩
  simp only [uv]
  rw [← HE1.out, ← HE2.out]
end Go.Proofs.YtghjffgaebnhiaaDoor
end
