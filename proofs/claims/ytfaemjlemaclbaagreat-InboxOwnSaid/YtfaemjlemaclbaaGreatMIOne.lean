/- one: a unit of data; both. -/
import Derived.Test.YtfaemjlemaclbaaGreatMIOps
import Derived.Test.YtfaemjlemaclbaaGreatMIRanges
import Derived.Laws.IdiomStrings
namespace Go.Proofs.YtfaemjlemaclbaaGreat
set_option linter.unusedVariables false
set_option linter.unusedSimpArgs false
open Go.RowKit Go.Maps
/-- the bytes of a string, in a new block. -/
theorem run_of_str (l : List UInt8) (hl : l.length ≤ 140737488355328) (W : World) : ∃ v W', (convert 9 32 (.string (str l))).run Tryz.prog W = .ok v W' ∧ Bs W' v l ∧ (∃ c, v = .slice (some ⟨W.heap.size, 0, none⟩) l.length c) ∧ Below W.heap.size W W' ∧ W'.heap.size = W.heap.size + 1 := by
  have h := run_bytes_of_string (P := Tryz.prog) W 9 32 5 (str l) Tryz.underlying9 Tryz.underlying32 Tryz.underlying5
  refine ⟨_, _, h, ?_, ⟨_, by rw [str_size]⟩, ⟨rfl, rfl, rfl, by simp, fun k hk => Below.heap_alloc W.drew _ k hk⟩, by simp⟩
  have hg := grownCap_ge W (str l).size 0 5
  have hm := grownCap_le_maxLen W (str l).size 0 5 (by rw [str_size]; simp only [maxLen]; omega)
  obtain ⟨G, hG⟩ : ∃ G, G = grownCap W (str l).size 0 5 := ⟨_, rfl⟩
  rw [← hG] at hg hm ⊢
  rw [str_size] at hg ⊢
  refine Rd.mk hg hm fun j u hu => ?_
  rw [Nat.zero_add]
  have hc := cell_of_row (W.drew.alloc (.cells (bytesRow (str l) G) 5 ((bytesRow (str l) G).size, (bytesRow (str l) G).size + 1))) W.heap.size j (bytesRow (str l) G) 5 ((bytesRow (str l) G).size, (bytesRow (str l) G).size + 1) (heap_alloc_new W.drew _)
  rw [hc]
  have hj : j < (l.map ub).length := (List.getElem?_eq_some_iff.1 hu).1
  have e : bytesRow (str l) G = (l.map ub ++ List.replicate (G - (str l).size) (Value.int .u8 0)).toArray := by
    simp [bytesRow, str]
    exact fun a _ => rfl
  rw [e]
  simp only [List.getElem?_toArray]
  rw [List.getElem?_append_left hj]
  exact hu
def OnePost (w : World) (u : UD) (e : Ending) (w' : World) : Prop := ∃ b c, e = .returned (uv u (.slice (some ⟨b, 0, none⟩) u.data.length c) (.slice none 0 0)) ∧ Bs w' (.slice (some ⟨b, 0, none⟩) u.data.length c) u.data ∧ w.heap.size ≤ b ∧ b < w'.heap.size ∧ Below w.heap.size w w'
set_option maxHeartbeats 1000000 in
set_option maxRecDepth 100000 in
theorem one_any (ep ses : UInt64) (idx cnt : Int) (l : List UInt8) (hl : l.length ≤ 140737488355328) (w : World) :
    Calls Tryz.prog 24 #[.int .u64 (ep.toNat : Int), .int .u64 (ses.toNat : Int), .int .i64 idx, .int .i64 cnt, .string (str l)] w fun e w' => OnePost w ⟨1, ep, ses, 2, idx, cnt, l, 0, []⟩ e w' := by
  obtain ⟨W0, hW0⟩ : ∃ W0, W0 = w.alloc (.cells #[.int .i64 0, .int .u64 0, .int .u64 0, .int .i64 0, .int .i64 0, .int .i64 0, .slice none 0 0, .int .i64 0, .slice none 0 0] 35) := ⟨_, rfl⟩
  have hB0 : Below w.heap.size w W0 := hW0 ▸ (Below.refl _ _).alloc (Nat.le_refl _) _
  have ha0 : Blk W0 w.heap.size 35 [.int .i64 0, .int .u64 0, .int .u64 0, .int .i64 0, .int .i64 0, .int .i64 0, .slice none 0 0, .int .i64 0, .slice none 0 0] := hW0 ▸ Blk.new w _ _
  obtain ⟨v, W1, hrun, hb, ⟨c, rfl⟩, hB1, hz1⟩ := run_of_str l hl W0
  have ha1 := ha0.later hB1
  have hz : w.heap.size < W0.heap.size := ha0.lt
  obtain ⟨g, hg⟩ : ∃ g, g = W0.heap.size := ⟨_, rfl⟩
  rw [← hg] at hrun hb hz hz1
  have a0 := ha1.cell_some (i := 0) rfl
  have f0 := ha1.frozen 0
  have a1 := ha1.cell_some (i := 1) rfl
  have f1 := ha1.frozen 1
  have a2 := ha1.cell_some (i := 2) rfl
  have f2 := ha1.frozen 2
  have a3 := ha1.cell_some (i := 3) rfl
  have f3 := ha1.frozen 3
  have a4 := ha1.cell_some (i := 4) rfl
  have f4 := ha1.frozen 4
  have a5 := ha1.cell_some (i := 5) rfl
  have f5 := ha1.frozen 5
  have a6 := ha1.cell_some (i := 6) rfl
  have f6 := ha1.frozen 6
  have a7 := ha1.cell_some (i := 7) rfl
  have f7 := ha1.frozen 7
  have a8 := ha1.cell_some (i := 8) rfl
  have f8 := ha1.frozen 8
  have HA1 := Lib.hid ha1; have HB := Lib.hid hb; have HB1 := Lib.hid (below_trans hB0 hB1); have HZ := Lib.hid hz1
  have hgw : w.heap.size < g := hz
  clear ha1 hb hB1 hB0 ha0 hz1 hg
  subst hW0
  go_enter Tryz.func24, Tryz.ntmps24
  go_wp2
  refine bodyPost_ret (v := .agg #[.int .i64 1, .int .u64 (ep.toNat : Int), .int .u64 (ses.toNat : Int), .int .i64 2, .int .i64 idx, .int .i64 cnt, .slice (some ⟨g, 0, none⟩) l.length c, .int .i64 0, .slice none 0 0]) (results_cell_row rfl _ _ w.heap.size _ _ _ _ rfl (((((((((HA1.out.set 0 (.int .i64 1)).set 1 (.int .u64 (ep.toNat : Int))).set 2 (.int .u64 (ses.toNat : Int))).set 3 (.int .i64 2)).set 4 (.int .i64 idx)).set 5 (.int .i64 cnt)).set 6 (.slice (some ⟨g, 0, none⟩) l.length c)).set 7 (.int .i64 0)).set 8 (.slice none 0 0)) Tryz.underlying35 rfl (by kernel_rfl)) rfl ?_
  have hS : Same (at1 w.heap.size) W1 _ := ((((((((((Same.refl (at1 w.heap.size) W1).setCell (p := ⟨w.heap.size, 0, none⟩) (fun _ => rfl) (.int .i64 1)).setCell (p := ⟨w.heap.size, 1, none⟩) (fun _ => rfl) (.int .u64 (ep.toNat : Int))).setCell (p := ⟨w.heap.size, 2, none⟩) (fun _ => rfl) (.int .u64 (ses.toNat : Int))).setCell (p := ⟨w.heap.size, 3, none⟩) (fun _ => rfl) (.int .i64 2)).setCell (p := ⟨w.heap.size, 4, none⟩) (fun _ => rfl) (.int .i64 idx)).setCell (p := ⟨w.heap.size, 5, none⟩) (fun _ => rfl) (.int .i64 cnt)).setCell (p := ⟨w.heap.size, 6, none⟩) (fun _ => rfl) (.slice (some ⟨g, 0, none⟩) l.length c)).setCell (p := ⟨w.heap.size, 7, none⟩) (fun _ => rfl) (.int .i64 0)).setCell (p := ⟨w.heap.size, 8, none⟩) (fun _ => rfl) (.slice none 0 0))
  have h1 := HZ.out
  refine ⟨g, c, rfl, Rd.same HB.out hS (fun b e hb => ?_), by omega, by have := hS.size; omega, HB1.out.trans (hS.belowB fun i hi => ⟨Nat.lt_of_lt_of_le hi HB1.out.size, fun e => ?_⟩)⟩
  · have e2 : g = b := Option.some.inj e
    have : b = w.heap.size := hb
    omega
  · have : i = w.heap.size := e
    omega
end Go.Proofs.YtfaemjlemaclbaaGreat
