/- How the scripts of chapter 12's statements read. -/
import Derived.Test.YtgnbnkoanoalhaaCodecs
namespace Go.Proofs.Ytgnbnkoanoalhaa
set_option linter.unusedVariables false
set_option linter.unusedSimpArgs false
open Go.RowKit
structure OpD where
  kind : Int
  index : Int
  seg : List UInt8
structure ScriptD where
  count : Int
  ops : List OpD
abbrev cOp : Codec Try.prog 42 OpD :=
  (Codec.struct Try.underlying42 (FCodec.cons rfl cInt (FCodec.cons rfl cInt (FCodec.cons rfl cBytes (FCodec.nil _ _)))) (by kernel_rfl)).map fun x => ⟨x.1, x.2.1, x.2.2.1⟩
abbrev cOps : Codec Try.prog 35 (List OpD) := Codec.slice Try.underlying35 (by kernel_rfl) cOp (by decide)
abbrev cScript : Codec Try.prog 37 ScriptD :=
  (Codec.struct Try.underlying37 (FCodec.cons rfl cInt (FCodec.cons rfl cOps (FCodec.nil _ _))) (by kernel_rfl)).map fun x => ⟨x.1, x.2.1⟩
theorem bytesOp : Try.prog.bytesOf 42 = 40 := by kernel_rfl
/-- operations read: a slice value; of each its three cells. -/
def OpsRd (w : World) (v : Value) (ops : List OpD) : Prop :=
  ∃ ao cap, v = .slice ao ops.length cap ∧ ops.length * 40 ≤ 140737488351232 ∧ (0 < ops.length → ∃ b off, ao = some ⟨b, off, none⟩ ∧
    ∀ i o, ops[i]? = some o → ∃ x, Bs w x o.seg ∧ o.seg.length ≤ 140737488351232 ∧ w.cell? ⟨b, off + i * 3, none⟩ = some (.int .i64 o.kind) ∧ w.cell? ⟨b, off + i * 3 + 1, none⟩ = some (.int .i64 o.index) ∧ w.cell? ⟨b, off + i * 3 + 2, none⟩ = some x)
set_option maxRecDepth 100000 in
theorem cOp_rd {w : World} {cs : List Value} {o : OpD} (h : cOp.rep w cs o) : ∃ x, cs = [.int .i64 o.kind, .int .i64 o.index, x] ∧ Bs w x o.seg ∧ o.seg.length ≤ 140737488351232 := by
  obtain ⟨⟨k, i, s, u⟩, rfl, c1, c2, rfl, ⟨rfl, _⟩, c3, c4, rfl, ⟨rfl, _⟩, c5, c6, rfl, h3, h4⟩ := h
  obtain rfl : c6 = [] := h4
  obtain ⟨v, hv⟩ : ∃ v, c5 = [v] := by
    have := cBytes.len h3
    match c5, this with
    | [v], _ => exact ⟨v, rfl⟩
  subst hv
  exact ⟨v, rfl, (cBytes_bs h3).1, (cBytes_bs h3).2⟩
set_option maxRecDepth 100000 in
theorem cOps_rd {w : World} {v : Value} {ops : List OpD} (h : cOps.rep w [v] ops) : OpsRd w v ops := by
  obtain ⟨ao, cap, rfl, _, _, h3, h4⟩ := rd_elem h
  rw [bytesOp] at h3
  refine ⟨ao, cap, rfl, by simp only [reachBytes] at h3; omega, fun hn => ?_⟩
  obtain ⟨b, off, rfl, h5⟩ := h4 hn
  refine ⟨b, off, rfl, fun i o hi => ?_⟩
  obtain ⟨cs, hc, hcell⟩ := h5 i o hi
  obtain ⟨x, rfl, hx, hxl⟩ := cOp_rd hc
  refine ⟨x, hx, hxl, ?_, ?_, ?_⟩
  · have := hcell 0 _ rfl
    exact this
  · have := hcell 1 _ rfl
    rw [← Nat.add_assoc] at this
    exact this
  · have := hcell 2 _ rfl
    rw [← Nat.add_assoc] at this
    exact this
theorem OpsRd.later {w w' : World} {v : Value} {ops : List OpD} (h : OpsRd w v ops) (hb : Below w.heap.size w w') : OpsRd w' v ops := by
  obtain ⟨ao, cap, h1, h2, h3⟩ := h
  refine ⟨ao, cap, h1, h2, fun hn => ?_⟩
  obtain ⟨b, off, h4, h5⟩ := h3 hn
  refine ⟨b, off, h4, fun i o hi => ?_⟩
  obtain ⟨x, hx, hl, a, b', c⟩ := h5 i o hi
  exact ⟨x, hx.later hb, hl, below_cell hb a (World.block_lt_of_cell? _ _ a), below_cell hb b' (World.block_lt_of_cell? _ _ b'), below_cell hb c (World.block_lt_of_cell? _ _ c)⟩
set_option maxRecDepth 100000 in
theorem cScript_rd {w : World} {cs : List Value} {s : ScriptD} (h : cScript.rep w cs s) : ∃ x, cs = [.int .i64 s.count, x] ∧ OpsRd w x s.ops := by
  obtain ⟨⟨k, o, u⟩, rfl, c1, c2, rfl, ⟨rfl, _⟩, c3, c4, rfl, h3, h4⟩ := h
  obtain rfl : c4 = [] := h4
  obtain ⟨v, hv⟩ : ∃ v, c3 = [v] := by
    have := cOps.len h3
    match c3, this with
    | [v], _ => exact ⟨v, rfl⟩
  subst hv
  exact ⟨v, rfl, cOps_rd h3⟩
end Go.Proofs.Ytgnbnkoanoalhaa
