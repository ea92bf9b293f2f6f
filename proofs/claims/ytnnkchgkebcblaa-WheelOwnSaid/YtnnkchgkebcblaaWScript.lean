/- How the scripts of chapter 10's statements read; two. -/
import Derived.Test.YtnnkchgkebcblaaCodecs
import Derived.Test.YtnnkchgkebcblaaWPlays
import Derived.Test.YtnnkchgkebcblaaWKnows
namespace Go.Proofs.Ytnnkchgkebcblaa
set_option linter.unusedVariables false
set_option linter.unusedSimpArgs false
open Go.RowKit
abbrev cOp : Codec Try.prog 41 (Int × Int × Int × Int × Unit) :=
  Codec.struct Try.underlying41 (FCodec.cons rfl cInt (FCodec.cons rfl cInt (FCodec.cons rfl cInt (FCodec.cons rfl cU64 (FCodec.nil _ _))))) (by kernel_rfl)
abbrev cOps : Codec Try.prog 32 (List (Int × Int × Int × Int × Unit)) := Codec.slice Try.underlying32 (by kernel_rfl) cOp (by decide)
theorem bytesOp : Try.prog.bytesOf 41 = 32 := by kernel_rfl
def opd (x : Int × Int × Int × Int × Unit) : Opd := ⟨x.1, x.2.1, x.2.2.1, x.2.2.2.1.toNat⟩
/-- operations read: a slice value; of each its four cells. -/
def OpsRd (w : World) (v : Value) (ops : List Opd) : Prop :=
  ∃ ao cap, v = .slice ao ops.length cap ∧ ops.length ≤ 4398046511000 ∧ (0 < ops.length → ∃ b off, ao = some ⟨b, off, none⟩ ∧
    ∀ i o, ops[i]? = some o → (key o.id).wf = true ∧ (o.on = wrap64 o.on) ∧ w.cell? ⟨b, off + i * 4, none⟩ = some (.int .i64 o.on) ∧ w.cell? ⟨b, off + i * 4 + 1, none⟩ = some (.int .i64 o.kind) ∧ w.cell? ⟨b, off + i * 4 + 2, none⟩ = some (.int .i64 o.id) ∧ w.cell? ⟨b, off + i * 4 + 3, none⟩ = some (.int .u64 (o.at_ : Int)))
theorem wf_wrap {x : Int} (h : (Lit.int .i64 x).wf = true) : x = wrap64 x := by
  simp only [Lit.wf, Bool.and_eq_true, decide_eq_true_eq] at h
  have e1 : IntKind.i64.min = -9223372036854775808 := by decide
  have e2 : IntKind.i64.max = 9223372036854775807 := by decide
  unfold wrap64
  omega
theorem u64_nat {x : Int} (h : (Lit.int .u64 x).wf = true) : ((x.toNat : Nat) : Int) = x := by
  simp only [Lit.wf, Bool.and_eq_true, decide_eq_true_eq] at h
  have e1 : IntKind.u64.min = 0 := by decide
  omega
set_option maxRecDepth 100000 in
theorem cOp_rd {w : World} {cs : List Value} {x : Int × Int × Int × Int × Unit} (h : cOp.rep w cs x) :
    cs = [.int .i64 (opd x).on, .int .i64 (opd x).kind, .int .i64 (opd x).id, .int .u64 ((opd x).at_ : Int)] ∧ (key (opd x).id).wf = true ∧ (opd x).on = wrap64 (opd x).on := by
  obtain ⟨a, b, c, d, u⟩ := x
  obtain ⟨c1, c2, rfl, ⟨rfl, wa⟩, c3, c4, rfl, ⟨rfl, wb⟩, c5, c6, rfl, ⟨rfl, wc⟩, c7, c8, rfl, ⟨rfl, wd⟩, h5⟩ := h
  obtain rfl : c8 = [] := h5
  refine ⟨?_, wc, wf_wrap wa⟩
  show [_, _, _, _] = [_, _, _, _]
  have : (((opd (a, b, c, d, u)).at_ : Nat) : Int) = d := u64_nat wd
  rw [this]
  rfl
set_option maxRecDepth 100000 in
theorem cOps_rd {w : World} {v : Value} {xs : List (Int × Int × Int × Int × Unit)} (h : cOps.rep w [v] xs) : OpsRd w v (xs.map opd) := by
  obtain ⟨ao, cap, rfl, _, _, h3, h4⟩ := rd_elem h
  rw [bytesOp] at h3
  refine ⟨ao, cap, by rw [List.length_map], by rw [List.length_map]; simp only [reachBytes] at h3; omega, fun hn => ?_⟩
  rw [List.length_map] at hn
  obtain ⟨b, off, rfl, h5⟩ := h4 hn
  refine ⟨b, off, rfl, fun i o hi => ?_⟩
  rw [List.getElem?_map, Option.map_eq_some_iff] at hi
  obtain ⟨x, hx, rfl⟩ := hi
  obtain ⟨cs, hc, hcell⟩ := h5 i x hx
  obtain ⟨rfl, hw, hon⟩ := cOp_rd hc
  refine ⟨hw, hon, ?_, ?_, ?_, ?_⟩
  · exact hcell 0 _ rfl
  · have := hcell 1 _ rfl
    rw [← Nat.add_assoc] at this
    exact this
  · have := hcell 2 _ rfl
    rw [← Nat.add_assoc] at this
    exact this
  · have := hcell 3 _ rfl
    rw [← Nat.add_assoc] at this
    exact this
theorem OpsRd.later {w w' : World} {v : Value} {ops : List Opd} (h : OpsRd w v ops) (hb : Below w.heap.size w w') : OpsRd w' v ops := by
  obtain ⟨ao, cap, h1, h2, h3⟩ := h
  refine ⟨ao, cap, h1, h2, fun hn => ?_⟩
  obtain ⟨b, off, h4, h5⟩ := h3 hn
  refine ⟨b, off, h4, fun i o hi => ?_⟩
  obtain ⟨x, y, a, b', c, d⟩ := h5 i o hi
  exact ⟨x, y, below_cell hb a (World.block_lt_of_cell? _ _ a), below_cell hb b' (World.block_lt_of_cell? _ _ b'), below_cell hb c (World.block_lt_of_cell? _ _ c), below_cell hb d (World.block_lt_of_cell? _ _ d)⟩
/-- operation i, in a later world. -/
theorem OpsRd.at {w w' : World} {v : Value} {ops : List Opd} (h : OpsRd w v ops) (hb : Below w.heap.size w w') {i : Nat} {o : Opd} (hi : ops[i]? = some o) {ao : Option Addr} {cap : Nat} (hv : v = .slice ao ops.length cap) :
    ∃ b off, ao = some ⟨b, off, none⟩ ∧ (key o.id).wf = true ∧ o.on = wrap64 o.on ∧ w'.cell? ⟨b, off + i * 4, none⟩ = some (.int .i64 o.on) ∧ w'.cell? ⟨b, off + i * 4 + 1, none⟩ = some (.int .i64 o.kind) ∧ w'.cell? ⟨b, off + i * 4 + 2, none⟩ = some (.int .i64 o.id) ∧ w'.cell? ⟨b, off + i * 4 + 3, none⟩ = some (.int .u64 (o.at_ : Int)) := by
  obtain ⟨ao', cap', h1, h2, h3⟩ := h.later hb
  rw [hv] at h1
  injection h1 with h1
  subst h1
  obtain ⟨b, off, h4, h5⟩ := h3 (by have := (List.getElem?_eq_some_iff.1 hi).1; omega)
  exact ⟨b, off, h4, h5 i o hi⟩
theorem and1 (x : Int) : ∃ k : Nat, k < 2 ∧ bits .and .i64 x 1 = (k : Int) := by
  have e : bits .and .i64 x 1 = IntKind.i64.wrap (((BitVec.ofInt 64 x) &&& (BitVec.ofInt 64 1)).toNat : Int) := rfl
  have h1 : (BitVec.ofInt 64 1).toNat = 1 := by decide
  rw [BitVec.toNat_and, h1, Nat.and_one_is_mod] at e
  refine ⟨(BitVec.ofInt 64 x).toNat % 2, Nat.mod_lt _ (by decide), ?_⟩
  rw [e, IntKind.wrap_i64]
  omega
end Go.Proofs.Ytnnkchgkebcblaa
