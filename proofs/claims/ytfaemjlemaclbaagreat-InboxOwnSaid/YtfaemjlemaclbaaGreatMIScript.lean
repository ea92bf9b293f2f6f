/- How the scripts of chapter 13's statements read. -/
import Derived.Test.YtfaemjlemaclbaaGreatMBase
import Derived.Test.YtfaemjlemaclbaaGreatMRefGot
namespace Go.Proofs.YtfaemjlemaclbaaGreat
set_option linter.unusedVariables false
set_option linter.unusedSimpArgs false
open Go.RowKit
abbrev UT := Int × Int × Int × Int × Int × Int × List UInt8 × Int × List (Int × Int) × Unit
abbrev cUnit : Codec Tryz.prog 35 UT :=
  Codec.struct Tryz.underlying35 (FCodec.cons rfl cInt (FCodec.cons rfl cU64 (FCodec.cons rfl cU64 (FCodec.cons rfl cInt (FCodec.cons rfl cInt (FCodec.cons rfl cInt (FCodec.cons rfl cBytes (FCodec.cons rfl cInt (FCodec.cons rfl cRanges (FCodec.nil _ _)))))))))) (by kernel_rfl)
abbrev OT := Int × UT × Int × Int × Int × Unit
abbrev cOpI : Codec Tryz.prog 37 OT :=
  Codec.struct Tryz.underlying37 (FCodec.cons rfl cInt (FCodec.cons rfl cUnit (FCodec.cons rfl cU64 (FCodec.cons rfl cU64 (FCodec.cons rfl cInt (FCodec.nil _ _)))))) (by kernel_rfl)
abbrev cOpsI : Codec Tryz.prog 22 (List OT) := Codec.slice Tryz.underlying22 (by kernel_rfl) cOpI (by decide)
theorem bytesOpI : Tryz.prog.bytesOf 37 = 136 := by kernel_rfl
def u64n (x : Int) : UInt64 := UInt64.ofNat x.toNat
theorem u64n_eq {x : Int} (h : (Lit.int .u64 x).wf = true) : ((u64n x).toNat : Int) = x := by
  simp only [Lit.wf, Bool.and_eq_true, decide_eq_true_eq] at h
  have e1 : IntKind.u64.min = 0 := by decide
  have e2 : IntKind.u64.max = 18446744073709551615 := by decide
  unfold u64n
  rw [UInt64.toNat_ofNat_of_lt' (by show x.toNat < 18446744073709551616; omega)]
  omega
def udT (x : UT) : UD := ⟨x.1, u64n x.2.1, u64n x.2.2.1, x.2.2.2.1, x.2.2.2.2.1, x.2.2.2.2.2.1, x.2.2.2.2.2.2.1, x.2.2.2.2.2.2.2.1, x.2.2.2.2.2.2.2.2.1⟩
def opT (x : OT) : OpI := ⟨x.1, udT x.2.1, u64n x.2.2.1, u64n x.2.2.2.1, x.2.2.2.2.1⟩
def ucells (u : UD) (dv gv : Value) : List Value := [.int .i64 u.kind, .int .u64 (u.ep.toNat : Int), .int .u64 (u.ses.toNat : Int), .int .i64 u.path, .int .i64 u.idx, .int .i64 u.cnt, dv, .int .i64 u.code, gv]
def opcells (o : OpI) (dv gv : Value) : List Value := .int .i64 o.kind :: ucells o.u dv gv ++ [.int .u64 (o.ep.toNat : Int), .int .u64 (o.num.toNat : Int), .int .i64 o.code]
/-- how a unit's lists read. -/
structure URd (w : World) (u : UD) (dv gv : Value) : Prop where
  dat : Bs w dv u.data
  got : Rgs w gv u.got
  l1 : u.data.length ≤ 140737488351232
  l2 : u.got.length ≤ 8796093022000
theorem URd.later {w w' : World} {u : UD} {dv gv : Value} (h : URd w u dv gv) (hb : Below w.heap.size w w') : URd w' u dv gv := ⟨Rd.later h.dat hb, h.got.later hb, h.l1, h.l2⟩
theorem rd_far {w : World} {v : Value} {n : Nat} {cs : List Value} (h : Rd w v n cs) (hc : cs ≠ []) : ∀ b, v.ownBlock = some b → b < w.heap.size := fun b e => by
  obtain ⟨b', off, cap, rfl, -, -, h1, -⟩ := h.form hc
  have : b' = b := Option.some.inj e
  omega
theorem URd.dfar {w : World} {u : UD} {dv gv : Value} (h : URd w u dv gv) : u.data ≠ [] → ∀ b, dv.ownBlock = some b → b < w.heap.size := fun hn => rd_far h.dat (by simpa using hn)
theorem URd.gfar {w : World} {u : UD} {dv gv : Value} (h : URd w u dv gv) : u.got ≠ [] → ∀ b, gv.ownBlock = some b → b < w.heap.size := fun hn => rd_far h.got fun e => hn (by
  have := rvs_len u.got
  rw [e] at this
  exact List.length_eq_zero_iff.1 (by simp at this; omega))
def OpsRdI (w : World) (v : Value) (ops : List OpI) : Prop :=
  ∃ ao cap, v = .slice ao ops.length cap ∧ ops.length ≤ 1099511627776 ∧ (0 < ops.length → ∃ b off, ao = some ⟨b, off, none⟩ ∧
    ∀ i o, ops[i]? = some o → ∃ dv gv, URd w o.u dv gv ∧ ∀ j u, (opcells o dv gv)[j]? = some u → w.cell? ⟨b, off + (i * 13 + j), none⟩ = some u)
set_option maxRecDepth 100000 in
theorem cUnit_rd {w : World} {cs : List Value} {x : UT} (h : cUnit.rep w cs x) : ∃ dv gv, cs = ucells (udT x) dv gv ∧ URd w (udT x) dv gv := by
  obtain ⟨a, b, c, d, e, f, g, hh, i, u⟩ := x
  obtain ⟨c1, c2, rfl, ⟨rfl, wa⟩, c3, c4, rfl, ⟨rfl, wb⟩, c5, c6, rfl, ⟨rfl, wc⟩, c7, c8, rfl, ⟨rfl, wd⟩, c9, c10, rfl, ⟨rfl, we⟩, c11, c12, rfl, ⟨rfl, wf⟩, c13, c14, rfl, hg, c15, c16, rfl, ⟨rfl, wh⟩, c17, c18, rfl, hi, h9⟩ := h
  obtain rfl : c18 = [] := h9
  simp only at hg hi
  obtain ⟨dv, rfl⟩ : ∃ dv, c13 = [dv] := by obtain ⟨v, css, h, _⟩ := hg; exact ⟨v, h⟩
  obtain ⟨gv, rfl⟩ : ∃ gv, c17 = [gv] := by obtain ⟨v, css, h, _⟩ := hi; exact ⟨v, h⟩
  obtain ⟨h1, h2⟩ := cBytes_bs hg
  obtain ⟨h3, h4, -⟩ := cRanges_rd hi
  refine ⟨dv, gv, ?_, h1, h3, h2, by show i.length ≤ _; omega⟩
  show [_, _, _, _, _, _, _, _, _] = [_, _, _, _, _, _, _, _, _]
  have e1 : ((udT (a, b, c, d, e, f, g, hh, i, u)).ep.toNat : Int) = b := u64n_eq wb
  have e2 : ((udT (a, b, c, d, e, f, g, hh, i, u)).ses.toNat : Int) = c := u64n_eq wc
  rw [e1, e2]
  rfl
set_option maxRecDepth 100000 in
theorem cOpI_rd {w : World} {cs : List Value} {x : OT} (h : cOpI.rep w cs x) : ∃ dv gv, cs = opcells (opT x) dv gv ∧ URd w (opT x).u dv gv := by
  obtain ⟨a, b, c, d, e, u⟩ := x
  obtain ⟨c1, c2, rfl, ⟨rfl, wa⟩, c3, c4, rfl, hb, c5, c6, rfl, ⟨rfl, wc⟩, c7, c8, rfl, ⟨rfl, wd⟩, c9, c10, rfl, ⟨rfl, we⟩, h9⟩ := h
  obtain rfl : c10 = [] := h9
  obtain ⟨dv, gv, rfl, h1⟩ := cUnit_rd hb
  refine ⟨dv, gv, ?_, h1⟩
  have e1 : ((opT (a, b, c, d, e, u)).ep.toNat : Int) = c := u64n_eq wc
  have e2 : ((opT (a, b, c, d, e, u)).num.toNat : Int) = d := u64n_eq wd
  unfold opcells
  rw [e1, e2]
  rfl
set_option maxRecDepth 100000 in
theorem cOpsI_rd {w : World} {v : Value} {xs : List OT} (h : cOpsI.rep w [v] xs) : OpsRdI w v (xs.map opT) := by
  obtain ⟨ao, cap, rfl, _, _, h3, h4⟩ := rd_elem h
  rw [bytesOpI] at h3
  refine ⟨ao, cap, by rw [List.length_map], by rw [List.length_map]; simp only [reachBytes] at h3; omega, fun hn => ?_⟩
  rw [List.length_map] at hn
  obtain ⟨b, off, rfl, h5⟩ := h4 hn
  refine ⟨b, off, rfl, fun i o hi => ?_⟩
  rw [List.getElem?_map, Option.map_eq_some_iff] at hi
  obtain ⟨x, hx, rfl⟩ := hi
  obtain ⟨cs, hc, hcell⟩ := h5 i x hx
  obtain ⟨dv, gv, rfl, h6⟩ := cOpI_rd hc
  exact ⟨dv, gv, h6, fun j u hu => hcell j u hu⟩
theorem OpsRdI.later {w w' : World} {v : Value} {ops : List OpI} (h : OpsRdI w v ops) (hb : Below w.heap.size w w') : OpsRdI w' v ops := by
  obtain ⟨ao, cap, h1, h2, h3⟩ := h
  refine ⟨ao, cap, h1, h2, fun hn => ?_⟩
  obtain ⟨b, off, h4, h5⟩ := h3 hn
  refine ⟨b, off, h4, fun i o hi => ?_⟩
  obtain ⟨dv, gv, h6, h7⟩ := h5 i o hi
  exact ⟨dv, gv, h6.later hb, fun j u hu => below_cell hb (h7 j u hu) (World.block_lt_of_cell? _ _ (h7 j u hu))⟩
/-- operation i, in a later world. -/
theorem OpsRdI.at {w w' : World} {v : Value} {ops : List OpI} (h : OpsRdI w v ops) (hb : Below w.heap.size w w') {i : Nat} {o : OpI} (hi : ops[i]? = some o) {ao : Option Addr} {cap : Nat} (hv : v = .slice ao ops.length cap) :
    ∃ b off dv gv, ao = some ⟨b, off, none⟩ ∧ URd w' o.u dv gv ∧ (o.u.data ≠ [] → ∀ b, dv.ownBlock = some b → b < w.heap.size) ∧ (o.u.got ≠ [] → ∀ b, gv.ownBlock = some b → b < w.heap.size) ∧ ∀ j u, (opcells o dv gv)[j]? = some u → w'.cell? ⟨b, off + (i * 13 + j), none⟩ = some u := by
  obtain ⟨ao', cap', h1, h2, h3⟩ := h
  rw [hv] at h1
  injection h1 with h1
  subst h1
  obtain ⟨b, off, h4, h5⟩ := h3 (by have := (List.getElem?_eq_some_iff.1 hi).1; omega)
  obtain ⟨dv, gv, h6, h7⟩ := h5 i o hi
  exact ⟨b, off, dv, gv, h4, h6.later hb, h6.dfar, h6.gfar, fun j u hu => below_cell hb (h7 j u hu) (World.block_lt_of_cell? _ _ (h7 j u hu))⟩
end Go.Proofs.YtfaemjlemaclbaaGreat
