/- How a unit reads. -/
import Derived.Test.YtghjffgaebnhiaaDoorMBase
import Derived.Test.YtghjffgaebnhiaaDoorMCrc
namespace Go.Proofs.YtghjffgaebnhiaaDoor
set_option linter.unusedVariables false
set_option linter.unusedSimpArgs false
open Go.RowKit
abbrev UT := Int × Int × Int × Int × Int × Int × List UInt8 × Int × List (Int × Int) × Unit
abbrev cUnit : Codec Tryd.prog 26 UT :=
  Codec.struct Tryd.underlying26 (FCodec.cons rfl cInt (FCodec.cons rfl cU64 (FCodec.cons rfl cU64 (FCodec.cons rfl cInt (FCodec.cons rfl cInt (FCodec.cons rfl cInt (FCodec.cons rfl cBytes (FCodec.cons rfl cInt (FCodec.cons rfl cRanges (FCodec.nil _ _)))))))))) (by kernel_rfl)
def u64n (x : Int) : UInt64 := UInt64.ofNat x.toNat
theorem u64n_eq {x : Int} (h : (Lit.int .u64 x).wf = true) : ((u64n x).toNat : Int) = x := by
  simp only [Lit.wf, Bool.and_eq_true, decide_eq_true_eq] at h
  have e1 : IntKind.u64.min = 0 := by decide
  have e2 : IntKind.u64.max = 18446744073709551615 := by decide
  unfold u64n
  rw [UInt64.toNat_ofNat_of_lt' (by show x.toNat < 18446744073709551616; omega)]
  omega
def udT (x : UT) : UD := ⟨x.1, u64n x.2.1, u64n x.2.2.1, x.2.2.2.1, x.2.2.2.2.1, x.2.2.2.2.2.1, x.2.2.2.2.2.2.1, x.2.2.2.2.2.2.2.1, x.2.2.2.2.2.2.2.2.1⟩
def ucells (u : UD) (dv gv : Value) : List Value := [.int .i64 u.kind, .int .u64 (u.ep.toNat : Int), .int .u64 (u.ses.toNat : Int), .int .i64 u.path, .int .i64 u.idx, .int .i64 u.cnt, dv, .int .i64 u.code, gv]
/-- how a unit's lists read. -/
structure URd (w : World) (u : UD) (dv gv : Value) : Prop where
  dat : Bs w dv u.data
  got : Rgs w gv u.got
  l1 : u.data.length ≤ 140737488351232
  l2 : u.got.length ≤ 8796093022000
theorem URd.later {w w' : World} {u : UD} {dv gv : Value} (h : URd w u dv gv) (hb : Below w.heap.size w w') : URd w' u dv gv := ⟨Rd.later h.dat hb, h.got.later hb, h.l1, h.l2⟩
theorem rd_far {w : World} {v : Value} {n : Nat} {cs : List Value} (h : Rd w v n cs) (hc : cs ≠ []) : ∀ b, v.ownBlock = some b → b < w.heap.size := fun b e => by
  obtain ⟨b', off, cap, rfl, -, -, h1, -⟩ := h.form hc
  have : b' = b := Option.some.inj e
  omega
theorem URd.dfar {w : World} {u : UD} {dv gv : Value} (h : URd w u dv gv) : u.data ≠ [] → ∀ b, dv.ownBlock = some b → b < w.heap.size := fun hn => rd_far h.dat (by simpa using hn)
theorem URd.gfar {w : World} {u : UD} {dv gv : Value} (h : URd w u dv gv) : u.got ≠ [] → ∀ b, gv.ownBlock = some b → b < w.heap.size := fun hn => rd_far h.got fun e => hn (by
  have := rvs_len u.got
  rw [e] at this
  exact List.length_eq_zero_iff.1 (by simp at this; omega))
set_option maxRecDepth 100000 in
theorem cUnit_rd {w : World} {cs : List Value} {x : UT} (h : cUnit.rep w cs x) : ∃ dv gv, cs = ucells (udT x) dv gv ∧ URd w (udT x) dv gv := by
  obtain ⟨a, b, c, d, e, f, g, hh, i, u⟩ := x
  obtain ⟨c1, c2, rfl, ⟨rfl, wa⟩, c3, c4, rfl, ⟨rfl, wb⟩, c5, c6, rfl, ⟨rfl, wc⟩, c7, c8, rfl, ⟨rfl, wd⟩, c9, c10, rfl, ⟨rfl, we⟩, c11, c12, rfl, ⟨rfl, wf⟩, c13, c14, rfl, hg, c15, c16, rfl, ⟨rfl, wh⟩, c17, c18, rfl, hi, h9⟩ := h
  obtain rfl : c18 = [] := h9
  simp only at hg hi
  obtain ⟨dv, rfl⟩ : ∃ dv, c13 = [dv] := by obtain ⟨v, css, h, _⟩ := hg; exact ⟨v, h⟩
  obtain ⟨gv, rfl⟩ : ∃ gv, c17 = [gv] := by obtain ⟨v, css, h, _⟩ := hi; exact ⟨v, h⟩
  obtain ⟨h1, h2⟩ := cBytes_bs hg
  obtain ⟨h3, h4, -⟩ := cRanges_rd hi
  refine ⟨dv, gv, ?_, h1, h3, h2, by show i.length ≤ _; omega⟩
  show [_, _, _, _, _, _, _, _, _] = [_, _, _, _, _, _, _, _, _]
  have e1 : ((udT (a, b, c, d, e, f, g, hh, i, u)).ep.toNat : Int) = b := u64n_eq wb
  have e2 : ((udT (a, b, c, d, e, f, g, hh, i, u)).ses.toNat : Int) = c := u64n_eq wc
  rw [e1, e2]
  rfl
end Go.Proofs.YtghjffgaebnhiaaDoor
