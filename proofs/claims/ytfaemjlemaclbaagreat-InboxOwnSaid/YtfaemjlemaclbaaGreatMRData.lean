/- the reference's Data. -/
import Derived.Test.YtfaemjlemaclbaaGreatMRefGot
namespace Go.Proofs.YtfaemjlemaclbaaGreat
set_option linter.unusedVariables false
set_option linter.unusedSimpArgs false
open Go.RowKit Go.Maps
set_option maxHeartbeats 2000000 in
set_option maxRecDepth 100000 in
theorem rdata_any (u : UD) (dp gp : Option Addr) (dc gc : Nat) (w : World) :
    Calls Tryz.prog 43 #[.agg #[.int .i64 u.kind, .int .u64 (u.ep.toNat : Int), .int .u64 (u.ses.toNat : Int), .int .i64 u.path, .int .i64 u.idx, .int .i64 u.cnt, .slice dp u.data.length dc, .int .i64 u.code, .slice gp u.got.length gc]] w fun e w' => e = .returned (.bool (decide u.isData)) ∧ Below w.heap.size w w' := by
  have hdec : decide u.isData = (decide (u.kind = 1) && (decide (1 ≤ u.ep.toNat) && decide (u.ep.toNat ≤ 281474976710655)) && (decide (1 ≤ u.ses.toNat) && decide (u.ses.toNat ≤ 281474976710655)) && ((decide (1 ≤ u.path) && decide (u.path ≤ 2)) && (decide (1 ≤ u.cnt) && decide (u.cnt ≤ 64)) && (decide (0 ≤ u.idx) && decide (u.idx < u.cnt)) && (decide (1 ≤ u.data.length) && decide (u.data.length ≤ 1024)) && decide (u.code = 0) && decide (u.got.length = 0))) := by
    rw [Bool.eq_iff_iff, decide_eq_true_iff]
    simp only [decide_eq_true_eq, Bool.and_eq_true, UD.isData, goodD, named]
    omega
  rw [hdec]
  obtain ⟨kind, ep, ses, path, idx, cnt, data, code, got⟩ := u
  simp only
  obtain ⟨n, hn⟩ : ∃ n, n = data.length := ⟨_, rfl⟩
  obtain ⟨k, hk⟩ : ∃ k, k = got.length := ⟨_, rfl⟩
  obtain ⟨e1, he1⟩ : ∃ e1, e1 = ep.toNat := ⟨_, rfl⟩
  obtain ⟨e2, he2⟩ : ∃ e2, e2 = ses.toNat := ⟨_, rfl⟩
  rw [← hn, ← hk, ← he1, ← he2]
  clear hn hk hdec he1 he2
  go_enter Tryz.func43, Tryz.ntmps43
  go_wp2
  all_goals
    go_ret
    refine ⟨?_, (Below.refl _ _).alloc (Nat.le_refl _) _⟩
    congr 2 <;> first | (simp [*]; done) | (simp [*]; omega) | (refine congrArg Value.bool ?_; rw [Bool.eq_iff_iff]; simp only [beq_iff_eq, Bool.and_eq_true, decide_eq_true_eq]; omega)
end Go.Proofs.YtfaemjlemaclbaaGreat
