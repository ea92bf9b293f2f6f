/- LendBytes answers a copy in new memory with four marks behind it. -/
import Derived.Test.YtgnbnkoanoalhaaTypes
namespace Go.Proofs.Ytgnbnkoanoalhaa
set_option linter.unusedVariables false
set_option linter.unusedSimpArgs false
open Go.RowKit

/-- LendBytes: a copy in new memory, with four marks behind it. -/
def Lent (base : Nat) (v : Value) (l : List UInt8) (m : UInt8) (w : World) : Prop :=
  ∃ g c, v = .slice (some ⟨g, 0, none⟩) l.length c ∧ w.ownsRow base 5 1 (.slice (some ⟨g, 0, none⟩) (l.length + 4) c) (l.length + 4) ((l ++ List.replicate 4 m).map ub)

set_option maxHeartbeats 400000 in
set_option maxRecDepth 100000 in
theorem lend_any (v : Value) (l : List UInt8) (m : UInt8) (w : World) (hl : l.length ≤ 140737488351232) (hr : Bs w v l) :
    Calls Try.prog 13 #[v, .int .u8 (m.toNat : Int)] w fun e w' => ∃ v', e = .returned v' ∧ Lent w.heap.size v' l m w' ∧ Below w.heap.size w w' := by
  obtain ⟨ao, cap, rfl, hn, hm, hc⟩ := id hr
  go_enter Try.func13, Try.ntmps13
  go_wp2_with (at_builtin; refine wpList_app El.u8 rfl _ _ rfl (World.ownsRow_nil _ w.heap.size _ _) rfl hr rfl ?c0 (ub_one l) ?c1 (Nat.le_refl _) ?_)
  case c0 => simp
  case c1 => omega
  intro v1 w1 hown hgr _
  have hB := (Below.refl w.heap.size w).grown hgr (Nat.le_refl _) (by simp [Value.ownBlock])
  clear hgr
  go_wp2
  go_loopw [5, 6] (fun v i wr => ∃ k : Nat, k ≤ 4 ∧ i = .int .i64 k ∧ wr.ownsRow w.heap.size 5 1 v (l.length + k) ((l ++ List.replicate k m).map ub) ∧ Below w.heap.size w wr)
    (fun _ i _ => 4 - (intOf i).toNat)
  case atStart => exact ⟨0, by omega, rfl, by simpa using hown, hB⟩
  case round =>
    obtain ⟨k, hk, rfl, hown, hB⟩ := hrel
    have hz := hB.size
    by_cases hk4 : k < 4
    · go_wp2_with (at_builtin; refine wpList_app1 El.u8 rfl _ _ rfl hown rfl rfl rfl (ub_one [m]) ?c1 hz ?_)
      case c1 => omega
      intro v1 w1 hown1 hgr _
      have hB1 := hB.grown hgr hz (fun k hk => (hown.lt k hk).1)
      clear hgr hown hB
      go_wp2
      go_roundw
      case rel => exact ⟨k + 1, by omega, by go_num, by simpa [List.replicate_succ', ub, Nat.add_assoc] using hown1, hB1⟩
      case measure => simp [intOf]; omega
    · obtain rfl : k = 4 := by omega
      obtain ⟨g, c, rfl, hc⟩ : ∃ g c, u5 = Value.slice (some ⟨g, 0, none⟩) (l.length + 4) c ∧ l.length + 4 ≤ c := by
        rcases hown.2 with ⟨_, h⟩ | ⟨g, c, _, h, _, _, h2, _⟩
        · omega
        · exact ⟨g, c, h, h2⟩
      go_wp2
      go_ret
      exact ⟨_, rfl, ⟨g, c, rfl, hown⟩, hB⟩
end Go.Proofs.Ytgnbnkoanoalhaa
