/- both: an inbox of the program and the document's. -/
import Derived.Test.YtfaemjlemaclbaaGreatMIDuo
import Derived.Test.YtfaemjlemaclbaaGreatMIOne
namespace Go.Proofs.YtfaemjlemaclbaaGreat
set_option linter.unusedVariables false
set_option linter.unusedSimpArgs false
open Go.RowKit Go.Maps
def BothYes (w : World) (a b : Nat) (e : Ending) (w' : World) : Prop := ∃ x d S, e = .returned (.tuple #[.pointer (some ⟨x, 0, none⟩), .pointer (some ⟨d, 0, none⟩), .bool true]) ∧ IDuo w' x d S 0 ⟨a, b, 0, [], []⟩ ∧ (∀ c, S c → w.heap.size ≤ c) ∧ Below w.heap.size w w'
set_option maxHeartbeats 1000000 in
set_option maxRecDepth 100000 in
theorem both_yes (a b : Nat) (w : World) (h : newOk a b) : Calls Tryz.prog 9 #[.int .i64 (a : Int), .int .i64 (b : Int)] w fun e w' => BothYes w a b e w' := by
  go_enter Tryz.func9, Tryz.ntmps9
  go_wp2_with fail
  refine (inew_yes a b w h).mono ?_
  rintro e w1 ⟨x, Si, rfl, h1, hS1, hB1⟩
  have H1 := Lib.hid h1; have HS1 := Lib.hid hS1; have HB1 := Lib.hid hB1
  clear h1 hS1 hB1
  go_wp2_with fail
  refine (ri_new a b w1 h).mono ?_
  rintro e w2 ⟨d, Sr, rfl, h2, hS2, hB2⟩
  have H2 := Lib.hid h2; have HS2 := Lib.hid hS2; have HB2 := Lib.hid hB2
  clear h2 hS2 hB2
  go_wp2_with fail
  go_ret3
  refine ⟨x, d, fun c => Si c ∨ Sr c, rfl, ⟨Si, Sr, H1.out.later HB2.out, H2.out, fun c h h' => ?_, fun c => Iff.rfl⟩, fun c hc => ?_, below_trans HB1.out HB2.out⟩
  · have h1 := H1.out.lt h
    have h2 := HS2.out c h'
    omega
  · have := HB1.out.size
    rcases hc with h | h
    · exact HS1.out c h
    · have := HS2.out c h
      omega
set_option maxHeartbeats 1000000 in
set_option maxRecDepth 100000 in
theorem both_no (a b : Int) (w : World) (h : ¬ newOk a b) : Calls Tryz.prog 9 #[.int .i64 a, .int .i64 b] w fun e w' => e = .returned (.tuple #[.pointer none, .pointer none, .bool true]) ∧ w' = w := by
  go_enter Tryz.func9, Tryz.ntmps9
  go_wp2_with fail
  refine (inew_no a b w h).mono ?_
  rintro e w1 ⟨rfl, rfl⟩
  go_wp2_with fail
  refine (rinew_no a b w1 h).mono ?_
  rintro e w2 ⟨rfl, rfl⟩
  go_wp2_with fail
  go_ret3
  exact ⟨rfl, rfl⟩
end Go.Proofs.YtfaemjlemaclbaaGreat
