/- Now, Len. -/
import Derived.Test.YtnnkchgkebcblaaWStop
namespace Go.Proofs.Ytnnkchgkebcblaa
set_option linter.unusedVariables false
set_option linter.unusedSimpArgs false
open Go.RowKit Go.Maps
set_option maxHeartbeats 1000000 in
set_option maxRecDepth 100000 in
theorem now_any (g mb : Nat) (sl : List Value) (now sets : Nat) (R : Nat → List Tm) (m : Int → Option Pl) (N : Nat) (w : World) (h : WAt w g mb sl now sets R m N) :
    Calls Try.prog 26 #[.pointer (some ⟨g, 0, none⟩)] w fun e w' => e = .returned (.int .u64 (now : Int)) ∧ w' = w := by
  have c0 := h.c0
  have c1 := h.c1
  clear h
  go_enter Try.func26, Try.ntmps26
  go_wp2_with fail
  go_ret
  exact ⟨rfl, rfl⟩
set_option maxHeartbeats 1000000 in
set_option maxRecDepth 100000 in
theorem len_any (g mb : Nat) (sl : List Value) (now sets : Nat) (R : Nat → List Tm) (m : Int → Option Pl) (N : Nat) (w : World) (h : WAt w g mb sl now sets R m N) :
    Calls Try.prog 27 #[.pointer (some ⟨g, 0, none⟩)] w fun e w' => e = .returned (.int .i64 (N : Int)) ∧ w' = w := by
  have c0 := h.c0
  have c515 := h.c515
  obtain ⟨D, q1, q2, _⟩ := h.map.ex
  have hlen := fun ty => q1.len (P := Try.prog) Try.underlying67 ty
  rw [q2] at hlen
  clear h q1 q2
  go_enter Try.func27, Try.ntmps27
  go_wp2_with fail
  go_ret
  exact ⟨rfl, rfl⟩
theorem zeroWheel : Try.zeroCells69 = (.bool false :: .int .u64 0 :: .int .u64 0 :: (List.replicate 512 (.slice none 0 0) ++ [.map none])).toArray := by kernel_rfl
theorem set_gen (a b c m a' b' m' : Value) (B : List Value) (hB : B.length = 512) : (((a :: b :: c :: (B ++ [m])).set 0 a').set 1 b').set 515 m' = a' :: b' :: c :: (B ++ [m']) := by
  show a' :: b' :: c :: ((B ++ [m]).set 512 m') = _
  rw [List.set_append_right _ _ (by omega), hB]
  rfl
theorem newCells (x mb : Nat) : ((Try.zeroCells69.setIfInBounds 0 (.bool true)).setIfInBounds 1 (.int .u64 (x : Int))).setIfInBounds 515 (.map (some mb)) = (wcells mb (List.replicate 512 (.slice none 0 0)) x 0).toArray := by
  rw [zeroWheel, List.setIfInBounds_toArray, List.setIfInBounds_toArray, List.setIfInBounds_toArray, set_gen _ _ _ _ _ _ _ _ List.length_replicate]
  rfl
set_option maxHeartbeats 4000000 in
set_option maxRecDepth 100000 in
theorem new_any (x : Nat) (w : World) :
    Calls Try.prog 13 #[.int .u64 (x : Int)] w fun e w' => ∃ g mb, e = .returned (.tuple #[.pointer (some ⟨g, 0, none⟩), .int .i64 0]) ∧ WAt w' g mb (List.replicate 512 (.slice none 0 0)) (min x 281474976710655) 0 (fun _ => []) (fun _ => none) 0 ∧ w.heap.size ≤ g ∧ w.heap.size ≤ mb ∧ Below w.heap.size w w' := by
  have hmm := @run_makeMap Try.prog
  go_enter Try.func13, Try.ntmps13
  go_wp2_with fail
  refine (time_any x _).mono ?_
  rintro e w1 ⟨rfl, rfl⟩
  go_wp2_with fail
  rw [newCells]
  obtain ⟨W2, hW2⟩ : ∃ W2, W2 = (w1.alloc (.map #[] 0)).alloc (.cells (wcells w1.heap.size (List.replicate 512 (.slice none 0 0)) (min x 281474976710655) 0).toArray 69) := ⟨_, rfl⟩
  rw [← hW2]
  have hblk : Blk W2 (w1.heap.size + 1) 69 (wcells w1.heap.size (List.replicate 512 (.slice none 0 0)) (min x 281474976710655) 0) := by
    have := Blk.new (w1.alloc (.map #[] 0)) 69 (wcells w1.heap.size (List.replicate 512 (.slice none 0 0)) (min x 281474976710655) 0)
    rw [← hW2] at this
    simpa using this
  have hmap : OwnsM W2 w1.heap.size 0 (.map []) := by
    rw [hW2]
    exact (World.ownsMap_made w1 Try.prog 3 plR).alloc _
  have hB : Below w1.heap.size w1 W2 := by
    rw [hW2]
    exact ((Below.refl _ _).alloc (Nat.le_refl _) _).alloc (by simp) _
  clear hW2 hmm
  go_ret2
  refine ⟨w1.heap.size + 1, w1.heap.size, rfl, ⟨List.length_replicate, hblk, ⟨fun i y hy => ?_, fun i j y z hij hy hz => ?_⟩, ⟨_, hmap, rfl, fun i hi => rfl, fun i p hi hp => by cases hp⟩⟩, by omega, Nat.le_refl _, hB⟩
  · rw [List.getElem?_replicate] at hy
    split at hy
    · injection hy with hy
      subst hy
      exact World.ownsRow_nil _ _ _ _
    · cases hy
  · rw [List.getElem?_replicate] at hy
    split at hy
    · injection hy with hy
      subst hy
      exact .inl rfl
    · cases hy
end Go.Proofs.Ytnnkchgkebcblaa
