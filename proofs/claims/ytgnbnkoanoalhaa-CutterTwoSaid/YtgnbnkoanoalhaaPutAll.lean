/- Put, whatever it is handed. -/
import Derived.Test.YtgnbnkoanoalhaaBoxLaw
namespace Go.Proofs.Ytgnbnkoanoalhaa
set_option linter.unusedVariables false
set_option linter.unusedSimpArgs false
open Go.RowKit

theorem put_in (g cnt len i : Nat) (ps : List (List UInt8)) (v : Value) (seg : List UInt8) (w : World) (h : BoxAt w g cnt len ps) (hr : Bs w v seg) (hf : Fine cnt len ps)
    (h1 : i < cnt) (h3 : 1 ≤ seg.length) (h4 : seg.length ≤ 1024) :
    Calls Try.prog 21 #[.pointer (some ⟨g, 0, none⟩), .int .i64 i, v] w fun e w' => e = .returned (.int .i64 (putIn cnt len ps i seg)) ∧ PutPost w w' g cnt len i ps seg (putIn cnt len ps i seg) := by
  by_cases hp : ps.getD i [] = []
  · by_cases hl : i + 1 = cnt
    · exact put_last g cnt len i ps v seg w h hr hf hl h3 h4 hp
    · by_cases h0 : len = 0
      · exact put_mid0 g cnt len i (cnt - 1) ps _ v seg w h hr hf (by omega) (by omega) h3 h4 hp rfl h0
      · by_cases h5 : len = seg.length
        · exact put_midL g cnt len i (cnt - 1) ps _ v seg w h hr hf (by omega) (by omega) h3 h4 hp rfl h5
        · exact put_midN g cnt len i (cnt - 1) ps _ v seg w h hr hf (by omega) (by omega) h3 h4 hp rfl h0 h5
  · refine (put_there g cnt len i ps _ v seg w h hr hf h1 h3 h4 rfl hp).mono ?_
    rintro e w' ⟨rfl, rfl⟩
    have : putIn cnt len ps i seg = thereErr (ps.getD i []) seg := by
      rw [putIn, thereErr]
      by_cases hs : ps.getD i [] = seg
      · rw [if_pos hs, if_pos hs]
      · rw [if_neg hs, if_neg hs, if_pos hp]
    rw [this]
    refine ⟨rfl, Same.refl _ _, fun h0 => ?_, fun _ => h⟩
    rw [thereErr] at h0
    split at h0 <;> omega

/-- A box, as the mind has it. -/
structure BoxS where
  cnt : Nat
  len : Nat
  ps : List (List UInt8)
def BoxS.put (b : BoxS) (index : Int) (seg : List UInt8) : BoxS :=
  if putErr b.cnt b.len b.ps index seg = 0 then ⟨b.cnt, putLen b.cnt b.len index.toNat seg.length, b.ps.set index.toNat seg⟩ else b
def BoxS.at (b : BoxS) (w : World) (g : Nat) : Prop := BoxAt w g b.cnt b.len b.ps
def BoxS.fine (b : BoxS) : Prop := Fine b.cnt b.len b.ps
theorem putErr_in {cnt len : Nat} {ps : List (List UInt8)} {index : Int} {seg : List UInt8} (h : ¬ (index < 0 ∨ (cnt : Int) ≤ index ∨ seg.length = 0 ∨ 1024 < seg.length)) : putErr cnt len ps index seg = putIn cnt len ps index.toNat seg := if_neg h
theorem putErr_arg {cnt len : Nat} {ps : List (List UInt8)} {index : Int} {seg : List UInt8} (h : index < 0 ∨ (cnt : Int) ≤ index ∨ seg.length = 0 ∨ 1024 < seg.length) : putErr cnt len ps index seg = 1 := if_pos h
theorem BoxS.fine_put (b : BoxS) (hf : b.fine) (index : Int) (seg : List UInt8) : (b.put index seg).fine := by
  unfold BoxS.put
  split
  · next h0 =>
    by_cases hc : index < 0 ∨ (b.cnt : Int) ≤ index ∨ seg.length = 0 ∨ 1024 < seg.length
    · rw [putErr_arg hc] at h0; omega
    · refine ⟨hf.lo, hf.hi, ?_, fun p hp => ?_⟩
      · have := hf.len
        simp only [putLen]
        split
        · exact this
        · split <;> omega
      · rcases List.mem_or_eq_of_mem_set hp with h | h
        · exact hf.seg p h
        · subst h; omega
  · exact hf
theorem put_any (g : Nat) (b : BoxS) (index : Int) (v : Value) (seg : List UInt8) (w : World) (h : b.at w g) (hr : Bs w v seg) (hf : b.fine) :
    Calls Try.prog 21 #[.pointer (some ⟨g, 0, none⟩), .int .i64 index, v] w fun e w' =>
      e = .returned (.int .i64 (putErr b.cnt b.len b.ps index seg)) ∧ (b.put index seg).at w' g ∧ Same (at1 g) w w' := by
  by_cases hc : index < 0 ∨ (b.cnt : Int) ≤ index ∨ seg.length = 0 ∨ 1024 < seg.length
  · refine (put_arg g b.cnt b.len b.ps index v seg w h hr hc).mono ?_
    rintro e w' ⟨rfl, rfl⟩
    rw [putErr_arg hc]
    refine ⟨rfl, ?_, Same.refl _ _⟩
    rw [BoxS.put, putErr_arg hc, if_neg (by omega)]
    exact h
  · obtain ⟨i, rfl⟩ := Int.eq_ofNat_of_zero_le (show 0 ≤ index by omega)
    refine (put_in g b.cnt b.len i b.ps v seg w h hr hf (by omega) (by omega) (by omega)).mono ?_
    rintro e w' ⟨rfl, hS, hy, hn⟩
    have e := putErr_in (len := b.len) (ps := b.ps) hc
    simp only [Int.toNat_natCast] at e
    rw [e]
    refine ⟨rfl, ?_, hS⟩
    rw [BoxS.put, e]
    simp only [Int.toNat_natCast]
    split
    · next h0 => exact hy h0
    · next h0 => exact hn h0
def BoxS.ofH (k m : Nat) (l : List UInt8) (H : Nat → Bool) : BoxS := ⟨k, lenH k m H, psH m l k H⟩
theorem ofH_fine {l : List UInt8} {k m : Nat} {H : Nat → Bool} (h : Cuts l.length m k) : (BoxS.ofH k m l H).fine := fineH h
theorem ofH_err {l : List UInt8} {k m i : Nat} {H : Nat → Bool} (h : Cuts l.length m k) (hi : i < k) : putErr k (lenH k m H) (psH m l k H) (i : Int) (piece m l i) = if H i = true then 3 else 0 := by
  have hp := piece_pos h hi
  have hm := h.m1
  rw [putErr_in (by omega), Int.toNat_natCast]
  cases hH : H i with
  | true => rw [put_again h hi hH]; rfl
  | false => rw [(put_fresh h hi hH).1]; rfl
theorem addH_same {H : Nat → Bool} {i : Nat} (h : H i = true) : addH H i = H := by
  funext j
  unfold addH
  by_cases hj : j = i
  · subst hj; simp [h]
  · simp [hj]
theorem ofH_put {l : List UInt8} {k m i : Nat} {H : Nat → Bool} (h : Cuts l.length m k) (hi : i < k) : (BoxS.ofH k m l H).put (i : Int) (piece m l i) = BoxS.ofH k m l (addH H i) := by
  unfold BoxS.put BoxS.ofH
  simp only [ofH_err h hi, Int.toNat_natCast]
  cases hH : H i with
  | true => simp [addH_same hH]
  | false => simp [(put_fresh h hi hH).2, psH_set h.k1 hi]
theorem ofH_none {l : List UInt8} {k m : Nat} : BoxS.ofH k m l (fun _ => false) = ⟨k, 0, List.replicate 64 []⟩ := by
  simp only [BoxS.ofH, lenH_none, psH_none]
end Go.Proofs.Ytgnbnkoanoalhaa
