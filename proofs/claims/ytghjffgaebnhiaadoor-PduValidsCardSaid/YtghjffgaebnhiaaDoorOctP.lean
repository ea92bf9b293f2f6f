/- Plain laws between the program's sums and the mind's. -/
import Derived.Test.YtghjffgaebnhiaaDoorCrc
import Derived.Test.YtghjffgaebnhiaaDoorDig
import Derived.Laws.BitsAllLaws
namespace Go.Proofs.YtghjffgaebnhiaaDoor
set_option linter.unusedVariables false
set_option linter.unusedSimpArgs false
open Go.RowKit
/-- four places by the table. -/
def nibN (c : Nat) : Nat := tab.getD (c % 16) 0 ^^^ c / 16
theorem tab_lt (i : Nat) : tab.getD i 0 < 4294967296 := by
  by_cases h : i < 16
  · have : ∀ j : Fin 16, tab.getD j.val 0 < 4294967296 := by decide
    exact this ⟨i, h⟩
  · rw [List.getD_eq_getElem?_getD, List.getElem?_eq_none (by show 16 ≤ i; omega)]
    decide
theorem nib_nat (c : W32) : (shN 4 c).toNat = nibN c.toNat := by
  rw [nib, BitVec.toNat_xor, BitVec.toNat_ofNat, Nat.mod_eq_of_lt (tab_lt _), BitVec.toNat_ushiftRight, Nat.shiftRight_eq_div_pow]
  rfl
theorem crcB_nat (c : W32) (x : UInt8) : (crcB c x).toNat = nibN (nibN (c.toNat ^^^ x.toNat)) := by
  rw [crcB_tab, nib_nat, nib_nat, BitVec.toNat_xor, BitVec.toNat_ofNat, Nat.mod_eq_of_lt (Nat.lt_trans x.toNat_lt (by decide))]
theorem nibN_lt {c : Nat} (h : c < 4294967296) : nibN c < 4294967296 := by
  have := (shN 4 (BitVec.ofNat 32 c)).isLt
  rw [nib_nat, BitVec.toNat_ofNat, Nat.mod_eq_of_lt (by exact h)] at this
  exact this
theorem xor_lt32 {a b : Nat} (ha : a < 4294967296) (hb : b < 4294967296) : a ^^^ b < 4294967296 := Nat.xor_lt_two_pow (n := 32) ha hb
theorem crcL_take (l : List UInt8) (k : Nat) (h : k < l.length) : crcL crc0 (l.take (k + 1)) = crcB (crcL crc0 (l.take k)) l[k] := by
  rw [List.take_succ_eq_append_getElem h, crcL_app]
  rfl
/-- what a number's digits come to, one place on. -/
theorem digF_go {k n : Nat} (h : n < 128 ^ (k + 1)) (h0 : 0 < n) (t : List UInt8) : digF (k + 1) n ++ t = digF (k + 1) (n / 128) ++ (UInt8.ofNat (n % 128 + 128) :: t) := by
  rw [digF_step h (by omega), List.append_assoc]
  rfl
end Go.Proofs.YtghjffgaebnhiaaDoor
