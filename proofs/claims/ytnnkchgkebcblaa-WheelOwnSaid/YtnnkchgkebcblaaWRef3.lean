/- The reference's Next. -/
import Derived.Test.YtnnkchgkebcblaaWRef
namespace Go.Proofs.Ytnnkchgkebcblaa
set_option linter.unusedVariables false
set_option linter.unusedSimpArgs false
open Go.RowKit
def nxt (a : Option Nat) (t : Tm) : Option Nat := if t.nev then a else match a with | none => some t.at_ | some b => if t.at_ < b then some t.at_ else some b
def least (T : List Tm) : Option Nat := T.foldl nxt none
theorem least_snoc (l : List Tm) (t : Tm) : least (l ++ [t]) = nxt (least l) t := by simp [least]
def tmv (a : Option Nat) : Value := .int .u64 (((a.getD 0 : Nat)) : Int)
set_option maxHeartbeats 4000000 in
set_option maxRecDepth 100000 in
theorem rnext_any (r now : Nat) (v : Value) (T : List Tm) (w : World) (h : RfAt w r now v T) (hl : T.length < 4398046511105) :
    Calls Try.prog 34 #[.pointer (some ⟨r, 0, none⟩)] w fun e w' => e = .returned (.tuple #[.int .u64 ((((least T).getD 0 : Nat)) : Int), .bool (least T).isSome]) ∧ Below w.heap.size w w' := by
  obtain ⟨ao, cap, rfl, hnc, hcm, hao⟩ := own_open h.own
  have c1 := h.blk.cell_some (i := 1) rfl
  have hrl := h.blk.lt
  obtain ⟨n, hn⟩ : ∃ n, n = T.length := ⟨_, rfl⟩
  have HW := Lib.hid h
  rw [← hn] at c1 hl hnc hao
  have HN := Lib.hid hn
  have HA := Lib.hid hao
  clear h hn hao
  simp only [maxLen] at hcm
  go_enter Try.func34, Try.ntmps34
  go_wp2
  go_loopw [4, 5, 6] (fun a f x wr => ∃ k : Nat, k ≤ n ∧ x = .int .i64 (k : Int) ∧ a = .int .u64 ((((least (T.take k)).getD 0 : Nat)) : Int) ∧ f = .bool (least (T.take k)).isSome ∧ Below w.heap.size w wr) (fun _ _ x _ => n - (intOf x).toNat)
  case atStart => exact ⟨0, Nat.zero_le _, rfl, rfl, rfl, Below.refl _ _⟩
  case round =>
    obtain ⟨k, hk, rfl, rfl, rfl, hBr⟩ := hrel
    have c1 := below_cell hBr c1 hrl
    by_cases hlt : k < n
    · have ix1 : (k : Int) < (n : Int) := by omega
      obtain ⟨b, rfl⟩ := HA.out (by omega)
      obtain ⟨t, ht⟩ : ∃ t, T[k]? = some t := ⟨_, List.getElem?_eq_getElem (by rw [← HN.out]; exact hlt)⟩
      have hown := HW.out.own
      rw [← HN.out] at hown
      obtain ⟨d0, d1, d2⟩ := rcells (own_later hown (hBr)) ht
      have hsn : least (T.take (k + 1)) = nxt (least (T.take k)) t := by rw [List.take_add_one, ht]; exact least_snoc _ _
      obtain ⟨q, hq⟩ : ∃ q, q = least (T.take k) := ⟨_, rfl⟩
      rw [← hq] at hsn ⊢
      have HSN := Lib.hid hsn
      have HQ := Lib.hid hq
      obtain ⟨id, at_, ord, nev⟩ := t
      simp only at d0 d1 d2
      clear hown ht hsn hq
      cases nev with
      | true =>
        have hn2 : least (T.take (k + 1)) = q := by rw [HSN.out]; rfl
        have HN2 := Lib.hid hn2
        clear hn2 HSN
        obtain ⟨qs, hqs⟩ : ∃ qs, qs = q.isSome := ⟨_, rfl⟩
        obtain ⟨qv, hqv⟩ : ∃ qv, qv = q.getD 0 := ⟨_, rfl⟩
        rw [← hqs, ← hqv]
        have HQS := Lib.hid hqs
        have HQV := Lib.hid hqv
        clear hqs hqv
        go_wp2_with fail
        go_roundw
        case rel => exact ⟨k + 1, by omega, by go_num, by rw [HN2.out, HQV.out], by rw [HN2.out, HQS.out], hBr.alloc hBr.size _⟩
        case measure => simp [intOf]; omega
      | false =>
        cases q with
        | none =>
          have hn2 : least (T.take (k + 1)) = some at_ := by rw [HSN.out]; rfl
          have HN2 := Lib.hid hn2
          clear hn2 HSN
          simp only [Option.getD_none, Option.isSome_none]
          go_wp2_with fail
          go_roundw
          case rel => exact ⟨k + 1, by omega, by go_num, by rw [HN2.out]; rfl, by rw [HN2.out]; rfl, hBr.alloc hBr.size _⟩
          case measure => simp [intOf]; omega
        | some a =>
          simp only [Option.getD_some, Option.isSome_some]
          by_cases hla : at_ < a
          · have hn2 : least (T.take (k + 1)) = some at_ := by rw [HSN.out]; simp [nxt, hla]
            have HN2 := Lib.hid hn2
            clear hn2 HSN
            have hb : decide ((at_ : Int) < (a : Int)) = true := decide_eq_true (by omega)
            have hb2 : decide (at_ < a) = true := decide_eq_true hla
            go_wp2_with fail
            go_roundw
            case rel => exact ⟨k + 1, by omega, by go_num, by rw [HN2.out]; rfl, by rw [HN2.out]; rfl, hBr.alloc hBr.size _⟩
            case measure => simp [intOf]; omega
          · have hn2 : least (T.take (k + 1)) = some a := by rw [HSN.out]; simp [nxt, hla]
            have HN2 := Lib.hid hn2
            clear hn2 HSN
            have hb : decide ((at_ : Int) < (a : Int)) = false := decide_eq_false (by omega)
            have hb2 : decide (at_ < a) = false := decide_eq_false hla
            go_wp2_with fail
            go_roundw
            case rel => exact ⟨k + 1, by omega, by go_num, by rw [HN2.out]; rfl, by rw [HN2.out]; rfl, hBr.alloc hBr.size _⟩
            case measure => simp [intOf]; omega
    · obtain rfl : k = n := by omega
      go_wp2_with fail
      go_ret2
      rw [HN.out, List.take_length]
      exact ⟨rfl, hBr⟩
end Go.Proofs.Ytnnkchgkebcblaa
