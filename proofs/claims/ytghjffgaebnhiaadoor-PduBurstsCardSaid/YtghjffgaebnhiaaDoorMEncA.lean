/- Encode, the program's and the document's, at any unit. -/
import Derived.Test.YtghjffgaebnhiaaDoorMRef7
namespace Go.Proofs.YtghjffgaebnhiaaDoor
set_option linter.unusedVariables false
set_option linter.unusedSimpArgs false
open Go.RowKit
/-- what Encode answers. -/
def EncPost (w : World) (u : UD) (e : Ending) (w' : World) : Prop :=
  ∃ v', e = .returned (.tuple #[v', .int .i64 (if validU u then 0 else 30)]) ∧ w'.ownsRow w.heap.size 5 1 v' (if validU u then encU u else []).length ((if validU u then encU u else []).map ub) ∧ Below w.heap.size w w'
theorem encU_1 {u : UD} (h : u.kind = 1) {p i c : Nat} (hp : u.path = p) (hi : u.idx = i) (hc : u.cnt = c) : encU u = (digs [1, u.ep.toNat, u.ses.toNat] ++ (digs [p, i, c] ++ (dig u.data.length ++ u.data))) ++ sumB (crcOf (digs [1, u.ep.toNat, u.ses.toNat] ++ (digs [p, i, c] ++ (dig u.data.length ++ u.data)))) := by
  have : encB u = digs [1, u.ep.toNat, u.ses.toNat] ++ (digs [p, i, c] ++ (dig u.data.length ++ u.data)) := by
    rw [encB, bodyU, if_pos h, h, hp, hi, hc]
    rfl
  rw [encU, this]
theorem encU_2 {u : UD} (h : u.kind = 2) : encU u = (digs [2, u.ep.toNat, u.ses.toNat] ++ layR u) ++ sumB (crcOf (digs [2, u.ep.toNat, u.ses.toNat] ++ layR u)) := by
  have : encB u = digs [2, u.ep.toNat, u.ses.toNat] ++ layR u := by
    rw [encB, bodyU, if_neg (by omega), if_pos h, h]
    rfl
  rw [encU, this]
theorem encU_3 {u : UD} (h : u.kind = 3) : encU u = (digs [3, u.ep.toNat, u.ses.toNat] ++ ([] : List UInt8)) ++ sumB (crcOf (digs [3, u.ep.toNat, u.ses.toNat] ++ ([] : List UInt8))) := by
  have : encB u = digs [3, u.ep.toNat, u.ses.toNat] ++ ([] : List UInt8) := by
    rw [encB, bodyU, if_neg (by omega), if_neg (by omega), h]
    rfl
  rw [encU, this]
theorem valid_cases {u : UD} (h : validU u) : (u.kind = 1 ∧ goodD u) ∨ (u.kind = 2 ∧ goodR u) ∨ (u.kind = 3 ∧ goodC u) := h.2.2
theorem encode_any (u : UD) (dp gp : Option Addr) (dc gc : Nat) (w : World) (hd : Bs w (.slice dp u.data.length dc) u.data) (hg : Rgs w (.slice gp u.got.length gc) u.got) (hl : u.got.length ≤ 140737488355328) (ht : Tab w) :
    Calls Tryd.prog 11 #[uv u (.slice dp u.data.length dc) (.slice gp u.got.length gc)] w fun e w' => EncPost w u e w' := by
  by_cases hv : validU u
  · unfold EncPost
    simp only [if_pos hv]
    rcases valid_cases hv with ⟨h, hh⟩ | ⟨h, hh⟩ | ⟨h, hh⟩
    · obtain ⟨p, hp⟩ : ∃ p : Nat, u.path = (p : Int) := ⟨u.path.toNat, by have := hh.1; omega⟩
      obtain ⟨i, hi⟩ : ∃ p : Nat, u.idx = (p : Int) := ⟨u.idx.toNat, by have := hh.2.2.2.1; omega⟩
      obtain ⟨c, hc⟩ : ∃ p : Nat, u.cnt = (p : Int) := ⟨u.cnt.toNat, by have := hh.2.1; omega⟩
      rw [encU_1 h hp hi hc]
      exact encode_1 u dp gp dc gc w h hg hl hv ht hd p i c hp hi hc (by have h1 := hh.1; have h2 := hh.2.1; have h3 := hh.2.2.1; have h4 := hh.2.2.2.2.1; omega) hh.2.2.2.2.2.2.1
    · rw [encU_2 h]
      exact encode_2 u dp gp dc gc w h hg hl hv ht hg hh.2.1 hh.2.2.1 (mono_of_rises hh.2.2.2.2 (by decide))
    · rw [encU_3 h]
      exact encode_3 u dp gp dc gc w h hg hl hv ht
  · unfold EncPost
    simp only [if_neg hv]
    refine (encode_bad u dp gp dc gc w hg hl hv).mono ?_
    rintro e w' ⟨rfl, hB⟩
    exact ⟨_, rfl, World.ownsRow_nil _ _ _ _, hB⟩
theorem refEncode_any (u : UD) (dp gp : Option Addr) (dc gc : Nat) (w : World) (hd : Bs w (.slice dp u.data.length dc) u.data) (hg : Rgs w (.slice gp u.got.length gc) u.got) (hl : u.got.length ≤ 140737488355328) :
    Calls Tryd.prog 12 #[uv u (.slice dp u.data.length dc) (.slice gp u.got.length gc)] w fun e w' => EncPost w u e w' := by
  by_cases hv : validU u
  · unfold EncPost
    simp only [if_pos hv]
    rcases valid_cases hv with ⟨h, hh⟩ | ⟨h, hh⟩ | ⟨h, hh⟩
    · obtain ⟨p, hp⟩ : ∃ p : Nat, u.path = (p : Int) := ⟨u.path.toNat, by have := hh.1; omega⟩
      obtain ⟨i, hi⟩ : ∃ p : Nat, u.idx = (p : Int) := ⟨u.idx.toNat, by have := hh.2.2.2.1; omega⟩
      obtain ⟨c, hc⟩ : ∃ p : Nat, u.cnt = (p : Int) := ⟨u.cnt.toNat, by have := hh.2.1; omega⟩
      rw [encU_1 h hp hi hc]
      exact refEncode_1 u dp gp dc gc w h hg hl hv hd p i c hp hi hc (by have h1 := hh.1; have h2 := hh.2.1; have h3 := hh.2.2.1; have h4 := hh.2.2.2.2.1; omega) hh.2.2.2.2.2.2.1
    · rw [encU_2 h]
      by_cases hc : u.code = 0
      · exact refEncode_2a u dp gp dc gc w h hg hl hv hg hh.2.1 hh.2.2.1 (mono_of_rises hh.2.2.2.2 (by decide)) hc
      · exact refEncode_2b u dp gp dc gc w h hg hl hv hg hh.2.1 hh.2.2.1 (mono_of_rises hh.2.2.2.2 (by decide)) hc hh.2.2.2.1
    · rw [encU_3 h]
      exact refEncode_3 u dp gp dc gc w h hg hl hv
  · unfold EncPost
    simp only [if_neg hv]
    refine (refEncode_bad u dp gp dc gc w hg hl hv).mono ?_
    rintro e w' ⟨rfl, hB⟩
    exact ⟨_, rfl, World.ownsRow_nil _ _ _ _, hB⟩
end Go.Proofs.YtghjffgaebnhiaaDoor
