/- Two wheels and two references' wheels; two, holds. -/
import Derived.Test.YtnnkchgkebcblaaWScript
namespace Go.Proofs.Ytnnkchgkebcblaa
set_option linter.unusedVariables false
set_option linter.unusedSimpArgs false
open Go.RowKit
def pk {α : Type} (a b : α) (k : Nat) : α := if k = 0 then a else b
structure Duos (w : World) (base wb db : Nat) (gs rs : Nat → Nat) (Ss : Nat → Nat → Prop) (ss : Nat → WS) : Prop where
  bw : Blk w wb 23 [.pointer (some ⟨gs 0, 0, none⟩), .pointer (some ⟨gs 1, 0, none⟩)]
  bd : Blk w db 29 [.pointer (some ⟨rs 0, 0, none⟩), .pointer (some ⟨rs 1, 0, none⟩)]
  duo : ∀ k, k < 2 → Duo w (gs k) (rs k) (Ss k) (ss k).now (ss k).sets (ss k).T
  dis : ∀ b, Ss 0 b → ¬ Ss 1 b
  nw : ∀ k b, k < 2 → Ss k b → b ≠ wb ∧ b ≠ db ∧ base ≤ b
  lo : base ≤ wb ∧ base ≤ db ∧ base ≤ w.heap.size
section
variable {w w' : World} {base wb db : Nat} {gs rs : Nat → Nat} {Ss : Nat → Nat → Prop} {ss : Nat → WS}
theorem Duos.later (h : Duos w base wb db gs rs Ss ss) (hb : Below w.heap.size w w') : Duos w' base wb db gs rs Ss ss :=
  ⟨h.bw.later hb, h.bd.later hb, fun k hk => (h.duo k hk).later hb, h.dis, h.nw, h.lo.1, h.lo.2.1, Nat.le_trans h.lo.2.2 hb.size⟩
theorem Duos.cw (h : Duos w base wb db gs rs Ss ss) {k : Nat} (hk : k < 2) : w.cell? ⟨wb, k, none⟩ = some (.pointer (some ⟨gs k, 0, none⟩)) := by
  refine h.bw.cell_some ?_
  rcases (show k = 0 ∨ k = 1 by omega) with rfl | rfl <;> rfl
theorem Duos.cd (h : Duos w base wb db gs rs Ss ss) {k : Nat} (hk : k < 2) : w.cell? ⟨db, k, none⟩ = some (.pointer (some ⟨rs k, 0, none⟩)) := by
  refine h.bd.cell_some ?_
  rcases (show k = 0 ∨ k = 1 by omega) with rfl | rfl <;> rfl
theorem Duos.dis' (h : Duos w base wb db gs rs Ss ss) {j k : Nat} (hj : j < 2) (hk : k < 2) (hne : j ≠ k) : ∀ b, Ss j b → ¬ Ss k b := by
  intro b h1 h2
  rcases (show j = 0 ∧ k = 1 ∨ j = 1 ∧ k = 0 by omega) with ⟨rfl, rfl⟩ | ⟨rfl, rfl⟩
  · exact h.dis b h1 h2
  · exact h.dis b h2 h1
def setAt {α : Type} (f : Nat → α) (k : Nat) (x : α) : Nat → α := fun j => if j = k then x else f j
theorem Duos.turn (h : Duos w base wb db gs rs Ss ss) {k : Nat} (hk : k < 2) {S' : Nat → Prop} {s' : WS} (hd : Duo w' (gs k) (rs k) S' s'.now s'.sets s'.T) (t : Turn (Ss k) S' w w') :
    Duos w' base wb db gs rs (setAt Ss k S') (setAt ss k s') ∧ Below base w w' := by
  have hz := t.same.size
  refine ⟨⟨h.bw.same t.same fun e => (h.nw k _ hk e).1 rfl, h.bd.same t.same fun e => (h.nw k _ hk e).2.1 rfl, fun j hj => ?_, ?_, fun j b hj hb => ?_, h.lo.1, h.lo.2.1, Nat.le_trans h.lo.2.2 hz⟩, t.same.belowB fun i hi => ⟨Nat.lt_of_lt_of_le hi h.lo.2.2, fun e => by have := (h.nw k i hk e).2.2; omega⟩⟩
  · unfold setAt
    by_cases e : j = k
    · subst e
      rw [if_pos rfl, if_pos rfl]
      exact hd
    · rw [if_neg e, if_neg e]
      exact (h.duo j hj).same t.same (h.dis' hj hk e)
  · unfold setAt
    intro b h0 h1
    by_cases e0 : 0 = k
    · subst e0
      rw [if_pos rfl] at h0
      rw [if_neg (by decide)] at h1
      rcases t.foot b h0 with e | e
      · exact h.dis b e h1
      · have := (h.duo 1 (by omega)).lt h1; omega
    · rw [if_neg e0] at h0
      have : k = 1 := by omega
      subst this
      rw [if_pos rfl] at h1
      rcases t.foot b h1 with e | e
      · exact h.dis b h0 e
      · have := (h.duo 0 (by omega)).lt h0; omega
  · unfold setAt at hb
    by_cases e : j = k
    · subst e
      rw [if_pos rfl] at hb
      rcases t.foot b hb with e | e
      · exact h.nw j b hj e
      · have h1 := h.bw.lt
        have h2 := h.bd.lt
        have h3 := h.lo.2.2
        omega
    · rw [if_neg e] at hb
      exact h.nw j b hj hb
end
set_option maxHeartbeats 4000000 in
set_option maxRecDepth 100000 in
theorem two_any (a b : Nat) (w : World) :
    Calls Try.prog 18 #[.int .u64 (a : Int), .int .u64 (b : Int)] w fun e w' => ∃ wb db gs rs Ss ss, e = .returned (.tuple #[.slice (some ⟨wb, 0, none⟩) 2 2, .slice (some ⟨db, 0, none⟩) 2 2, .bool true]) ∧ Duos w' w.heap.size wb db gs rs Ss ss ∧ Below w.heap.size w w' ∧
      ss = pk ⟨min a 281474976710655, 0, []⟩ ⟨min b 281474976710655, 0, []⟩ := by
  go_enter Try.func18, Try.ntmps18
  go_wp2_with fail
  refine (wh_new a w).mono ?_
  rintro e w1 ⟨g0, A0, rfl, h0, f0, hB1⟩
  have H0 := Lib.hid h0; have F0 := Lib.hid f0; have HB1 := Lib.hid hB1
  clear h0 f0 hB1
  go_wp2_with fail
  refine (wh_new b w1).mono ?_
  rintro e w2 ⟨g1, A1, rfl, h1, f1, hB2⟩
  have H1 := Lib.hid h1; have F1 := Lib.hid f1; have HB2 := Lib.hid hB2
  clear h1 f1 hB2
  go_wp2_with fail
  obtain ⟨w3, hw3⟩ : ∃ w3, w3 = w2.alloc (.cells #[.pointer (some ⟨g0, 0, none⟩), .pointer (some ⟨g1, 0, none⟩)] 23) := ⟨_, rfl⟩
  rw [← hw3]
  have hB3 : Below w2.heap.size w2 w3 := hw3 ▸ (Below.refl _ _).alloc (Nat.le_refl _) _
  have hbw : Blk w3 w2.heap.size 23 [.pointer (some ⟨g0, 0, none⟩), .pointer (some ⟨g1, 0, none⟩)] := hw3 ▸ Blk.new w2 _ _
  have HB3 := Lib.hid hB3; have HBW := Lib.hid hbw
  clear hw3 hB3 hbw
  refine (rf_new a w3).mono ?_
  rintro e w4 ⟨r0, B0, rfl, h2, f2, hB4⟩
  have H2 := Lib.hid h2; have F2 := Lib.hid f2; have HB4 := Lib.hid hB4
  clear h2 f2 hB4
  go_wp2_with fail
  refine (rf_new b w4).mono ?_
  rintro e w5 ⟨r1, B1, rfl, h3, f3, hB5⟩
  have H3 := Lib.hid h3; have F3 := Lib.hid f3; have HB5 := Lib.hid hB5
  clear h3 f3 hB5
  go_wp2_with fail
  obtain ⟨w6, hw6⟩ : ∃ w6, w6 = w5.alloc (.cells #[.pointer (some ⟨r0, 0, none⟩), .pointer (some ⟨r1, 0, none⟩)] 29) := ⟨_, rfl⟩
  rw [← hw6]
  have hB6 : Below w5.heap.size w5 w6 := hw6 ▸ (Below.refl _ _).alloc (Nat.le_refl _) _
  have hbd : Blk w6 w5.heap.size 29 [.pointer (some ⟨r0, 0, none⟩), .pointer (some ⟨r1, 0, none⟩)] := hw6 ▸ Blk.new w5 _ _
  have HB6 := Lib.hid hB6; have HBD := Lib.hid hbd
  clear hw6 hB6 hbd
  go_ret3
  have b1 := HB1.out; have b2 := HB2.out; have b3 := HB3.out; have b4 := HB4.out; have b5 := HB5.out; have b6 := HB6.out
  have z1 := b1.size; have z2 := b2.size; have z3 := b3.size; have z4 := b4.size; have z5 := b5.size; have z6 := b6.size
  have l0 : ∀ c, A0 c → c < w1.heap.size := fun c hc => H0.out.lt hc
  have l1 : ∀ c, A1 c → c < w2.heap.size := fun c hc => H1.out.lt hc
  have l2 : ∀ c, B0 c → c < w4.heap.size := fun c hc => H2.out.lt hc
  have l3 : ∀ c, B1 c → c < w5.heap.size := fun c hc => H3.out.lt hc
  have hwb := HBW.out.lt
  have b26 := below_trans b3 (below_trans b4 (below_trans b5 b6))
  refine ⟨w2.heap.size, w5.heap.size, pk g0 g1, pk r0 r1, pk (fun c => A0 c ∨ B0 c) (fun c => A1 c ∨ B1 c), _, rfl, ⟨(HBW.out.later (below_trans b4 (below_trans b5 b6))), HBD.out, fun k hk => ?_, fun c h0 h1 => ?_, fun k c hk hc => ?_, by omega, by omega, by omega⟩, below_trans b1 (below_trans b2 b26), rfl⟩
  · rcases (show k = 0 ∨ k = 1 by omega) with rfl | rfl
    · exact ⟨A0, B0, H0.out.later (below_trans b2 b26), H2.out.later (below_trans b5 b6), fun c h h' => by have := l0 c h; have := F2.out c h'; omega, fun c => Iff.rfl⟩
    · exact ⟨A1, B1, H1.out.later b26, H3.out.later b6, fun c h h' => by have := l1 c h; have := F3.out c h'; omega, fun c => Iff.rfl⟩
  · have h0' : A0 c ∨ B0 c := h0
    have h1' : A1 c ∨ B1 c := h1
    rcases h0' with h0' | h0' <;> rcases h1' with h1' | h1'
    · have := l0 c h0'; have := F1.out c h1'; omega
    · have := l0 c h0'; have := F3.out c h1'; omega
    · have := F2.out c h0'; have := l1 c h1'; omega
    · have := l2 c h0'; have := F3.out c h1'; omega
  · rcases (show k = 0 ∨ k = 1 by omega) with rfl | rfl
    · have hc' : A0 c ∨ B0 c := hc
      rcases hc' with hc' | hc'
      · have := l0 c hc'; have := F0.out c hc'; omega
      · have := l2 c hc'; have := F2.out c hc'; omega
    · have hc' : A1 c ∨ B1 c := hc
      rcases hc' with hc' | hc'
      · have := l1 c hc'; have := F1.out c hc'; omega
      · have := l3 c hc'; have := F3.out c hc'; omega
end Go.Proofs.Ytnnkchgkebcblaa
