/- A box and its reference in a script: begin makes them, ask keeps them. -/
import Derived.Test.YtgnbnkoanoalhaaAsk
namespace Go.Proofs.Ytgnbnkoanoalhaa
set_option linter.unusedVariables false
set_option linter.unusedSimpArgs false
open Go.RowKit
def PS.ask (s : PS) (kd ix : Int) (sg : List UInt8) : PS := if kd = 1 then s.put ix sg else s
theorem PS.foot_ask (s : PS) (kd ix : Int) (sg : List UInt8) (g r : Nat) : (s.ask kd ix sg).foot g r = s.foot g r := by
  unfold PS.ask PS.foot
  split
  · rw [PS.fb_put, PS.fr_put]
  · rfl
structure Live (wa w : World) (g r base : Nat) (pb pr : Value) (s : PS) : Prop where
  ok : s.ok
  box : PBox w g pb s
  ref : PRef w r base no pr s
  below : Below wa.heap.size wa w
  foot : ∀ k, s.foot g r k → wa.heap.size ≤ k
section
variable {wa w w' : World} {g r base g' r' base' : Nat} {pb pr pb' pr' : Value} {s s' : PS}
theorem Live.later (h : Live wa w g r base pb pr s) (hb : Below w.heap.size w w') : Live wa w' g r base pb pr s :=
  ⟨h.ok, h.box.later hb, h.ref.later hb, below_trans h.below hb, h.foot⟩
theorem Live.lt (h : Live wa w g r base pb pr s) {k : Nat} (hk : s.foot g r k) : k < w.heap.size := by
  rcases hk with hk | hk
  · obtain ⟨_, cs, h1⟩ := h.box.blk hk; exact h1.lt
  · obtain ⟨_, cs, h1⟩ := h.ref.blk hk; exact h1.lt
/-- what another pair does leaves this one as it is. -/
theorem Live.other (h : Live wa w g r base pb pr s) (h' : Live wa w g' r' base' pb' pr' s') (hd : ∀ k, s.foot g r k → ¬ s'.foot g' r' k) (hS : Same (s'.foot g' r') w w') : Live wa w' g r base pb pr s := by
  refine ⟨h.ok, h.box.keep hS fun k hk => hd k (.inl hk), h.ref.keep hS (fun k hk => hd k (.inr hk)) fun k hk => ?_, h.below.trans (hS.belowB fun i hi => ⟨Nat.lt_of_lt_of_le hi h.below.size, fun hh => by have := h'.foot i hh; omega⟩), h.foot⟩
  rcases hk with hk | hk
  · obtain ⟨_, cs, h1⟩ := h'.box.blk hk; exact .inr (.inr ⟨_, cs, h1, by decide, by decide⟩)
  · obtain ⟨_, cs, h1⟩ := h'.ref.blk hk; exact .inr (.inr ⟨_, cs, h1, by decide, by decide⟩)
theorem ask_live (h : Live wa w g r base pb pr s) {x : Value} {kd ix : Int} {sg : List UInt8} (hx : Bs wa x sg) (hl : sg.length ≤ 140737488351232) :
    Calls Try.prog 27 #[pb, pr, .agg #[.int .i64 kd, .int .i64 ix, x]] w fun e w' => e = .returned (.bool true) ∧ Live wa w' g r base pb pr (s.ask kd ix sg) ∧ Same (s.foot g r) w w' := by
  by_cases hk : kd = 1
  · subst hk
    refine (ask_put g r base no pb pr x s ix sg w h.ok h.box h.ref (fun _ h => h.elim) wa h.below hx hl h.foot).mono ?_
    rintro e w' ⟨rfl, h1, h2, h3⟩
    have e : s.ask 1 ix sg = s.put ix sg := if_pos rfl
    rw [e]
    exact ⟨rfl, ⟨PS.ok_put h.ok, h1, h2, h.below.trans (h3.belowB fun i hi => ⟨Nat.lt_of_lt_of_le hi h.below.size, fun hh => by have := h.foot i hh; omega⟩), fun k hk => h.foot k (by rw [← PS.foot_ask s 1 ix sg, e]; exact hk)⟩, h3⟩
  · refine (ask_more g r base no pb pr x s kd ix sg w h.ok h.box h.ref (by obtain ⟨a, c, h, _⟩ := hx; exact ⟨_, _, _, h⟩) hk).mono ?_
    rintro e w' ⟨rfl, h1⟩
    have e : s.ask kd ix sg = s := if_neg hk
    rw [e]
    exact ⟨rfl, h.later h1, Same.of_below h1 _⟩
end
def Begun (wa w : World) (e : Ending) (w' : World) : Prop := ∃ g r base pb pr s, e = .returned (.tuple #[pb, pr, .bool true]) ∧ Live wa w' g r base pb pr s ∧ Below w.heap.size w w' ∧ ∀ k, s.foot g r k → w.heap.size ≤ k
set_option maxHeartbeats 1000000 in
set_option maxRecDepth 100000 in
theorem begin_live (n : Int) (wa w : World) (hB : Below wa.heap.size wa w) : Calls Try.prog 26 #[.int .i64 n] w (Begun wa w) := by
  by_cases hc : n < 1 ∨ 64 < n
  · have HC := Lib.hid hc
    clear hc
    go_enter Try.func26, Try.ntmps26
    go_wp2_with fail
    refine (new_no n _ HC.out).mono ?_
    rintro e _ ⟨rfl, rfl⟩
    go_wp2_with fail
    refine (refNew_no n _ HC.out).mono ?_
    rintro e _ ⟨rfl, rfl⟩
    go_wp2_with fail
    refine (num_any _ _).mono ?_
    rintro e _ ⟨rfl, rfl⟩
    go_wp2_with fail
    go_ret3
    exact ⟨0, 0, 0, _, _, .nil, rfl, ⟨trivial, rfl, rfl, hB, fun k h => by rcases h with h | h <;> exact h.elim⟩, Below.refl _ _, fun k h => by rcases h with h | h <;> exact h.elim⟩
  · obtain ⟨m, rfl⟩ := Int.eq_ofNat_of_zero_le (show 0 ≤ n by omega)
    have h1 : 1 ≤ m := by omega
    have h2 : m ≤ 64 := by omega
    clear hc
    go_enter Try.func26, Try.ntmps26
    go_wp2_with fail
    refine (new_yes m _ h1 h2).mono ?_
    rintro e w1 ⟨rfl, hb1, hB1⟩
    go_wp2_with fail
    refine (refNew_yes m _ h1 h2).mono ?_
    rintro e w2 ⟨r, rfl, hr2, hB2⟩
    go_wp2_with fail
    refine (num_any _ _).mono ?_
    rintro e _ ⟨rfl, rfl⟩
    go_wp2_with fail
    go_ret3
    have hz := hB.size
    have hrl := hr2.lt
    have hz1 := hB1.size
    refine ⟨w.heap.size, r, _, _, _, .box ⟨m, 0, List.replicate 64 []⟩, rfl, ⟨known_new m h1 h2, ⟨rfl, at_later (b := ⟨m, 0, List.replicate 64 []⟩) hb1 hB2⟩, ⟨rfl, by rw [ls_new m h2]; exact hr2⟩, below_trans hB (below_trans hB1 hB2), fun k h => ?_⟩, below_trans hB1 hB2, fun k h => ?_⟩
    · rcases h with h | h
      · have e : k = w.heap.size := h; omega
      · have e : k = r := h; omega
    · rcases h with h | h
      · have e : k = w.heap.size := h; omega
      · have e : k = r := h; omega
/-- operation t of a script, at a later world. -/
theorem OpsRd.at {w wr : World} {v : Value} {ops : List OpD} (h : OpsRd w v ops) {B : Nat} (hw : B = w.heap.size) (hB : Below B w wr) {t : Nat} (ht : t < ops.length) : ∃ b off cap xp xn xc, v = .slice (some ⟨b, off, none⟩) ops.length cap ∧ Bs w (.slice xp xn xc) ops[t].seg ∧ ops[t].seg.length ≤ 140737488351232 ∧
    wr.cell? ⟨b, off + t * 3, none⟩ = some (.int .i64 ops[t].kind) ∧ wr.cell? ⟨b, off + t * 3 + 1, none⟩ = some (.int .i64 ops[t].index) ∧ wr.cell? ⟨b, off + t * 3 + 2, none⟩ = some (.slice xp xn xc) := by
  subst hw
  obtain ⟨ao, cap, rfl, _, ho⟩ := h
  obtain ⟨b, off, rfl, hoc⟩ := ho (by omega)
  obtain ⟨xs, hxs, hsl, e0, e1, e2⟩ := hoc t ops[t] (List.getElem?_eq_getElem ht)
  obtain ⟨xp, xc, rfl, -⟩ := id hxs
  exact ⟨b, off, cap, xp, _, xc, rfl, hxs, hsl, below_cell hB e0 (World.block_lt_of_cell? _ _ e0), below_cell hB e1 (World.block_lt_of_cell? _ _ e1), below_cell hB e2 (World.block_lt_of_cell? _ _ e2)⟩
end Go.Proofs.Ytgnbnkoanoalhaa
