/- A box and its reference: nil both; a box that nobody made; or both made. What each call does with them. -/
import Derived.Test.YtgnbnkoanoalhaaRefLaw
import Derived.Test.YtgnbnkoanoalhaaNil
import Derived.Test.YtgnbnkoanoalhaaSmall
namespace Go.Proofs.Ytgnbnkoanoalhaa
set_option linter.unusedVariables false
set_option linter.unusedSimpArgs false
open Go.RowKit
inductive PS where
  | nil
  | zero
  | box (b : BoxS)
def PS.put : PS → Int → List UInt8 → PS
  | .box b, i, s => .box (b.put i s)
  | .nil, _, _ => .nil
  | .zero, _, _ => .zero
def PS.err : PS → Int → List UInt8 → Int
  | .box b, i, s => putErr b.cnt b.len b.ps i s
  | .nil, _, _ => 1
  | .zero, _, _ => 1
def PS.cnt : PS → Nat
  | .box b => b.cnt
  | _ => 0
def PS.len : PS → Nat
  | .box b => b.len
  | _ => 0
def PS.got : PS → List (Int × Int)
  | .box b => leastR (gotL b.ps b.cnt)
  | _ => []
def PS.all : PS → Bool
  | .box b => allNe b.ps b.cnt
  | _ => false
def PS.blk : PS → List UInt8
  | .box b => blockOf b
  | _ => []
def PS.ok : PS → Prop
  | .box b => Known b
  | _ => True
def PBox (w : World) (g : Nat) (pb : Value) : PS → Prop
  | .nil => pb = .pointer none
  | .zero => pb = .pointer (some ⟨g, 0, none⟩) ∧ BoxAt w g 0 0 (List.replicate 64 [])
  | .box b => pb = .pointer (some ⟨g, 0, none⟩) ∧ b.at w g
def PRef (w : World) (r base : Nat) (Z : Nat → Prop) (pr : Value) : PS → Prop
  | .box b => pr = .pointer (some ⟨r, 0, none⟩) ∧ RefAt w r base Z b.ls
  | _ => pr = .pointer none
def PS.fb : PS → Nat → Nat → Prop
  | .nil, _ => no
  | .zero, g => at1 g
  | .box _, g => at1 g
def PS.fr : PS → Nat → Nat → Prop
  | .box _, r => at1 r
  | _, _ => no
def PS.foot (s : PS) (g r : Nat) : Nat → Prop := fun k => s.fb g k ∨ s.fr r k
section
variable {s : PS} {w w' : World} {g r base : Nat} {Z : Nat → Prop} {pb pr : Value} {i : Int} {sg : List UInt8}
theorem PS.fb_put : (s.put i sg).fb g = s.fb g := by cases s <;> rfl
theorem PS.fr_put : (s.put i sg).fr r = s.fr r := by cases s <;> rfl
theorem PS.ok_put (h : s.ok) : (s.put i sg).ok := by
  cases s with
  | box b => exact known_put h i sg
  | nil => exact h
  | zero => exact h
theorem PBox.blk (h : PBox w g pb s) {k : Nat} (hk : s.fb g k) : k = g ∧ ∃ cs, Blk w k 66 cs := by
  cases s with
  | nil => exact hk.elim
  | zero => have e : k = g := hk; subst e; exact ⟨rfl, _, h.2.blk⟩
  | box b => have e : k = g := hk; subst e; exact ⟨rfl, _, BoxAt.blk h.2⟩
theorem PRef.blk (h : PRef w r base Z pr s) {k : Nat} (hk : s.fr r k) : k = r ∧ ∃ cs, Blk w k 82 cs := by
  cases s with
  | nil => exact hk.elim
  | zero => exact hk.elim
  | box b =>
    have e : k = r := hk
    subst e
    obtain ⟨_, v, h1, _⟩ := h
    exact ⟨rfl, _, h1⟩
theorem PBox.keep {S : Nat → Prop} (h : PBox w g pb s) (hb : Same S w w') (hS : ∀ k, s.fb g k → ¬ S k) : PBox w' g pb s := by
  cases s with
  | nil => exact h
  | zero => exact ⟨h.1, h.2.same hb (hS g rfl)⟩
  | box b => exact ⟨h.1, at_same h.2 hb (hS g rfl)⟩
theorem PBox.later (h : PBox w g pb s) (hb : Below w.heap.size w w') : PBox w' g pb s := h.keep (Same.of_below hb no) fun _ _ h => h
theorem PRef.keep {S : Nat → Prop} (h : PRef w r base Z pr s) (hb : Same S w w') (hr : ∀ k, s.fr r k → ¬ S k)
    (hS : ∀ k, S k → Z k ∨ w.heap.size ≤ k ∨ ∃ t cs, Blk w k t cs ∧ 5 ≠ t ∧ 22 ≠ t) : PRef w' r base Z pr s := by
  cases s with
  | nil => exact h
  | zero => exact h
  | box b => exact ⟨h.1, h.2.keep hb (hr r rfl) hS⟩
theorem PRef.later (h : PRef w r base Z pr s) (hb : Below w.heap.size w w') : PRef w' r base Z pr s := h.keep (Same.of_below hb no) (fun _ _ h => h) fun _ h => h.elim
theorem PRef.out {Z' : Nat → Prop} (h : PRef w r base Z pr s) (hb : Below w.heap.size w w') (hZ : ∀ k, Z' k → Z k ∨ w.heap.size ≤ k) : PRef w' r base Z' pr s := by
  cases s with
  | nil => exact h
  | zero => exact h
  | box b => exact ⟨h.1, h.2.out hb hZ⟩
theorem PBox.ne_ref (h : PBox w g pb s) {s' : PS} (h' : PRef w r base Z pr s') {k : Nat} (hk : s.fb g k) : ¬ s'.fr r k := fun hk' => by
  obtain ⟨_, cs, h1⟩ := h.blk hk
  obtain ⟨_, ds, h2⟩ := h'.blk hk'
  exact h1.ne h2 (by decide) rfl
theorem putB (h : PBox w g pb s) (hok : s.ok) {v : Value} (hr : Bs w v sg) :
    Calls Try.prog 21 #[pb, .int .i64 i, v] w fun e w' => e = .returned (.int .i64 (s.err i sg)) ∧ PBox w' g pb (s.put i sg) ∧ Same (s.fb g) w w' := by
  cases s with
  | nil =>
    obtain rfl : pb = _ := h
    refine (put_nil i v w).mono ?_
    rintro e w' ⟨rfl, hB⟩
    exact ⟨rfl, rfl, Same.of_below hB _⟩
  | zero =>
    obtain ⟨rfl, h⟩ := h
    refine (put_arg g 0 0 _ i v sg w h hr (by omega)).mono ?_
    rintro e _ ⟨rfl, rfl⟩
    exact ⟨rfl, ⟨rfl, h⟩, Same.refl _ _⟩
  | box b =>
    obtain ⟨rfl, h⟩ := h
    refine (put_any g b i v sg w h hr (Known.good hok).fine).mono ?_
    rintro e w' ⟨rfl, h', hS⟩
    exact ⟨rfl, ⟨rfl, h'⟩, hS⟩
set_option maxHeartbeats 1000000 in
set_option maxRecDepth 100000 in
theorem refPut_nil (i : Int) (v : Value) (w : World) :
    Calls Try.prog 35 #[.pointer none, .int .i64 i, v] w fun e w' => e = .returned (.int .i64 1) ∧ Below w.heap.size w w' := by
  go_enter Try.func35, Try.ntmps35
  go_wp2
  go_ret
  exact ⟨rfl, Below.refl _ _⟩
theorem putR (h : PRef w r base Z pr s) (hok : s.ok) (hZ : ∀ k, Z k → k < w.heap.size) {v : Value} (hr : Bs w v sg) :
    Calls Try.prog 35 #[pr, .int .i64 i, v] w fun e w' => e = .returned (.int .i64 (s.err i sg)) ∧ PRef w' r base Z pr (s.put i sg) ∧ Same (s.fr r) w w' := by
  cases s with
  | nil =>
    obtain rfl : pr = _ := h
    refine (refPut_nil i v w).mono ?_
    rintro e w' ⟨rfl, hB⟩
    exact ⟨rfl, rfl, Same.of_below hB _⟩
  | zero =>
    obtain rfl : pr = _ := h
    refine (refPut_nil i v w).mono ?_
    rintro e w' ⟨rfl, hB⟩
    exact ⟨rfl, rfl, Same.of_below hB _⟩
  | box b =>
    obtain ⟨rfl, h⟩ := h
    have hk : Known b := hok
    have hl := hk.good.ls_len
    have hc := hk.good.fine.hi
    refine (refPut_any r base b.ls i v sg w h hr (by omega) hk.good.ls_le hZ).mono ?_
    rintro e w' ⟨rfl, h', hS⟩
    rw [err_same hk]
    rw [← put_ls hk] at h'
    exact ⟨rfl, ⟨rfl, h'⟩, hS⟩
theorem countB (h : PBox w g pb s) : Calls Try.prog 25 #[pb] w fun e w' => e = .returned (.int .i64 s.cnt) ∧ w = w' := by
  cases s with
  | nil => obtain rfl : pb = _ := h; exact count_nil w
  | zero => obtain ⟨rfl, h⟩ := h; exact count_any g 0 0 _ w h
  | box b => obtain ⟨rfl, h⟩ := h; exact count_any g b.cnt b.len b.ps w h
set_option maxHeartbeats 1000000 in
set_option maxRecDepth 100000 in
theorem refCount_nil (w : World) : Calls Try.prog 36 #[.pointer none] w fun e w' => e = .returned (.int .i64 0) ∧ w = w' := by
  go_enter Try.func36, Try.ntmps36
  go_wp2
  go_ret
  exact ⟨rfl, rfl⟩
theorem countR (h : PRef w r base Z pr s) (hok : s.ok) : Calls Try.prog 36 #[pr] w fun e w' => e = .returned (.int .i64 s.cnt) ∧ w = w' := by
  cases s with
  | nil => obtain rfl : pr = _ := h; exact refCount_nil w
  | zero => obtain rfl : pr = _ := h; exact refCount_nil w
  | box b =>
    obtain ⟨rfl, h⟩ := h
    have := refCount_any r base b.ls w h
    rwa [(Known.good hok).ls_len] at this
theorem lengthB (h : PBox w g pb s) : Calls Try.prog 24 #[pb] w fun e w' => e = .returned (.tuple #[.int .i64 s.len, .bool (decide (0 < s.len))]) ∧ ∃ n, w' = w.drewN n := by
  cases s with
  | nil =>
    obtain rfl : pb = _ := h
    refine (length_nil w).mono ?_
    rintro e _ ⟨rfl, rfl⟩
    exact ⟨rfl, 0, rfl⟩
  | zero => obtain ⟨rfl, h⟩ := h; exact length_any g 0 0 _ w h
  | box b => obtain ⟨rfl, h⟩ := h; exact length_any g b.cnt b.len b.ps w h
set_option maxHeartbeats 1000000 in
set_option maxRecDepth 100000 in
theorem refLength_nil (w : World) : Calls Try.prog 38 #[.pointer none] w fun e w' => e = .returned (.tuple #[.int .i64 0, .bool false]) ∧ w = w' := by
  go_enter Try.func38, Try.ntmps38
  go_wp2
  go_ret2
  exact ⟨rfl, rfl⟩
theorem lengthR (h : PRef w r base Z pr s) (hok : s.ok) : Calls Try.prog 38 #[pr] w fun e w' => e = .returned (.tuple #[.int .i64 s.len, .bool (decide (0 < s.len))]) ∧ w = w' := by
  cases s with
  | nil => obtain rfl : pr = _ := h; exact refLength_nil w
  | zero => obtain rfl : pr = _ := h; exact refLength_nil w
  | box b =>
    obtain ⟨rfl, h⟩ := h
    have hk : Known b := hok
    have hl := hk.good.ls_len
    have hc := hk.good.fine.hi
    have := refLength_any r base b.ls w h (by omega)
    rwa [hk.len] at this
theorem gotB (h : PBox w g pb s) (hok : s.ok) : Calls Try.prog 29 #[pb] w fun e w' => ∃ v, e = .returned v ∧ w'.ownsRow w.heap.size 77 2 v s.got.length (rvs s.got) ∧ Below w.heap.size w w' := by
  cases s with
  | nil =>
    obtain rfl : pb = _ := h
    refine (got_nil w).mono ?_
    rintro e _ ⟨rfl, rfl⟩
    exact ⟨_, rfl, World.ownsRow_nil _ _ _ _, Below.refl _ _⟩
  | zero =>
    obtain ⟨rfl, h⟩ := h
    have := got_any g 0 0 _ w h (by omega)
    have e : leastR (gotL (List.replicate 64 []) 0) = [] := by simp [gotL, leastR, full, mergeR]
    rw [e] at this
    exact this
  | box b => obtain ⟨rfl, h⟩ := h; exact got_any g b.cnt b.len b.ps w h (Known.good hok).fine.hi
set_option maxHeartbeats 1000000 in
set_option maxRecDepth 100000 in
theorem refGot_nil (w : World) : Calls Try.prog 37 #[.pointer none] w fun e w' => e = .returned (.slice none 0 0) ∧ w = w' := by
  go_enter Try.func37, Try.ntmps37
  go_wp2
  go_ret
  exact ⟨rfl, rfl⟩
theorem gotR (h : PRef w r base Z pr s) (hok : s.ok) : Calls Try.prog 37 #[pr] w fun e w' => ∃ v, e = .returned v ∧ w'.ownsRow w.heap.size 77 2 v s.got.length (rvs s.got) ∧ Below w.heap.size w w' := by
  have hnil : pr = .pointer none → s.got = [] → Calls Try.prog 37 #[pr] w fun e w' => ∃ v, e = .returned v ∧ w'.ownsRow w.heap.size 77 2 v s.got.length (rvs s.got) ∧ Below w.heap.size w w' := by
    rintro rfl hg
    rw [hg]
    refine (refGot_nil w).mono ?_
    rintro e _ ⟨rfl, rfl⟩
    exact ⟨_, rfl, World.ownsRow_nil _ _ _ _, Below.refl _ _⟩
  cases s with
  | nil => exact hnil h rfl
  | zero => exact hnil h rfl
  | box b =>
    obtain ⟨rfl, h⟩ := h
    have hk : Known b := hok
    have hl := hk.good.ls_len
    have hc := hk.good.fine.hi
    have := refGot_any r base b.ls w h (by omega)
    rwa [got_same hk] at this
set_option maxHeartbeats 1000000 in
set_option maxRecDepth 100000 in
theorem whole_zero (g : Nat) (w : World) (h : BoxAt w g 0 0 (List.replicate 64 [])) :
    Calls Try.prog 22 #[.pointer (some ⟨g, 0, none⟩)] w fun e w' => e = .returned (.tuple #[.slice none 0 0, .bool false]) ∧ w = w' := by
  have c0 := h.c0
  clear h
  go_enter Try.func22, Try.ntmps22
  go_wp2
  go_ret2
  exact ⟨rfl, rfl⟩
theorem wholeB (h : PBox w g pb s) (hok : s.ok) : Calls Try.prog 22 #[pb] w fun e w' => ∃ v, e = .returned (.tuple #[v, .bool s.all]) ∧ w'.ownsRow w.heap.size 5 1 v s.blk.length (s.blk.map ub) ∧ Below w.heap.size w w' := by
  cases s with
  | nil =>
    obtain rfl : pb = _ := h
    refine (whole_nil w).mono ?_
    rintro e _ ⟨rfl, rfl⟩
    exact ⟨_, rfl, World.ownsRow_nil _ _ _ _, Below.refl _ _⟩
  | zero =>
    obtain ⟨rfl, h⟩ := h
    refine (whole_zero g w h).mono ?_
    rintro e _ ⟨rfl, rfl⟩
    exact ⟨_, rfl, World.ownsRow_nil _ _ _ _, Below.refl _ _⟩
  | box b => obtain ⟨rfl, h⟩ := h; exact whole_any g b w h (Known.good hok).fine (Known.good hok).n
set_option maxHeartbeats 1000000 in
set_option maxRecDepth 100000 in
theorem refWhole_nil (w : World) : Calls Try.prog 39 #[.pointer none] w fun e w' => e = .returned (.tuple #[.slice none 0 0, .bool false]) ∧ w = w' := by
  go_enter Try.func39, Try.ntmps39
  go_wp2
  go_ret2
  exact ⟨rfl, rfl⟩
theorem wholeR (h : PRef w r base Z pr s) (hok : s.ok) : Calls Try.prog 39 #[pr] w fun e w' => ∃ v, e = .returned (.tuple #[v, .bool s.all]) ∧ w'.ownsRow w.heap.size 5 1 v s.blk.length (s.blk.map ub) ∧ Below w.heap.size w w' := by
  have hnil : pr = .pointer none → s.all = false → s.blk = [] → Calls Try.prog 39 #[pr] w fun e w' => ∃ v, e = .returned (.tuple #[v, .bool s.all]) ∧ w'.ownsRow w.heap.size 5 1 v s.blk.length (s.blk.map ub) ∧ Below w.heap.size w w' := by
    rintro rfl ha hg
    rw [hg, ha]
    refine (refWhole_nil w).mono ?_
    rintro e _ ⟨rfl, rfl⟩
    exact ⟨_, rfl, World.ownsRow_nil _ _ _ _, Below.refl _ _⟩
  cases s with
  | nil => exact hnil h rfl rfl
  | zero => exact hnil h rfl rfl
  | box b =>
    obtain ⟨rfl, h⟩ := h
    have hk : Known b := hok
    have hl := hk.good.ls_len
    have hc := hk.good.fine.hi
    exact refWhole_any r base b.ls w h (by omega) hk.good.ls_le
end
end Go.Proofs.Ytgnbnkoanoalhaa
