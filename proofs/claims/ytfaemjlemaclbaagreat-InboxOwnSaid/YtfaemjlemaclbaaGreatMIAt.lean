/- IAt, ISt: joined. -/
import Derived.Test.YtfaemjlemaclbaaGreatMIRowO
import Derived.WalkSpells
section
/- The program's inbox in memory. -/
namespace Go.Proofs.YtfaemjlemaclbaaGreat
set_option linter.unusedVariables false
set_option linter.unusedSimpArgs false
open Go.RowKit Go.Maps
structure OE where
  s : Sess
  kb : Nat
  gb : Nat
  wh : Nat
  box : BoxS
structure CE where
  s : Sess
  kb : Nat
  wh : Nat
  code : Int
def OE.kv (o : OE) : Sess × Option Nat := (o.s, some o.kb)
def OE.re (o : OE) : RE := ⟨o.s, o.kb, o.wh⟩
def OE.m (o : OE) : Sess × BoxS := (o.s, o.box)
def CE.kv (o : CE) : Sess × Option Nat := (o.s, some o.kb)
def CE.re (o : CE) : RE := ⟨o.s, o.kb, o.wh⟩
def CE.m (o : CE) : Sess × Int := (o.s, o.code)
structure KO (w : World) (t : Nat) (O : List OE) : Prop where
  blk : ∀ o ∈ O, Blk w o.kb 101 [.pointer (some ⟨o.gb, 0, none⟩), .int .i64 (o.wh : Int)]
  box : ∀ o ∈ O, o.box.at w o.gb
  srt : O.Pairwise fun a b => a.wh < b.wh
  top : ∀ o ∈ O, o.wh ≤ t
  nk : O.Pairwise fun a b => a.kb ≠ b.kb
  ng : O.Pairwise fun a b => a.gb ≠ b.gb
structure KC (w : World) (t : Nat) (C : List CE) : Prop where
  blk : ∀ o ∈ C, Blk w o.kb 93 [.int .i64 o.code, .int .i64 (o.wh : Int)]
  srt : C.Pairwise fun a b => a.wh < b.wh
  top : ∀ o ∈ C, o.wh ≤ t
  nk : C.Pairwise fun a b => a.kb ≠ b.kb
section
variable {w w' : World} {t : Nat} {S : Nat → Prop}
theorem pair_snoc {α : Type} {R : α → α → Prop} {l : List α} {a : α} (h : l.Pairwise R) (ha : ∀ x ∈ l, R x a) : (l ++ [a]).Pairwise R := by
  rw [List.pairwise_append]
  exact ⟨h, List.pairwise_singleton _ _, fun x hx y hy => by simp at hy; subst hy; exact ha x hx⟩
theorem KO.nil : KO w t [] := ⟨by simp, by simp, List.Pairwise.nil, by simp, List.Pairwise.nil, List.Pairwise.nil⟩
theorem KC.nil : KC w t [] := ⟨by simp, List.Pairwise.nil, by simp, List.Pairwise.nil⟩
theorem KO.same {O : List OE} (h : KO w t O) (hs : Same S w w') (hk : ∀ o ∈ O, ¬ S o.kb) (hg : ∀ o ∈ O, ¬ S o.gb) : KO w' t O :=
  ⟨fun o ho => (h.blk o ho).same hs (hk o ho), fun o ho => BoxAt.same (h.box o ho) hs (hg o ho), h.srt, h.top, h.nk, h.ng⟩
theorem KC.same {C : List CE} (h : KC w t C) (hs : Same S w w') (hk : ∀ o ∈ C, ¬ S o.kb) : KC w' t C :=
  ⟨fun o ho => (h.blk o ho).same hs (hk o ho), h.srt, h.top, h.nk⟩
theorem KO.sub {O O' : List OE} (h : KO w t O) (hs : O'.Sublist O) : KO w t O' :=
  ⟨fun o ho => h.blk o (hs.subset ho), fun o ho => h.box o (hs.subset ho), h.srt.sublist hs, fun o ho => h.top o (hs.subset ho), h.nk.sublist hs, h.ng.sublist hs⟩
theorem KC.sub {O O' : List CE} (h : KC w t O) (hs : O'.Sublist O) : KC w t O' :=
  ⟨fun o ho => h.blk o (hs.subset ho), h.srt.sublist hs, fun o ho => h.top o (hs.subset ho), h.nk.sublist hs⟩
theorem KO.mono {O : List OE} (h : KO w t O) {t' : Nat} (ht : t ≤ t') : KO w t' O := ⟨h.blk, h.box, h.srt, fun o ho => Nat.le_trans (h.top o ho) ht, h.nk, h.ng⟩
theorem KC.mono {O : List CE} (h : KC w t O) {t' : Nat} (ht : t ≤ t') : KC w t' O := ⟨h.blk, h.srt, fun o ho => Nat.le_trans (h.top o ho) ht, h.nk⟩
theorem KO.snoc {O : List OE} {o : OE} (h : KO w t O) (hb : Blk w o.kb 101 [.pointer (some ⟨o.gb, 0, none⟩), .int .i64 (o.wh : Int)]) (hx : o.box.at w o.gb) (ht : t < o.wh)
    (hk : ∀ a ∈ O, a.kb ≠ o.kb) (hg : ∀ a ∈ O, a.gb ≠ o.gb) : KO w o.wh (O ++ [o]) where
  blk a ha := by
    rcases List.mem_append.1 ha with e | e
    · exact h.blk a e
    · simp at e; subst e; exact hb
  box a ha := by
    rcases List.mem_append.1 ha with e | e
    · exact h.box a e
    · simp at e; subst e; exact hx
  srt := pair_snoc h.srt fun a ha => Nat.lt_of_le_of_lt (h.top a ha) ht
  top a ha := by
    rcases List.mem_append.1 ha with e | e
    · exact Nat.le_of_lt (Nat.lt_of_le_of_lt (h.top a e) ht)
    · simp at e; subst e; exact Nat.le_refl _
  nk := pair_snoc h.nk hk
  ng := pair_snoc h.ng hg
theorem KC.snoc {O : List CE} {o : CE} (h : KC w t O) (hb : Blk w o.kb 93 [.int .i64 o.code, .int .i64 (o.wh : Int)]) (ht : t < o.wh) (hk : ∀ a ∈ O, a.kb ≠ o.kb) : KC w o.wh (O ++ [o]) where
  blk a ha := by
    rcases List.mem_append.1 ha with e | e
    · exact h.blk a e
    · simp at e; subst e; exact hb
  srt := pair_snoc h.srt fun a ha => Nat.lt_of_le_of_lt (h.top a ha) ht
  top a ha := by
    rcases List.mem_append.1 ha with e | e
    · exact Nat.le_of_lt (Nat.lt_of_le_of_lt (h.top a e) ht)
    · simp at e; subst e; exact Nat.le_refl _
  nk := pair_snoc h.nk hk
end
/-- the inbox lies in x; its maps in bo and bd. -/
structure IAt (w : World) (x bo bd t : Nat) (O : List OE) (C : List CE) (m : IM) : Prop where
  blk : Blk w x 87 [.int .i64 (m.mo : Int), .int .i64 (m.ms : Int), .int .u64 (m.ep.toNat : Int), .map (some bo), .map (some bd), .int .i64 (t : Int)]
  mo : MapAt w bo (O.map OE.kv)
  md : MapAt w bd (C.map CE.kv)
  ne : bo ≠ bd
  ko : KO w t O
  kc : KC w t C
  eo : O.map OE.m = m.O
  ec : C.map CE.m = m.C
  inv : IInv m
def IF (x bo bd : Nat) (O : List OE) (C : List CE) (b : Nat) : Prop := b = x ∨ b = bo ∨ b = bd ∨ (∃ o ∈ O, b = o.kb ∨ b = o.gb) ∨ ∃ c ∈ C, b = c.kb
section
variable {w w' : World} {x bo bd t : Nat} {O : List OE} {C : List CE} {m : IM} {S : Nat → Prop}
theorem IAt.same (h : IAt w x bo bd t O C m) (hs : Same S w w') (hS : ∀ b, IF x bo bd O C b → ¬ S b) : IAt w' x bo bd t O C m :=
  ⟨h.blk.same hs (hS x (.inl rfl)), h.mo.same hs (hS bo (.inr (.inl rfl))), h.md.same hs (hS bd (.inr (.inr (.inl rfl)))), h.ne,
    h.ko.same hs (fun o ho => hS _ (.inr (.inr (.inr (.inl ⟨o, ho, .inl rfl⟩))))) (fun o ho => hS _ (.inr (.inr (.inr (.inl ⟨o, ho, .inr rfl⟩))))),
    h.kc.same hs (fun o ho => hS _ (.inr (.inr (.inr (.inr ⟨o, ho, rfl⟩))))), h.eo, h.ec, h.inv⟩
theorem IAt.later (h : IAt w x bo bd t O C m) (hb : Below w.heap.size w w') : IAt w' x bo bd t O C m := h.same (Same.of_below hb no) fun _ _ h => h
theorem IAt.lt (h : IAt w x bo bd t O C m) {b : Nat} (hb : IF x bo bd O C b) : b < w.heap.size := by
  rcases hb with rfl | rfl | rfl | ⟨o, ho, rfl | rfl⟩ | ⟨c, hc, rfl⟩
  · exact h.blk.lt
  · exact h.mo.lt
  · exact h.md.lt
  · exact (h.ko.blk o ho).lt
  · exact (h.ko.box o ho).blk.lt
  · exact (h.kc.blk c hc).lt
end
/-! ### none, touch, rise -/
set_option maxHeartbeats 400000 in
set_option maxRecDepth 100000 in
theorem none_any (x bo : Nat) (w : World) (h : w.cell? ⟨x, 3, none⟩ = some (.map (some bo))) :
    Calls Tryz.prog 33 #[.pointer (some ⟨x, 0, none⟩)] w fun e w' => e = .returned (.bool false) ∧ w' = w := by
  have qT : ∀ W : World, (binOp .eql 84 (.map (some bo)) (.map none)).run Tryz.prog W = .ok (.bool false) W := fun W => run_eql_map_nil W _ _ _ (some bo) Tryz.underlying84
  go_enter Tryz.func33, Tryz.ntmps33
  go_wp2
  go_ret
  exact ⟨rfl, rfl⟩
set_option maxHeartbeats 400000 in
set_option maxRecDepth 100000 in
theorem touch_any (x kb t : Nat) (tk : TypeId) (a b c d e f g : Value) (w : World) (h : Blk w x 87 [a, b, c, d, e, .int .i64 (t : Int)]) (hk : Blk w kb tk [f, g]) (hne : x ≠ kb) (ht : t < 4611686018427387904) :
    Calls Tryz.prog 36 #[.pointer (some ⟨x, 0, none⟩), .pointer (some ⟨kb, 1, none⟩)] w fun en w' => en = .returned (.tuple #[]) ∧
      Blk w' x 87 [a, b, c, d, e, .int .i64 ((t + 1 : Nat) : Int)] ∧ Blk w' kb tk [f, .int .i64 ((t + 1 : Nat) : Int)] ∧ Same (fun k => k = x ∨ k = kb) w w' := by
  have c5 := h.cell_some (i := 5) rfl
  have hb1 := h.set 5 (.int .i64 ((t : Int) + 1))
  have hk1 := hk.far (p := ⟨x, 5, none⟩) (fun e => hne e.symm) (.int .i64 ((t : Int) + 1))
  have d1 := hk1.cell_some (i := 1) rfl
  have c5' := hb1.cell_some (i := 5) rfl
  have fr := hk1.frozen 1
  have fr0 := h.frozen 5
  have h0 := h.lt
  have h1 := hk.lt
  have HB := Lib.hid hb1
  have HK := Lib.hid hk1
  clear h hk hb1 hk1
  go_enter Tryz.func36, Tryz.ntmps36
  go_wp2
  go_end0
  have et : ((t + 1 : Nat) : Int) = (t : Int) + 1 := by omega
  rw [et]
  exact ⟨rfl, HB.out.far (p := ⟨kb, 1, none⟩) hne _, HK.out.set 1 _, ((Same.refl _ w).setCell (p := ⟨x, 5, none⟩) (fun _ => .inl rfl) _).setCell (p := ⟨kb, 1, none⟩) (fun _ => .inr rfl) _⟩
set_option maxHeartbeats 400000 in
set_option maxRecDepth 100000 in
theorem rise_no (x : Nat) (ep e : UInt64) (w : World) (h : w.cell? ⟨x, 2, none⟩ = some (.int .u64 (ep.toNat : Int))) (hn : ¬ ep.toNat < e.toNat) :
    Calls Tryz.prog 35 #[.pointer (some ⟨x, 0, none⟩), .int .u64 (e.toNat : Int)] w fun en w' => en = .returned (.tuple #[]) ∧ w' = w := by
  obtain ⟨n, hn'⟩ : ∃ n, n = e.toNat := ⟨_, rfl⟩
  obtain ⟨k, hk'⟩ : ∃ k, k = ep.toNat := ⟨_, rfl⟩
  rw [← hn', ← hk'] at hn
  rw [← hk'] at h
  rw [← hn']
  clear hn' hk'
  have hd : decide ((n : Int) > (k : Int)) = false := by simp; omega
  go_enter Tryz.func35, Tryz.ntmps35
  go_wp2
  go_end0
  exact ⟨rfl, rfl⟩
set_option maxHeartbeats 1000000 in
set_option maxRecDepth 100000 in
theorem rise_yes (x bo bd : Nat) (ep e : UInt64) (a b t : Value) (LO LD : List (Sess × Option Nat)) (w : World) (h : Blk w x 87 [a, b, .int .u64 (ep.toNat : Int), .map (some bo), .map (some bd), t])
    (h1 : MapAt w bo LO) (h2 : MapAt w bd LD) (hne : bo ≠ bd) (hn : ep.toNat < e.toNat) :
    Calls Tryz.prog 35 #[.pointer (some ⟨x, 0, none⟩), .int .u64 (e.toNat : Int)] w fun en w' => en = .returned (.tuple #[]) ∧
      Blk w' x 87 [a, b, .int .u64 (e.toNat : Int), .map (some bo), .map (some bd), t] ∧ MapAt w' bo [] ∧ MapAt w' bd [] ∧ Same (fun k => k = x ∨ k = bo ∨ k = bd) w w' := by
  obtain ⟨n, hn'⟩ : ∃ n, n = e.toNat := ⟨_, rfl⟩
  obtain ⟨k, hk'⟩ : ∃ k, k = ep.toNat := ⟨_, rfl⟩
  rw [← hn', ← hk'] at hn
  rw [← hk'] at h
  rw [← hn']
  clear hn' hk'
  have hd : decide ((n : Int) > (k : Int)) = true := by simp; omega
  have c2 := h.cell_some (i := 2) rfl
  have hB1 := h.set 2 (.int .u64 (n : Int))
  obtain ⟨w1, hw1⟩ : ∃ w1, w1 = w.setCell ⟨x, 2, none⟩ (.int .u64 (n : Int)) := ⟨_, rfl⟩
  rw [← hw1] at hB1
  have hS1 : Same (at1 x) w w1 := hw1 ▸ (Same.refl (at1 x) w).setCell (p := ⟨x, 2, none⟩) (fun _ => rfl) _
  have hO1 := h1.same hS1 fun e => h1.ne h e.symm
  have hD1 := h2.same hS1 fun e => h2.ne h e.symm
  obtain ⟨w2, r2, hO2, hS2⟩ := hO1.clear Tryz.underlying84
  have hB2 := hB1.same hS2 (hO1.ne hB1)
  have hD2 := hD1.same hS2 fun e => hne e.symm
  obtain ⟨w3, r3, hD3, hS3⟩ := hD2.clear Tryz.underlying85
  have hB3 := hB2.same hS3 (hD2.ne hB2)
  have hO3 := hO2.same hS3 hne
  have c3 := h.cell_some (i := 3) rfl
  have c4 := hB2.cell_some (i := 4) rfl
  have fr := h.frozen 2
  have hx := h.lt
  have HB := Lib.hid hB3; have HO := Lib.hid hO3; have HD := Lib.hid hD3
  have HS : Hid (Same (fun k => k = x ∨ k = bo ∨ k = bd) w w3) := Lib.hid (((hS1.mono fun i _ (e : i = x) => .inl e).trans (hS2.mono fun i _ (e : i = bo) => (.inr (.inl e) : i = x ∨ i = bo ∨ i = bd)) fun i _ h => h).trans (hS3.mono fun i _ (e : i = bd) => (.inr (.inr e) : i = x ∨ i = bo ∨ i = bd)) fun i _ h => h)
  subst hw1
  clear h h1 h2 hB1 hB2 hB3 hO1 hO2 hO3 hD1 hD2 hD3 hS1 hS2 hS3
  go_enter Tryz.func35, Tryz.ntmps35
  go_wp2_with fail
  go_end0
  exact ⟨rfl, HB.out, HO.out, HD.out, HS.out⟩
end Go.Proofs.YtfaemjlemaclbaaGreat
end
section
/- How the inbox's memory goes from state to state. -/
namespace Go.Proofs.YtfaemjlemaclbaaGreat
set_option linter.unusedVariables false
set_option linter.unusedSimpArgs false
open Go.RowKit Go.Maps
def owo (O : List OE) (s : Sess) : List OE := O.filter fun o => decide (o.s ≠ s)
def cwo (C : List CE) (s : Sess) : List CE := C.filter fun o => decide (o.s ≠ s)
theorem owo_sub (O : List OE) (s : Sess) : (owo O s).Sublist O := List.filter_sublist
theorem cwo_sub (C : List CE) (s : Sess) : (cwo C s).Sublist C := List.filter_sublist
theorem owo_m (O : List OE) (s : Sess) : (owo O s).map OE.m = wo (O.map OE.m) s := by unfold owo wo; rw [List.filter_map]; rfl
theorem owo_kv (O : List OE) (s : Sess) : (owo O s).map OE.kv = wo (O.map OE.kv) s := by unfold owo wo; rw [List.filter_map]; rfl
theorem cwo_m (C : List CE) (s : Sess) : (cwo C s).map CE.m = wo (C.map CE.m) s := by unfold cwo wo; rw [List.filter_map]; rfl
theorem cwo_kv (C : List CE) (s : Sess) : (cwo C s).map CE.kv = wo (C.map CE.kv) s := by unfold cwo wo; rw [List.filter_map]; rfl
theorem owo_ne {O : List OE} {o a : OE} {R : OE → OE → Prop} (hsym : ∀ x y, R x y → R y x) (hp : O.Pairwise R) (ho : o ∈ O) (ha : a ∈ owo O o.s) : R a o := by
  have ha' : a ∈ O ∧ a.s ≠ o.s := by simpa [owo] using ha
  obtain ⟨i, hi, rfl⟩ := List.mem_iff_getElem.1 ho
  obtain ⟨j, hj, rfl⟩ := List.mem_iff_getElem.1 ha'.1
  have hne : i ≠ j := fun e => ha'.2 (by subst e; rfl)
  rcases Nat.lt_or_gt_of_ne hne with h | h
  · exact hsym _ _ (List.pairwise_iff_getElem.1 hp i j hi hj h)
  · exact List.pairwise_iff_getElem.1 hp j i hj hi h
theorem cwo_ne {O : List CE} {o a : CE} {R : CE → CE → Prop} (hsym : ∀ x y, R x y → R y x) (hp : O.Pairwise R) (ho : o ∈ O) (ha : a ∈ cwo O o.s) : R a o := by
  have ha' : a ∈ O ∧ a.s ≠ o.s := by simpa [cwo] using ha
  obtain ⟨i, hi, rfl⟩ := List.mem_iff_getElem.1 ho
  obtain ⟨j, hj, rfl⟩ := List.mem_iff_getElem.1 ha'.1
  have hne : i ≠ j := fun e => ha'.2 (by subst e; rfl)
  rcases Nat.lt_or_gt_of_ne hne with h | h
  · exact hsym _ _ (List.pairwise_iff_getElem.1 hp i j hi hj h)
  · exact List.pairwise_iff_getElem.1 hp j i hj hi h
theorem kv_perm {κ ε : Type} [DecidableEq κ] {L : List (κ × ε)} {s : κ} {x : ε} (h0 : (L.map (·.1)).Nodup) (h : (s, x) ∈ L) : L.Perm (wo L s ++ [(s, x)]) :=
  (wo_perm h0 h).trans (List.perm_append_singleton (s, x) (wo L s)).symm
section
variable {w w' : World} {x bo bd t : Nat} {O : List OE} {C : List CE} {m : IM}
theorem IAt.x_ne (h : IAt w x bo bd t O C m) : x ≠ bo ∧ x ≠ bd := ⟨h.mo.ne h.blk, h.md.ne h.blk⟩
theorem IAt.ok_ne (h : IAt w x bo bd t O C m) {o : OE} (ho : o ∈ O) : o.kb ≠ x ∧ o.kb ≠ bo ∧ o.kb ≠ bd ∧ o.gb ≠ x ∧ o.gb ≠ bo ∧ o.gb ≠ bd ∧ o.kb ≠ o.gb :=
  ⟨(h.ko.blk o ho).ne h.blk (by decide), h.mo.ne (h.ko.blk o ho), h.md.ne (h.ko.blk o ho), (h.ko.box o ho).blk.ne h.blk (by decide), h.mo.ne (h.ko.box o ho).blk, h.md.ne (h.ko.box o ho).blk, (h.ko.blk o ho).ne (h.ko.box o ho).blk (by decide)⟩
theorem IAt.ck_ne (h : IAt w x bo bd t O C m) {c : CE} (hc : c ∈ C) : c.kb ≠ x ∧ c.kb ≠ bo ∧ c.kb ≠ bd ∧ ∀ o ∈ O, c.kb ≠ o.kb ∧ c.kb ≠ o.gb :=
  ⟨(h.kc.blk c hc).ne h.blk (by decide), h.mo.ne (h.kc.blk c hc), h.md.ne (h.kc.blk c hc), fun o ho => ⟨(h.kc.blk c hc).ne (h.ko.blk o ho) (by decide), (h.kc.blk c hc).ne (h.ko.box o ho).blk (by decide)⟩⟩
theorem IAt.oo_ne (h : IAt w x bo bd t O C m) {o a : OE} (ho : o ∈ O) (ha : a ∈ O) : a.kb ≠ o.gb := (h.ko.blk a ha).ne (h.ko.box o ho).blk (by decide)
/-- an open one was touched; its box may have turned. -/
theorem IAt.touchO (h : IAt w x bo bd t O C m) {o : OE} (ho : o ∈ O) {b' : BoxS} (hi : IInv { m with O := wo m.O o.s ++ [(o.s, b')] })
    (hB : Blk w' x 87 [.int .i64 (m.mo : Int), .int .i64 (m.ms : Int), .int .u64 (m.ep.toNat : Int), .map (some bo), .map (some bd), .int .i64 ((t + 1 : Nat) : Int)])
    (hK : Blk w' o.kb 101 [.pointer (some ⟨o.gb, 0, none⟩), .int .i64 ((t + 1 : Nat) : Int)]) (hX : b'.at w' o.gb) (hs : Same (fun k => k = x ∨ k = o.kb ∨ k = o.gb) w w') :
    IAt w' x bo bd (t + 1) (owo O o.s ++ [⟨o.s, o.kb, o.gb, t + 1, b'⟩]) C { m with O := wo m.O o.s ++ [(o.s, b')] } := by
  have n1 := h.x_ne
  have n2 := h.ok_ne ho
  have hmem : (o.s, some o.kb) ∈ O.map OE.kv := List.mem_map.2 ⟨o, ho, rfl⟩
  have k1 : ∀ a ∈ owo O o.s, a.kb ≠ o.kb := fun a ha => owo_ne (R := fun a b => a.kb ≠ b.kb) (fun _ _ => Ne.symm) h.ko.nk ho ha
  have k2 : ∀ a ∈ owo O o.s, a.gb ≠ o.gb := fun a ha => owo_ne (R := fun a b => a.gb ≠ b.gb) (fun _ _ => Ne.symm) h.ko.ng ho ha
  refine ⟨hB, ?_, ?_, h.ne, ?_, ?_, ?_, h.ec, hi⟩
  · have h1 := (h.mo.perm (kv_perm h.mo.1 hmem)).same hs (by rintro (e | e | e); exact n1.1 e.symm; exact n2.2.1 e.symm; exact n2.2.2.2.2.1 e.symm)
    rwa [List.map_append, owo_kv]
  · exact h.md.same hs (by rintro (e | e | e); exact n1.2 e.symm; exact n2.2.2.1 e.symm; exact n2.2.2.2.2.2.1 e.symm)
  · refine KO.snoc (t := t) (o := ⟨o.s, o.kb, o.gb, t + 1, b'⟩) ((h.ko.sub (owo_sub O o.s)).same hs (fun a ha => ?_) fun a ha => ?_) hK hX (Nat.lt_succ_self t) k1 k2
    · have ha' := (owo_sub O o.s).subset ha
      rintro (e | e | e)
      · exact (h.ok_ne ha').1 e
      · exact owo_ne (R := fun a b => a.kb ≠ b.kb) (fun _ _ => Ne.symm) h.ko.nk ho ha e
      · exact h.oo_ne ho ha' e
    · have ha' := (owo_sub O o.s).subset ha
      rintro (e | e | e)
      · exact (h.ok_ne ha').2.2.2.1 e
      · exact h.oo_ne ha' ho e.symm
      · exact owo_ne (R := fun a b => a.gb ≠ b.gb) (fun _ _ => Ne.symm) h.ko.ng ho ha e
  · exact (h.kc.same hs fun c hc => by
      have := h.ck_ne hc
      rintro (e | e | e)
      · exact this.1 e
      · exact (this.2.2.2 o ho).1 e
      · exact (this.2.2.2 o ho).2 e).mono (Nat.le_succ t)
  · rw [List.map_append, owo_m, h.eo]
    rfl
/-- a decided one was touched. -/
theorem IAt.touchC (h : IAt w x bo bd t O C m) {c : CE} (hc : c ∈ C)
    (hB : Blk w' x 87 [.int .i64 (m.mo : Int), .int .i64 (m.ms : Int), .int .u64 (m.ep.toNat : Int), .map (some bo), .map (some bd), .int .i64 ((t + 1 : Nat) : Int)])
    (hK : Blk w' c.kb 93 [.int .i64 c.code, .int .i64 ((t + 1 : Nat) : Int)]) (hs : Same (fun k => k = x ∨ k = c.kb) w w') :
    IAt w' x bo bd (t + 1) O (cwo C c.s ++ [⟨c.s, c.kb, t + 1, c.code⟩]) (m.touch c.s c.code) := by
  have n1 := h.x_ne
  have n2 := h.ck_ne hc
  have hmem : (c.s, some c.kb) ∈ C.map CE.kv := List.mem_map.2 ⟨c, hc, rfl⟩
  have k1 : ∀ a ∈ cwo C c.s, a.kb ≠ c.kb := fun a ha => cwo_ne (R := fun a b => a.kb ≠ b.kb) (fun _ _ => Ne.symm) h.kc.nk hc ha
  have hm : (c.s, c.code) ∈ m.C := h.ec ▸ List.mem_map.2 ⟨c, hc, rfl⟩
  refine ⟨hB, ?_, ?_, h.ne, ?_, ?_, h.eo, ?_, h.inv.touch hm⟩
  · exact h.mo.same hs (by rintro (e | e); exact n1.1 e.symm; exact n2.2.1 e.symm)
  · have h1 := (h.md.perm (kv_perm h.md.1 hmem)).same hs (by rintro (e | e); exact n1.2 e.symm; exact n2.2.2.1 e.symm)
    rwa [List.map_append, cwo_kv]
  · exact (h.ko.same hs (fun a ha => by
      rintro (e | e)
      · exact (h.ok_ne ha).1 e
      · exact (n2.2.2.2 a ha).1 e.symm) fun a ha => by
      rintro (e | e)
      · exact (h.ok_ne ha).2.2.2.1 e
      · exact (n2.2.2.2 a ha).2 e.symm).mono (Nat.le_succ t)
  · refine KC.snoc (t := t) (o := ⟨c.s, c.kb, t + 1, c.code⟩) ((h.kc.sub (cwo_sub C c.s)).same hs fun a ha => ?_) hK (Nat.lt_succ_self t) k1
    rintro (e | e)
    · exact (h.ck_ne ((cwo_sub C c.s).subset ha)).1 e
    · exact cwo_ne (R := fun a b => a.kb ≠ b.kb) (fun _ _ => Ne.symm) h.kc.nk hc ha e
  · rw [List.map_append, cwo_m, h.ec]
    rfl
/-- an open one is no more. -/
theorem IAt.delO (h : IAt w x bo bd t O C m) {O' : List OE} (hsub : O'.Sublist O) (hm : MapAt w' bo (O'.map OE.kv)) (hs : Same (at1 bo) w w') (hi : IInv { m with O := O'.map OE.m }) : IAt w' x bo bd t O' C { m with O := O'.map OE.m } := by
  refine ⟨h.blk.same hs h.x_ne.1, hm, h.md.same hs h.ne.symm, h.ne, (h.ko.sub hsub).same hs (fun a ha => (h.ok_ne (hsub.subset ha)).2.1) (fun a ha => (h.ok_ne (hsub.subset ha)).2.2.2.2.1), h.kc.same hs fun c hc => (h.ck_ne hc).2.1, rfl, h.ec, hi⟩
/-- a decided one is no more. -/
theorem IAt.delC (h : IAt w x bo bd t O C m) {C' : List CE} (hsub : C'.Sublist C) (hm : MapAt w' bd (C'.map CE.kv)) (hs : Same (at1 bd) w w') (hi : IInv { m with C := C'.map CE.m }) : IAt w' x bo bd t O C' { m with C := C'.map CE.m } := by
  refine ⟨h.blk.same hs h.x_ne.2, h.mo.same hs h.ne, hm, h.ne, h.ko.same hs (fun a ha => (h.ok_ne ha).2.2.1) (fun a ha => (h.ok_ne ha).2.2.2.2.2.1), (h.kc.sub hsub).same hs fun c hc => (h.ck_ne (hsub.subset hc)).2.2.1, h.eo, rfl, hi⟩
/-- an open one came. -/
theorem IAt.addO (h : IAt w x bo bd t O C m) {s : Sess} {kb gb : Nat} {b' : BoxS} (hi : IInv { m with O := m.O ++ [(s, b')] }) (hm : MapAt w' bo (O.map OE.kv ++ [(s, some kb)]))
    (hB : Blk w' x 87 [.int .i64 (m.mo : Int), .int .i64 (m.ms : Int), .int .u64 (m.ep.toNat : Int), .map (some bo), .map (some bd), .int .i64 ((t + 1 : Nat) : Int)])
    (hK : Blk w' kb 101 [.pointer (some ⟨gb, 0, none⟩), .int .i64 ((t + 1 : Nat) : Int)]) (hX : b'.at w' gb) (hs : Same (fun k => k = x ∨ k = bo) w w') (h1 : ∀ a ∈ O, a.kb ≠ kb) (h2 : ∀ a ∈ O, a.gb ≠ gb) :
    IAt w' x bo bd (t + 1) (O ++ [⟨s, kb, gb, t + 1, b'⟩]) C { m with O := m.O ++ [(s, b')] } := by
  have n1 := h.x_ne
  refine ⟨hB, by rwa [List.map_append], h.md.same hs (by rintro (e | e); exact n1.2 e.symm; exact h.ne e.symm), h.ne, ?_, ?_, by rw [List.map_append, h.eo]; rfl, h.ec, hi⟩
  · refine KO.snoc (t := t) (o := ⟨s, kb, gb, t + 1, b'⟩) (h.ko.same hs (fun a ha => ?_) fun a ha => ?_) hK hX (Nat.lt_succ_self t) h1 h2
    · rintro (e | e)
      · exact (h.ok_ne ha).1 e
      · exact (h.ok_ne ha).2.1 e
    · rintro (e | e)
      · exact (h.ok_ne ha).2.2.2.1 e
      · exact (h.ok_ne ha).2.2.2.2.1 e
  · exact (h.kc.same hs fun c hc => by
      rintro (e | e)
      · exact (h.ck_ne hc).1 e
      · exact (h.ck_ne hc).2.1 e).mono (Nat.le_succ t)
/-- a decided one came. -/
theorem IAt.addC (h : IAt w x bo bd t O C m) {s : Sess} {kb : Nat} {code : Int} (hi : IInv { m with C := m.C ++ [(s, code)] }) (hm : MapAt w' bd (C.map CE.kv ++ [(s, some kb)]))
    (hB : Blk w' x 87 [.int .i64 (m.mo : Int), .int .i64 (m.ms : Int), .int .u64 (m.ep.toNat : Int), .map (some bo), .map (some bd), .int .i64 ((t + 1 : Nat) : Int)])
    (hK : Blk w' kb 93 [.int .i64 code, .int .i64 ((t + 1 : Nat) : Int)]) (hs : Same (fun k => k = x ∨ k = bd) w w') (h1 : w.heap.size ≤ kb) :
    IAt w' x bo bd (t + 1) O (C ++ [⟨s, kb, t + 1, code⟩]) { m with C := m.C ++ [(s, code)] } := by
  have n1 := h.x_ne
  refine ⟨hB, h.mo.same hs (by rintro (e | e); exact n1.1 e.symm; exact h.ne e), by rwa [List.map_append], h.ne, ?_, ?_, h.eo, by rw [List.map_append, h.ec]; rfl, hi⟩
  · exact (h.ko.same hs (fun a ha => by
      rintro (e | e)
      · exact (h.ok_ne ha).1 e
      · exact (h.ok_ne ha).2.2.1 e) fun a ha => by
      rintro (e | e)
      · exact (h.ok_ne ha).2.2.2.1 e
      · exact (h.ok_ne ha).2.2.2.2.2.1 e).mono (Nat.le_succ t)
  · refine KC.snoc (t := t) (o := ⟨s, kb, t + 1, code⟩) (h.kc.same hs fun a ha => ?_) hK (Nat.lt_succ_self t) (fun a ha => ?_)
    · rintro (e | e)
      · exact (h.ck_ne ha).1 e
      · exact (h.ck_ne ha).2.2.1 e
    · have := (h.kc.blk a ha).lt
      show a.kb ≠ kb
      omega
/-- the epoch rose, or not. -/
theorem rise_any (h : IAt w x bo bd t O C m) (e : UInt64) :
    Calls Tryz.prog 35 #[.pointer (some ⟨x, 0, none⟩), .int .u64 (e.toNat : Int)] w fun en w' => en = .returned (.tuple #[]) ∧ ∃ O' C', IAt w' x bo bd t O' C' (m.rise e) ∧ O'.Sublist O ∧ C'.Sublist C ∧ Same (fun k => k = x ∨ k = bo ∨ k = bd) w w' := by
  by_cases hn : m.ep.toNat < e.toNat
  · refine (rise_yes x bo bd m.ep e _ _ _ _ _ w h.blk h.mo h.md h.ne hn).mono ?_
    rintro en w' ⟨rfl, h1, h2, h3, h4⟩
    have hi := h.inv.rise e
    have em : m.rise e = { m with ep := e, O := [], C := [] } := if_pos hn
    rw [em] at hi ⊢
    exact ⟨rfl, [], [], ⟨h1, h2, h3, h.ne, KO.nil, KC.nil, rfl, rfl, hi⟩, List.nil_sublist _, List.nil_sublist _, h4⟩
  · refine (rise_no x m.ep e w (h.blk.cell_some rfl) hn).mono ?_
    rintro en w' ⟨rfl, rfl⟩
    have em : m.rise e = m := if_neg hn
    rw [em]
    exact ⟨rfl, O, C, h, List.Sublist.refl _, List.Sublist.refl _, Same.refl _ _⟩
end
end Go.Proofs.YtfaemjlemaclbaaGreat
end
