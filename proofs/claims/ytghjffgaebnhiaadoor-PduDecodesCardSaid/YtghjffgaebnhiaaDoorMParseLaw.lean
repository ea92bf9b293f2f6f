/- What is read was written so, and what is written is read so: units. Nothing of the program's text in it. -/
import Derived.Test.YtghjffgaebnhiaaDoorMEnc4
import Derived.Test.YtghjffgaebnhiaaDoorMCrc
namespace Go.Proofs.YtghjffgaebnhiaaDoor
set_option linter.unusedVariables false
set_option linter.unusedSimpArgs false
theorem rangesS_ok {l : List UInt8} (k : Nat) : ∀ (first : Bool) (e : Nat) (s : RS) (got : List (Int × Int)), s.at_ ≤ l.length → (rangesS l k first e s got).2.f = 0 →
    s.f = 0 ∧ ∃ news, (rangesS l k first e s got).1 = got ++ news ∧ news.length = k ∧ rises (if first then (e : Int) - 1 else e) news = true ∧ (rangesS l k first e s got).2.at_ ≤ l.length ∧ l.take (rangesS l k first e s got).2.at_ = l.take s.at_ ++ rngB e news := by
  induction k with
  | zero => intro first e s got ha h; exact ⟨h, [], by simp [rangesS], rfl, rfl, ha, by simp [rangesS, rngB]⟩
  | succ k ih =>
    intro first e s got ha h
    rw [rangesS] at h ⊢
    split at h
    · next hs => exact absurd h hs
    · next hs =>
      rw [if_neg hs]
      split at h
      · next hp => exact absurd h hp
      · next hp =>
        rw [if_neg hp]
        split at h
        · cases h
        · next hc =>
          rw [if_neg hc]
          have a1 := numS_le (m := maxN) ha
          obtain ⟨g1, g2, g3, g4, g5, g6⟩ := numS_ok (m := maxN) a1 (by omega)
          obtain ⟨f1, f2, f3, f4, f5, f6⟩ := numS_ok (m := maxN) ha g1
          obtain ⟨_, news, n1, n2, n3, n4, n5⟩ := ih _ _ _ _ g5 h
          refine ⟨f1, _ :: news, by rw [n1, List.append_assoc]; rfl, by rw [List.length_cons, n2], ?_, n4, ?_⟩
          · simp only [rises, Bool.and_eq_true, decide_eq_true_eq]
            simp only [Bool.false_eq_true, if_false] at n3
            refine ⟨⟨⟨?_, by omega⟩, by omega⟩, n3⟩
            cases first with
            | true => simp only [if_true]; omega
            | false => simp only [Bool.false_eq_true, if_false]; simp at hc; omega
          · rw [n5, g6, f6]
            have e1 : (((e + (numS l maxN s).1 : Nat) : Int) - (e : Int)).toNat = (numS l maxN s).1 := by omega
            have e2 : (((e + (numS l maxN s).1 + (numS l maxN (numS l maxN s).2).1 : Nat) : Int) - ((e + (numS l maxN s).1 : Nat) : Int)).toNat = (numS l maxN (numS l maxN s).2).1 := by omega
            simp only [rngB, e1, e2, List.append_assoc]
theorem rangesS_enc {l : List UInt8} (news : List (Int × Int)) : ∀ (first : Bool) (e : Nat) (p t : List UInt8) (got : List (Int × Int)), l = p ++ (rngB e news ++ t) → rises (if first then (e : Int) - 1 else e) news = true → e ≤ 64 →
    rangesS l news.length first e ⟨p.length, 0⟩ got = (got ++ news, ⟨(p ++ rngB e news).length, 0⟩) := by
  induction news with
  | nil => intro first e p t got h hr he; simp [rangesS, rngB]
  | cons g news ih =>
    intro first e p t got h hr he
    obtain ⟨g1, g2⟩ := g
    simp only [rises, Bool.and_eq_true, decide_eq_true_eq] at hr
    obtain ⟨⟨⟨r1, r2⟩, r3⟩, r4⟩ := hr
    have r1' : (e : Int) ≤ g1 := by cases first <;> simp at r1 <;> omega
    obtain ⟨a, ha⟩ : ∃ a : Nat, (g1 - (e : Int)) = (a : Int) := ⟨(g1 - e).toNat, by omega⟩
    obtain ⟨b, hb⟩ : ∃ b : Nat, (g2 - g1) = (b : Int) := ⟨(g2 - g1).toNat, by omega⟩
    have hg1 : g1 = ((e + a : Nat) : Int) := by omega
    have hg2 : g2 = ((e + a + b : Nat) : Int) := by omega
    subst hg1
    subst hg2
    have e1 : (((e + a : Nat) : Int) - (e : Int)).toNat = a := by omega
    have e2 : (((e + a + b : Nat) : Int) - ((e + a : Nat) : Int)).toNat = b := by omega
    simp only [rngB, e1, e2] at h ⊢
    have h1 : l = p ++ (dig a ++ (dig b ++ (rngB ((e + a + b : Nat) : Int) news ++ t))) := by rw [h]; simp only [List.append_assoc]
    have h2 : l = (p ++ dig a) ++ (dig b ++ (rngB ((e + a + b : Nat) : Int) news ++ t)) := by rw [h]; simp only [List.append_assoc]
    have h3 : l = ((p ++ dig a) ++ dig b) ++ (rngB ((e + a + b : Nat) : Int) news ++ t) := by rw [h]; simp only [List.append_assoc]
    have s1 := numS_dig (m := maxN) h1 (by omega) (by simp only [maxN]; omega)
    have s2 := numS_dig (m := maxN) h2 (by omega) (by simp only [maxN]; omega)
    rw [List.length_cons, rangesS]
    simp only [s1, s2]
    rw [if_neg (by simp), if_neg (by simp), if_neg]
    · have := ih false (e + a + b) ((p ++ dig a) ++ dig b) t (got ++ [(((e + a : Nat) : Int), ((e + a + b : Nat) : Int))]) h3 (by simpa using r4) (by omega)
      rw [this, List.append_assoc]
      simp only [List.append_assoc]
      rfl
    · rintro (⟨h0, hf⟩ | h0 | h0)
      · subst hf; simp at r1; omega
      · omega
      · omega
theorem dataS_ok {l : List UInt8} {u : UD} {s : RS} (ha : s.at_ ≤ l.length) (h : (dataS l u s).2.f = 0) :
    s.f = 0 ∧ ∃ (a b c : Nat) (x : List UInt8), (dataS l u s).1 = ⟨u.kind, u.ep, u.ses, a, b, c, x, u.code, u.got⟩ ∧ 1 ≤ a ∧ a ≤ 2 ∧ b ≤ 63 ∧ b + 1 ≤ c ∧ c ≤ 64 ∧ 1 ≤ x.length ∧ x.length ≤ 1024 ∧ (dataS l u s).2.at_ ≤ l.length ∧ l.take (dataS l u s).2.at_ = l.take s.at_ ++ (digs [a, b, c] ++ (dig x.length ++ x)) := by
  unfold dataS dataS2 dataS3 dataS4 dataS5 at h ⊢
  have a1 := numbS_le (a := 1) (b := 2) ha
  generalize numbS l 1 2 s = p1, numbS_ok (l := l) (a := 1) (b := 2) (s := s) ha = q1 at *
  obtain ⟨n1, s1⟩ := p1
  have a2 := numbS_le (a := 0) (b := 63) a1
  generalize numbS l 0 63 s1 = p2, numbS_ok (l := l) (a := 0) (b := 63) (s := s1) a1 = q2 at *
  obtain ⟨n2, s2⟩ := p2
  have a3 := numbS_le (a := n2 + 1) (b := 64) a2
  generalize numbS l (n2 + 1) 64 s2 = p3, numbS_ok (l := l) (a := n2 + 1) (b := 64) (s := s2) a2 = q3 at *
  obtain ⟨n3, s3⟩ := p3
  have a4 := bytesS_le (m := 1024) a3
  generalize bytesS l 1024 s3 = p4, bytesS_ok (l := l) (m := 1024) (s := s3) a3 = q4 at *
  obtain ⟨x, s4⟩ := p4
  simp only at *
  split at h
  · next hx => unfold failS at h; split at h; (cases h); (next hh => exact absurd h hh)
  · next hx =>
    rw [if_neg hx]
    obtain ⟨c1, c2, c3, c4⟩ := q4 h
    obtain ⟨d1, d2, d3, d4, d5, d6⟩ := q3 c1
    obtain ⟨e1, e2, e3, e4, e5, e6⟩ := q2 d1
    obtain ⟨f1, f2, f3, f4, f5, f6⟩ := q1 e1
    refine ⟨f1, n1, n2, n3, x, rfl, f2, f3, e3, d2, d3, by omega, c2, c3, ?_⟩
    rw [c4, d6, e6, f6]
    simp [digs]
theorem reportS_ok {l : List UInt8} {u : UD} {s : RS} (ha : s.at_ ≤ l.length) (hg : u.got = []) (h : (reportS l u s).2.f = 0) :
    s.f = 0 ∧ ∃ (c : Nat) (got : List (Int × Int)), (reportS l u s).1 = withCode u c got ∧ c ≤ 7 ∧ (c ≠ 0 → got = []) ∧ rises (-1) got = true ∧ (reportS l u s).2.at_ ≤ l.length ∧ l.take (reportS l u s).2.at_ = l.take s.at_ ++ (dig c ++ (if c = 0 then dig got.length ++ rngB 0 got else [])) := by
  unfold reportS reportS2 reportS3 at h ⊢
  have a1 := numbS_le (a := 0) (b := 7) ha
  generalize numbS l 0 7 s = p1, numbS_ok (l := l) (a := 0) (b := 7) (s := s) ha = q1 at *
  obtain ⟨c, s1⟩ := p1
  simp only at *
  by_cases hc : s1.f ≠ 0 ∨ c ≠ 0
  · rw [if_pos hc] at h ⊢
    simp only at h
    obtain ⟨f1, f2, f3, f4, f5, f6⟩ := q1 h
    have hc0 : c ≠ 0 := by omega
    refine ⟨f1, c, [], by simp only [hg], f3, fun _ => rfl, rfl, a1, ?_⟩
    rw [if_neg hc0, List.append_nil]
    exact f6
  · rw [if_neg hc] at h ⊢
    have a2 := numbS_le (a := 0) (b := 32) a1
    generalize numbS l 0 32 s1 = p2, numbS_ok (l := l) (a := 0) (b := 32) (s := s1) a1 = q2 at *
    obtain ⟨n, s2⟩ := p2
    simp only at *
    obtain ⟨r1, news, r2, r3, r4, r5, r6⟩ := rangesS_ok n true 0 s2 u.got a2 h
    obtain ⟨e1, e2, e3, e4, e5, e6⟩ := q2 r1
    obtain ⟨f1, f2, f3, f4, f5, f6⟩ := q1 e1
    have hc0 : c = 0 := by omega
    subst hc0
    refine ⟨f1, 0, news, by rw [r2, hg, List.nil_append], by omega, fun h => absurd rfl h, by simpa using r4, r5, ?_⟩
    rw [r6, e6, f6, if_pos rfl, r3]
    simp only [List.append_assoc]
    rfl
theorem ofNat_toNat {n : Nat} (h : n < 2 ^ 64) : (UInt64.ofNat n).toNat = n := UInt64.toNat_ofNat_of_lt' (by simpa using h)
/-- what is read to the end was written so. -/
theorem parse_back {l : List UInt8} (h : (parseU l).2.f = 0) (he : (parseU l).2.at_ = l.length) : validU (parseU l).1 ∧ encB (parseU l).1 = l := by
  have key : ∀ k : Nat, l.take k = l.take k := fun _ => rfl
  unfold parseU parse2 parse3 parse4 at h he ⊢
  have a1 := numbS_le (l := l) (a := 1) (b := 3) (s := ⟨0, 0⟩) (Nat.zero_le _)
  generalize numbS l 1 3 ⟨0, 0⟩ = p1, numbS_ok (l := l) (a := 1) (b := 3) (s := ⟨0, 0⟩) (Nat.zero_le _) = q1 at *
  obtain ⟨k, s1⟩ := p1
  simp only at *
  have a2 := numbS_le (a := 1) (b := maxN) a1
  generalize numbS l 1 maxN s1 = p2, numbS_ok (l := l) (a := 1) (b := maxN) (s := s1) a1 = q2 at *
  obtain ⟨e, s2⟩ := p2
  simp only at *
  have a3 := numbS_le (a := 1) (b := maxN) a2
  generalize numbS l 1 maxN s2 = p3, numbS_ok (l := l) (a := 1) (b := maxN) (s := s2) a2 = q3 at *
  obtain ⟨n, s3⟩ := p3
  simp only at *
  by_cases hs : s3.f ≠ 0
  · rw [if_pos hs] at h; exact absurd h hs
  · rw [if_neg hs] at h he ⊢
    obtain ⟨d1, d2, d3, d4, d5, d6⟩ := q3 (by omega)
    obtain ⟨e1, e2, e3, e4, e5, e6⟩ := q2 d1
    obtain ⟨f1, f2, f3, f4, f5, f6⟩ := q1 e1
    have hmx : maxN = 281474976710655 := rfl
    have hpre : l.take s3.at_ = digs [k, e, n] := by
      rw [d6, e6, f6]
      simp [digs]
    have he1 : (headU k e n).ep.toNat = e := ofNat_toNat (by omega)
    have hn1 : (headU k e n).ses.toNat = n := ofNat_toNat (by omega)
    have nm1 : named (headU k e n).ep := ⟨by rw [he1]; omega, by rw [he1]; omega⟩
    have nm2 : named (headU k e n).ses := ⟨by rw [hn1]; omega, by rw [hn1]; omega⟩
    unfold bodyS at h he ⊢
    by_cases k1 : (headU k e n).kind = 1
    · rw [if_pos k1] at h he ⊢
      obtain ⟨-, a, b, c, x, h1, h2, h3, h4, h5, h6, h7, h8, h9, h10⟩ := dataS_ok a3 h
      rw [he, List.take_length, hpre] at h10
      rw [h1]
      refine ⟨⟨nm1, nm2, .inl ⟨k1, ?_⟩⟩, ?_⟩
      · refine ⟨?_, ?_, ?_, ?_, ?_, h7, h8, rfl, rfl⟩ <;> simp only <;> omega
      · rw [h10, encB, bodyU, if_pos k1]
        show digs [(headU k e n).kind.toNat, (headU k e n).ep.toNat, (headU k e n).ses.toNat] ++ (digs [(a : Int).toNat, (b : Int).toNat, (c : Int).toNat] ++ (dig x.length ++ x)) = _
        rw [he1, hn1]
        rfl
    · rw [if_neg k1] at h he ⊢
      by_cases k2 : (headU k e n).kind = 2
      · rw [if_pos k2] at h he ⊢
        obtain ⟨-, c, got, h1, h2, h3, h4, h5, h6⟩ := reportS_ok a3 rfl h
        rw [he, List.take_length, hpre] at h6
        rw [h1]
        refine ⟨⟨nm1, nm2, .inr (.inl ⟨k2, ⟨rfl, rfl, rfl, rfl⟩, ?_, ?_, ?_, h4⟩)⟩, ?_⟩
        · show (0 : Int) ≤ (c : Int); omega
        · show (c : Int) ≤ 7; omega
        · intro hc
          have : got = [] := h3 (fun h => hc (by show (c : Int) = 0; omega))
          show got.length = 0
          rw [this]
          rfl
        · have k1' : ¬ (withCode (headU k e n) c got).kind = 1 := k1
          have k2' : (withCode (headU k e n) c got).kind = 2 := k2
          rw [h6, encB, bodyU, if_neg k1', if_pos k2']
          show digs [(headU k e n).kind.toNat, (headU k e n).ep.toNat, (headU k e n).ses.toNat] ++ (dig (c : Int).toNat ++ (if (c : Int) = 0 then dig got.length ++ rngB 0 got else [])) = _
          rw [he1, hn1]
          by_cases hc : c = 0
          · subst hc; rfl
          · rw [if_neg hc, if_neg (by omega)]; rfl
      · rw [if_neg k2] at h he ⊢
        have k3 : (headU k e n).kind = 3 := by
          have q1 : ¬ (k : Int) = 1 := k1
          have q2 : ¬ (k : Int) = 2 := k2
          show (k : Int) = 3
          omega
        simp only at he
        rw [he, List.take_length] at hpre
        refine ⟨⟨nm1, nm2, .inr (.inr ⟨k3, ⟨rfl, rfl, rfl, rfl⟩, rfl, rfl⟩)⟩, ?_⟩
        rw [hpre, encB, bodyU, if_neg k1, if_neg k2, he1, hn1, List.append_nil]
        rfl
/-- what is written is read. -/
theorem parse_enc {u : UD} (hv : validU u) : parseU (encB u) = (u, ⟨(encB u).length, 0⟩) := by
  obtain ⟨hn1, hn2, hc⟩ := hv
  obtain ⟨kind, ep, ses, path, idx, cnt, data, code, got⟩ := u
  simp only at hn1 hn2 hc
  have hk : 1 ≤ kind ∧ kind ≤ 3 := by omega
  obtain ⟨k, rfl⟩ : ∃ k : Nat, kind = (k : Int) := ⟨kind.toNat, by omega⟩
  obtain ⟨L, hL⟩ : ∃ L, L = encB ⟨(k : Int), ep, ses, path, idx, cnt, data, code, got⟩ := ⟨_, rfl⟩
  obtain ⟨B, hB⟩ : ∃ B, B = bodyU ⟨(k : Int), ep, ses, path, idx, cnt, data, code, got⟩ := ⟨_, rfl⟩
  rw [← hL]
  rw [encB, ← hB] at hL
  simp only [Int.toNat_natCast] at hL
  have hd : digs [k, ep.toNat, ses.toNat] = dig k ++ (dig ep.toNat ++ dig ses.toNat) := by simp [digs]
  rw [hd] at hL
  have l1 : L = ([] : List UInt8) ++ (dig k ++ (dig ep.toNat ++ (dig ses.toNat ++ B))) := by rw [hL]; simp only [List.append_assoc, List.nil_append]
  have l2 : L = (([] : List UInt8) ++ dig k) ++ (dig ep.toNat ++ (dig ses.toNat ++ B)) := by rw [hL]; simp only [List.append_assoc, List.nil_append]
  have l3 : L = ((([] : List UInt8) ++ dig k) ++ dig ep.toNat) ++ (dig ses.toNat ++ B) := by rw [hL]; simp only [List.append_assoc, List.nil_append]
  have l4 : L = (((([] : List UInt8) ++ dig k) ++ dig ep.toNat) ++ dig ses.toNat) ++ B := by rw [hL]; simp only [List.append_assoc, List.nil_append]
  obtain ⟨m1, m2⟩ := hn1
  obtain ⟨m3, m4⟩ := hn2
  have s1 := numbS_dig (a := 1) (b := 3) l1 (by omega) (by omega) (by omega)
  have s2 := numbS_dig (a := 1) (b := maxN) l2 (by omega) (by omega) (by show _ ≤ 281474976710655; omega)
  have s3 := numbS_dig (a := 1) (b := maxN) l3 (by omega) (by omega) (by show _ ≤ 281474976710655; omega)
  have s0 : (⟨0, 0⟩ : RS) = ⟨([] : List UInt8).length, 0⟩ := rfl
  unfold parseU parse2 parse3 parse4
  rw [s0, s1]
  simp only
  rw [s2]
  simp only
  rw [s3]
  simp only
  rw [if_neg (by simp)]
  have hh : headU k ep.toNat ses.toNat = ⟨(k : Int), ep, ses, 0, 0, 0, [], 0, []⟩ := by
    unfold headU
    rw [UInt64.ofNat_toNat, UInt64.ofNat_toNat]
  rw [hh]
  generalize ((([] : List UInt8) ++ dig k) ++ dig ep.toNat) ++ dig ses.toNat = p at *
  unfold bodyS
  simp only
  rcases hc with ⟨h1, hg⟩ | ⟨h1, hg⟩ | ⟨h1, hg⟩
  · obtain rfl : k = 1 := by omega
    rw [if_pos (by rfl)]
    obtain ⟨g1, g2, g3, g4, g5, g6, g7, g8, g9⟩ := hg
    simp only at g1 g2 g3 g4 g5 g6 g7 g8 g9
    obtain ⟨a, rfl⟩ : ∃ a : Nat, path = (a : Int) := ⟨path.toNat, by omega⟩
    obtain ⟨b, rfl⟩ : ∃ b : Nat, idx = (b : Int) := ⟨idx.toNat, by omega⟩
    obtain ⟨c, rfl⟩ : ∃ c : Nat, cnt = (c : Int) := ⟨cnt.toNat, by omega⟩
    obtain rfl : got = [] := List.eq_nil_of_length_eq_zero g9
    subst g8
    rw [bodyU, if_pos (by rfl)] at hB
    simp only [Int.toNat_natCast] at hB
    have hd2 : digs [a, b, c] = dig a ++ (dig b ++ dig c) := by simp [digs]
    rw [hd2] at hB
    rw [hB] at l4
    have t1 : L = p ++ (dig a ++ (dig b ++ (dig c ++ (dig data.length ++ data)))) := by rw [l4]; simp only [List.append_assoc]
    have t2 : L = (p ++ dig a) ++ (dig b ++ (dig c ++ (dig data.length ++ data))) := by rw [l4]; simp only [List.append_assoc]
    have t3 : L = ((p ++ dig a) ++ dig b) ++ (dig c ++ (dig data.length ++ data)) := by rw [l4]; simp only [List.append_assoc]
    have t4 : L = (((p ++ dig a) ++ dig b) ++ dig c) ++ (dig data.length ++ (data ++ [])) := by rw [l4]; simp only [List.append_assoc, List.append_nil]
    have v1 := numbS_dig (a := 1) (b := 2) t1 (by omega) (by omega) (by omega)
    have v2 := numbS_dig (a := 0) (b := 63) t2 (by omega) (by omega) (by omega)
    have v3 := numbS_dig (a := b + 1) (b := 64) t3 (by omega) (by omega) (by omega)
    have v4 := bytesS_dig (m := 1024) t4 (by omega) (by omega)
    unfold dataS dataS2 dataS3 dataS4 dataS5
    rw [v1]
    simp only
    rw [v2]
    simp only
    rw [v3]
    simp only
    rw [v4]
    simp only
    rw [if_neg (by omega)]
    congr 2
    rw [t4]
    simp only [List.append_assoc, List.append_nil]
  · obtain rfl : k = 2 := by omega
    rw [if_neg (by decide), if_pos (by rfl)]
    obtain ⟨⟨b1, b2, b3, b4⟩, g1, g2, g3, g4⟩ := hg
    simp only at b1 b2 b3 b4 g1 g2 g3 g4
    obtain ⟨c, rfl⟩ : ∃ c : Nat, code = (c : Int) := ⟨code.toNat, by omega⟩
    subst b1
    subst b2
    subst b3
    obtain rfl : data = [] := List.eq_nil_of_length_eq_zero b4
    rw [bodyU, if_neg (by show ¬ ((2 : Nat) : Int) = 1; decide), if_pos (by rfl), layR] at hB
    simp only [Int.toNat_natCast] at hB
    unfold reportS reportS2 reportS3
    by_cases hc : c = 0
    · subst hc
      rw [if_pos (by rfl)] at hB
      rw [hB] at l4
      have t1 : L = p ++ (dig 0 ++ (dig got.length ++ rngB 0 got)) := l4
      have t2 : L = (p ++ dig 0) ++ (dig got.length ++ rngB 0 got) := by rw [l4]; simp only [List.append_assoc]
      have t3 : L = ((p ++ dig 0) ++ dig got.length) ++ (rngB ((0 : Nat) : Int) got ++ []) := by rw [l4]; simp only [List.append_assoc, List.append_nil]; rfl
      have hlen : got.length ≤ 32 := by
        have aux : ∀ (l : List (Int × Int)) (e : Int), rises e l = true → e ≤ 64 → e + 2 * l.length ≤ 64 := by
          intro l
          induction l with
          | nil => intro e _ he; simpa using he
          | cons g l ih =>
            intro e hr he
            simp only [rises, Bool.and_eq_true, decide_eq_true_eq] at hr
            have := ih g.2 hr.2 hr.1.2
            rw [List.length_cons]
            have h1 := hr.1.1.1
            have h2 := hr.1.1.2
            omega
        have := aux got (-1) g4 (by decide)
        omega
      have v1 := numbS_dig (a := 0) (b := 7) t1 (by omega) (by omega) (by omega)
      have v2 := numbS_dig (a := 0) (b := 32) t2 (by omega) (by omega) (by omega)
      have v3 := rangesS_enc got true 0 _ [] [] t3 (by simpa using g4) (by omega)
      rw [v1]
      simp only
      rw [if_neg (by simp), v2]
      simp only
      rw [v3]
      simp only [withCode, List.nil_append]
      congr 2
      rw [t3]
      simp only [List.append_assoc, List.append_nil]
    · rw [if_neg (by omega), List.append_nil] at hB
      rw [hB] at l4
      have t1 : L = p ++ (dig c ++ []) := by rw [l4, List.append_nil]
      have v1 := numbS_dig (a := 0) (b := 7) t1 (by omega) (by omega) (by omega)
      rw [v1]
      simp only
      rw [if_pos (.inr hc)]
      obtain rfl : got = [] := List.eq_nil_of_length_eq_zero (g3 (by omega))
      simp only [withCode]
      congr 2
      rw [l4]
  · obtain rfl : k = 3 := by omega
    rw [if_neg (by decide), if_neg (by decide)]
    obtain ⟨⟨b1, b2, b3, b4⟩, g1, g2⟩ := hg
    simp only at b1 b2 b3 b4 g1 g2
    subst b1
    subst b2
    subst b3
    subst g1
    obtain rfl : data = [] := List.eq_nil_of_length_eq_zero b4
    obtain rfl : got = [] := List.eq_nil_of_length_eq_zero g2
    rw [bodyU, if_neg (by show ¬ ((3 : Nat) : Int) = 1; decide), if_neg (by show ¬ ((3 : Nat) : Int) = 2; decide)] at hB
    rw [hB, List.append_nil] at l4
    rw [l4]
theorem rangesS_le {l : List UInt8} (k : Nat) : ∀ (first : Bool) (e : Nat) (s : RS) (got : List (Int × Int)), s.at_ ≤ l.length → (rangesS l k first e s got).2.at_ ≤ l.length := by
  induction k with
  | zero => intro first e s got ha; exact ha
  | succ k ih =>
    intro first e s got ha
    have a1 := numS_le (m := maxN) ha
    have a2 := numS_le (m := maxN) a1
    rw [rangesS]
    split
    · exact ha
    · split
      · exact a2
      · split
        · exact a2
        · exact ih _ _ _ _ a2
theorem body_le {l : List UInt8} {u : UD} {s : RS} (ha : s.at_ ≤ l.length) : (bodyS l u s).2.at_ ≤ l.length := by
  unfold bodyS
  split
  · unfold dataS dataS2 dataS3 dataS4 dataS5
    have a1 := numbS_le (a := 1) (b := 2) ha
    have a2 := numbS_le (a := 0) (b := 63) a1
    have a3 := numbS_le (a := (numbS l 0 63 (numbS l 1 2 s).2).1 + 1) (b := 64) a2
    have a4 := bytesS_le (m := 1024) a3
    simp only
    split
    · rw [failS_at]; exact a4
    · exact a4
  · split
    · unfold reportS reportS2 reportS3
      have a1 := numbS_le (a := 0) (b := 7) ha
      have a2 := numbS_le (a := 0) (b := 32) a1
      split
      · exact a1
      · exact rangesS_le _ _ _ _ _ a2
    · exact ha
theorem parse_le (l : List UInt8) : (parseU l).2.at_ ≤ l.length := by
  unfold parseU parse2 parse3 parse4
  have a1 := numbS_le (l := l) (a := 1) (b := 3) (s := ⟨0, 0⟩) (Nat.zero_le _)
  generalize numbS l 1 3 ⟨0, 0⟩ = p1 at *
  have a2 := numbS_le (a := 1) (b := maxN) a1
  generalize numbS l 1 maxN p1.2 = p2 at *
  have a3 := numbS_le (a := 1) (b := maxN) a2
  generalize numbS l 1 maxN p2.2 = p3 at *
  split
  · exact a3
  · exact body_le a3
theorem decB_enc {u : UD} (hv : validU u) : decB (encB u) = (u, 0) := by
  have h : endS (encB u) ⟨(encB u).length, 0⟩ = 0 := by unfold endS; simp
  unfold decB
  rw [parse_enc hv]
  simp only [h]
  rw [if_neg (by simp)]
theorem decB_back {l : List UInt8} (h : (decB l).2 = 0) : validU (decB l).1 ∧ encB (decB l).1 = l := by
  have hle := parse_le l
  have hb := parse_back (l := l)
  unfold decB at h ⊢
  generalize parseU l = p at *
  by_cases hh : endS l p.2 ≠ 0
  · rw [if_pos hh] at h; exact absurd h hh
  · rw [if_neg hh]
    have h0 : endS l p.2 = 0 := by omega
    unfold endS at h0
    split at h0
    · omega
    · exact hb (by omega) (by omega)
end Go.Proofs.YtghjffgaebnhiaaDoor
