/- The sum of layer 1 as the mind has it: the register, by bits, by bytes, by the table; a burst in a sealed text is refused. Nothing of the program in it. -/
import Derived.Test.YtghjffgaebnhiaaDoorBase
namespace Go.Proofs.YtghjffgaebnhiaaDoor
set_option linter.unusedVariables false
set_option linter.unusedSimpArgs false
abbrev W32 := BitVec 32
def poly : W32 := 0xedb88320#32
/-- the register, one place on. -/
def sh (c : W32) : W32 := if c.getLsbD 0 then (c >>> 1) ^^^ poly else c >>> 1
def shN : Nat → W32 → W32
  | 0, c => c
  | k + 1, c => sh (shN k c)
theorem sh_xor (a b : W32) : sh (a ^^^ b) = sh a ^^^ sh b := by
  unfold sh
  have h : (a ^^^ b).getLsbD 0 = (a.getLsbD 0 ^^ b.getLsbD 0) := BitVec.getLsbD_xor
  have h2 : (a ^^^ b) >>> 1 = (a >>> 1) ^^^ (b >>> 1) := BitVec.ushiftRight_xor_distrib _ _ _
  rw [h, h2]
  cases a.getLsbD 0 <;> cases b.getLsbD 0 <;> simp
  · rw [BitVec.xor_assoc]
  · rw [BitVec.xor_assoc, BitVec.xor_assoc, BitVec.xor_comm poly]
  · rw [BitVec.xor_assoc (a >>> 1), ← BitVec.xor_assoc poly, BitVec.xor_comm poly, BitVec.xor_assoc (b >>> 1), BitVec.xor_self, BitVec.xor_zero]
theorem shN_xor (k : Nat) (a b : W32) : shN k (a ^^^ b) = shN k a ^^^ shN k b := by
  induction k with
  | zero => rfl
  | succ k ih => rw [shN, ih, sh_xor]; rfl
theorem sh_zero : sh 0 = 0 := by decide
theorem shN_zero (k : Nat) : shN k 0 = 0 := by
  induction k with
  | zero => rfl
  | succ k ih => rw [shN, ih, sh_zero]
theorem sh_inj0 {c : W32} (h : sh c = 0) : c = 0 := by
  unfold sh at h
  by_cases hc : c.getLsbD 0 = true
  · rw [if_pos hc] at h
    have h1 : ((c >>> 1) ^^^ poly).getLsbD 31 = false := by rw [h]; rfl
    rw [BitVec.getLsbD_xor, BitVec.getLsbD_ushiftRight] at h1
    have h2 : c.getLsbD (1 + 31) = false := BitVec.getLsbD_of_ge c _ (by omega)
    rw [h2] at h1
    exact absurd h1 (by decide)
  · rw [if_neg hc] at h
    have h0 : c.toNat / 2 = 0 := by
      have := congrArg BitVec.toNat h
      simpa [BitVec.toNat_ushiftRight, Nat.shiftRight_eq_div_pow] using this
    have h1 : c.toNat % 2 = 0 := by
      have : c.getLsbD 0 = c.toNat.testBit 0 := rfl
      rw [this] at hc
      simp [Nat.testBit_zero] at hc
      omega
    apply BitVec.eq_of_toNat_eq
    simp
    omega
theorem shN_inj0 {k : Nat} {c : W32} (h : shN k c = 0) : c = 0 := by
  induction k with
  | zero => exact h
  | succ k ih => exact ih (sh_inj0 h)
theorem shN_add (j k : Nat) (c : W32) : shN (j + k) c = shN j (shN k c) := by
  induction j with
  | zero => rw [Nat.zero_add]; rfl
  | succ j ih => rw [Nat.succ_add, shN, ih]; rfl
theorem sh_even {c : W32} (h : c.toNat % 2 = 0) : (sh c).toNat = c.toNat / 2 := by
  have h0 : ¬ c.getLsbD 0 = true := by
    have : c.getLsbD 0 = c.toNat.testBit 0 := rfl
    rw [this]
    simp [Nat.testBit_zero]
    omega
  unfold sh
  rw [if_neg h0, BitVec.toNat_ushiftRight, Nat.shiftRight_eq_div_pow]
/-- zeros fall out. -/
theorem shN_even {k : Nat} : ∀ {c : W32}, c.toNat % 2 ^ k = 0 → (shN k c).toNat = c.toNat / 2 ^ k := by
  induction k with
  | zero => intro c _; simp [shN]
  | succ k ih =>
    intro c h
    obtain ⟨q, hq⟩ := Nat.dvd_of_mod_eq_zero h
    have h1 : (shN k c).toNat = 2 * q := by
      rw [ih (by rw [hq, Nat.pow_succ, Nat.mul_assoc, Nat.mul_mod_right]), hq, Nat.pow_succ, Nat.mul_assoc, Nat.mul_div_cancel_left _ (Nat.two_pow_pos k)]
    rw [shN, sh_even (by rw [h1]; omega), h1, hq, Nat.mul_div_cancel_left _ (Nat.two_pow_pos _)]
    omega
def tab : List Nat := [0x00000000, 0x1db71064, 0x3b6e20c8, 0x26d930ac, 0x76dc4190, 0x6b6b51f4, 0x4db26158, 0x5005713c, 0xedb88320, 0xf00f9344, 0xd6d6a3e8, 0xcb61b38c, 0x9b64c2b0, 0x86d3d2d4, 0xa00ae278, 0xbdbdf21c]
theorem tab_ok : ∀ i : Fin 16, shN 4 (BitVec.ofNat 32 i.val) = BitVec.ofNat 32 (tab.getD i.val 0) := by decide
theorem split4 (c : W32) : c = (BitVec.ofNat 32 (c.toNat / 16 * 16)) ^^^ (BitVec.ofNat 32 (c.toNat % 16)) := by
  apply BitVec.eq_of_getLsbD_eq
  intro i hi
  rw [BitVec.getLsbD_xor, BitVec.getLsbD_ofNat, BitVec.getLsbD_ofNat]
  have e1 : c.toNat / 16 * 16 = (c.toNat >>> 4) <<< 4 := by rw [Nat.shiftRight_eq_div_pow, Nat.shiftLeft_eq]
  have e2 : c.toNat % 16 = c.toNat % 2 ^ 4 := rfl
  rw [e1, e2, Nat.testBit_shiftLeft, Nat.testBit_shiftRight, Nat.testBit_mod_two_pow]
  show c.toNat.testBit i = _
  by_cases h : 4 ≤ i
  · have : ¬ i < 4 := by omega
    simp [h, hi, this, show 4 + (i - 4) = i by omega]
  · have : i < 4 := by omega
    simp [h, hi, this]
theorem nib (c : W32) : shN 4 c = BitVec.ofNat 32 (tab.getD (c.toNat % 16) 0) ^^^ (c >>> 4) := by
  have hs := congrArg (shN 4) (split4 c)
  rw [shN_xor] at hs
  rw [hs, tab_ok ⟨c.toNat % 16, Nat.mod_lt _ (by decide)⟩, BitVec.xor_comm]
  congr 1
  apply BitVec.eq_of_toNat_eq
  have hl := c.isLt
  have ht : (BitVec.ofNat 32 (c.toNat / 16 * 16)).toNat = c.toNat / 16 * 16 := by
    rw [BitVec.toNat_ofNat, Nat.mod_eq_of_lt (by omega)]
  rw [shN_even (by rw [ht]; omega), ht, BitVec.toNat_ushiftRight, Nat.shiftRight_eq_div_pow]
  omega
/-- one byte. -/
def crcB (c : W32) (x : UInt8) : W32 := shN 8 (c ^^^ BitVec.ofNat 32 x.toNat)
def crcL (c : W32) (l : List UInt8) : W32 := l.foldl crcB c
/-- bit by bit: what k bits of x came to. -/
theorem sh_bit (c : W32) (x k : Nat) (hx : x < 256) (hk : k < 8) : sh (shN k (c ^^^ BitVec.ofNat 32 (x % 2 ^ k)) ^^^ BitVec.ofNat 32 (x / 2 ^ k % 2)) = shN (k + 1) (c ^^^ BitVec.ofNat 32 (x % 2 ^ (k + 1))) := by
  have e1 : BitVec.ofNat 32 (x / 2 ^ k % 2) = shN k (BitVec.ofNat 32 (x / 2 ^ k % 2 * 2 ^ k)) := by
    apply BitVec.eq_of_toNat_eq
    have hp : (2:Nat) ^ k ≤ 128 := by
      have : (2:Nat)^k ≤ 2^7 := Nat.pow_le_pow_right (by decide) (by omega)
      simpa using this
    have hp0 : 0 < (2:Nat)^k := Nat.two_pow_pos k
    have hb : x / 2 ^ k % 2 < 2 := Nat.mod_lt _ (by decide)
    have hm : x / 2 ^ k % 2 * 2 ^ k ≤ 1 * 128 := Nat.mul_le_mul (by omega) hp
    have ht : (BitVec.ofNat 32 (x / 2 ^ k % 2 * 2 ^ k)).toNat = x / 2 ^ k % 2 * 2 ^ k := by
      rw [BitVec.toNat_ofNat, Nat.mod_eq_of_lt (by omega)]
    rw [shN_even (by rw [ht, Nat.mul_mod_left]), ht, Nat.mul_div_cancel _ hp0, BitVec.toNat_ofNat, Nat.mod_eq_of_lt (by omega)]
  rw [e1, ← shN_xor, BitVec.xor_assoc]
  show shN (k + 1) _ = _
  congr 2
  apply BitVec.eq_of_getLsbD_eq
  intro i hi
  rw [BitVec.getLsbD_xor, BitVec.getLsbD_ofNat, BitVec.getLsbD_ofNat, BitVec.getLsbD_ofNat]
  have e2 : x / 2 ^ k % 2 * 2 ^ k = ((x >>> k) % 2 ^ 1) <<< k := by rw [Nat.shiftRight_eq_div_pow, Nat.shiftLeft_eq]
  rw [e2, Nat.testBit_shiftLeft, Nat.testBit_mod_two_pow, Nat.testBit_mod_two_pow, Nat.testBit_shiftRight, Nat.testBit_mod_two_pow]
  simp only [hi, decide_true, Bool.true_and]
  by_cases h1 : i < k
  · have : ¬ k ≤ i := by omega
    have h2 : i < k + 1 := by omega
    simp [h1, this, h2]
  · by_cases h2 : i = k
    · subst h2
      simp
    · have h3 : ¬ i < k + 1 := by omega
      have h4 : ¬ i - k < 1 := by omega
      simp [h1, h3, h4]
theorem crcB_bits (c : W32) (x : UInt8) : crcB c x = shN 8 (c ^^^ BitVec.ofNat 32 (x.toNat % 2 ^ 8)) := by
  rw [crcB, Nat.mod_eq_of_lt (by exact x.toNat_lt)]
theorem crcB_tab (c : W32) (x : UInt8) : crcB c x = shN 4 (shN 4 (c ^^^ BitVec.ofNat 32 x.toNat)) := by
  rw [crcB, ← shN_add]
theorem crcB_inj0 {c : W32} {x : UInt8} (h : crcB c x = 0) : c = BitVec.ofNat 32 x.toNat := by
  have := shN_inj0 h
  have h2 := congrArg (· ^^^ BitVec.ofNat 32 x.toNat) this
  simpa [BitVec.xor_assoc] using h2
def crcOf (l : List UInt8) : W32 := ~~~ crcL (BitVec.ofNat 32 0xffffffff) l
/-- the four bytes of a sum, the lowest first. -/
def sumB (c : W32) : List UInt8 := [UInt8.ofNat (c.toNat % 256), UInt8.ofNat (c.toNat / 256 % 256), UInt8.ofNat (c.toNat / 65536 % 256), UInt8.ofNat (c.toNat / 16777216 % 256)]
theorem crcB_xor (a b : W32) (x y : UInt8) : crcB (a ^^^ b) (x ^^^ y) = crcB a x ^^^ crcB b y := by
  rw [crcB, crcB, crcB, ← shN_xor]
  congr 1
  have e : BitVec.ofNat 32 (x ^^^ y).toNat = BitVec.ofNat 32 x.toNat ^^^ BitVec.ofNat 32 y.toNat := by
    apply BitVec.eq_of_getLsbD_eq
    intro i hi
    rw [BitVec.getLsbD_xor, BitVec.getLsbD_ofNat, BitVec.getLsbD_ofNat, BitVec.getLsbD_ofNat, UInt8.toNat_xor, Nat.testBit_xor]
    cases x.toNat.testBit i <;> cases y.toNat.testBit i <;> simp [hi]
  rw [e, BitVec.xor_assoc, BitVec.xor_assoc, ← BitVec.xor_assoc b, BitVec.xor_comm b, BitVec.xor_assoc (BitVec.ofNat 32 x.toNat)]
theorem crcL_xor0 (a b : W32) (l : List UInt8) : crcL (a ^^^ b) l = crcL a l ^^^ shN (8 * l.length) b := by
  induction l generalizing a b with
  | nil => rfl
  | cons x l ih =>
    show crcL (crcB (a ^^^ b) x) l = crcL (crcB a x) l ^^^ _
    have e := crcB_xor a b x 0
    rw [show x ^^^ (0 : UInt8) = x by simp] at e
    rw [e, ih]
    congr 1
    have e2 : crcB b 0 = shN 8 b := by
      rw [crcB]
      congr 1
      show b ^^^ BitVec.ofNat 32 0 = b
      simp
    rw [e2, ← shN_add, List.length_cons, Nat.mul_succ]
/-- one bit of a text turned. -/
def flipBit (l : List UInt8) (k : Nat) : List UInt8 := l.modify (k / 8) fun x => x ^^^ UInt8.ofNat (2 ^ (k % 8))
theorem flip_len (l : List UInt8) (k : Nat) : (flipBit l k).length = l.length := by rw [flipBit, List.length_modify]
theorem shN_two (j : Nat) (h : j < 32) : shN j (BitVec.ofNat 32 (2 ^ j)) = 1 := by
  apply BitVec.eq_of_toNat_eq
  have hp : (2 : Nat) ^ j < 2 ^ 32 := Nat.pow_lt_pow_right (by decide) h
  have ht : (BitVec.ofNat 32 (2 ^ j)).toNat = 2 ^ j := by rw [BitVec.toNat_ofNat, Nat.mod_eq_of_lt hp]
  rw [shN_even (by rw [ht, Nat.mod_self]), ht, Nat.div_self (Nat.two_pow_pos j)]
  rfl
theorem crcL_flip (c : W32) (l : List UInt8) (k : Nat) (h : k < 8 * l.length) : crcL c (flipBit l k) = crcL c l ^^^ shN (8 * l.length - k) 1 := by
  induction l generalizing c k with
  | nil => simp at h
  | cons x l ih =>
    by_cases hk : k < 8
    · have e : flipBit (x :: l) k = (x ^^^ UInt8.ofNat (2 ^ k)) :: l := by
        rw [flipBit, show k / 8 = 0 by omega, show k % 8 = k by omega]
        rfl
      rw [e]
      show crcL (crcB c (x ^^^ _)) l = crcL (crcB c x) l ^^^ _
      have e1 := crcB_xor c 0 x (UInt8.ofNat (2 ^ k))
      rw [show c ^^^ (0 : W32) = c by simp] at e1
      have hp : (2 : Nat) ^ k < 256 := by
        have : (2 : Nat) ^ k < 2 ^ 8 := Nat.pow_lt_pow_right (by decide) hk
        simpa using this
      have e2 : crcB 0 (UInt8.ofNat (2 ^ k)) = shN (8 - k) 1 := by
        rw [crcB, show (0 : W32) ^^^ BitVec.ofNat 32 (UInt8.ofNat (2 ^ k)).toNat = BitVec.ofNat 32 (2 ^ k) by
          rw [UInt8.toNat_ofNat', Nat.mod_eq_of_lt (by simpa using hp)]; simp, show 8 = (8 - k) + k by omega, shN_add, shN_two k (by omega)]
        congr 1
        omega
      rw [e1, crcL_xor0, e2, ← shN_add]
      congr 2
      rw [List.length_cons]
      omega
    · have e : flipBit (x :: l) k = x :: flipBit l (k - 8) := by
        rw [flipBit, flipBit, show k / 8 = (k - 8) / 8 + 1 by omega, show (k - 8) % 8 = k % 8 by omega]
        rfl
      rw [e]
      show crcL (crcB c x) _ = crcL (crcB c x) l ^^^ _
      rw [List.length_cons] at h
      rw [ih _ _ (by omega), List.length_cons]
      congr 2
      omega
/-- the text with the bits from at on turned where mask has ones: after j places. -/
def burstN (b : List UInt8) (at_ : Int) (mask : Nat) : Nat → List UInt8
  | 0 => b
  | j + 1 => if mask.testBit j = true ∧ 0 ≤ at_ + j ∧ at_ + j < 8 * b.length then flipBit (burstN b at_ mask j) (at_ + j).toNat else burstN b at_ mask j
theorem burstN_len (b : List UInt8) (at_ : Int) (mask j : Nat) : (burstN b at_ mask j).length = b.length := by
  induction j with
  | zero => rfl
  | succ j ih =>
    rw [burstN]
    split
    · rw [flip_len, ih]
    · exact ih
/-- what was turned, as a word. -/
def turned (n : Nat) (at_ : Int) (mask : Nat) : Nat → W32
  | 0 => 0
  | j + 1 => if mask.testBit j = true ∧ 0 ≤ at_ + j ∧ at_ + j < 8 * n then turned n at_ mask j ^^^ BitVec.ofNat 32 (2 ^ j) else turned n at_ mask j
theorem turned_bit (n : Nat) (at_ : Int) (mask : Nat) (j : Nat) (hj : j ≤ 32) (i : Nat) : (turned n at_ mask j).getLsbD i = true ↔ i < j ∧ mask.testBit i = true ∧ 0 ≤ at_ + i ∧ at_ + i < 8 * n := by
  induction j with
  | zero => simp [turned]
  | succ j ih =>
    have ih := ih (by omega)
    rw [turned]
    split
    · next h =>
      rw [BitVec.getLsbD_xor, BitVec.getLsbD_ofNat, Nat.testBit_two_pow]
      by_cases hi : j = i
      · subst hi
        have h1 : (turned n at_ mask j).getLsbD j = false := by
          cases hc : (turned n at_ mask j).getLsbD j with
          | false => rfl
          | true => have := ih.1 hc; omega
        rw [h1]
        simp [show j < 32 by omega, h]
      · have : decide (j = i) = false := by simpa using hi
        rw [this]
        simp only [Bool.and_false, Bool.xor_false]
        rw [ih]
        constructor
        · rintro ⟨h1, h2⟩; exact ⟨by omega, h2⟩
        · rintro ⟨h1, h2⟩; exact ⟨by omega, h2⟩
    · next h =>
      rw [ih]
      constructor
      · rintro ⟨h1, h2⟩; exact ⟨by omega, h2⟩
      · rintro ⟨h1, h2⟩
        refine ⟨?_, h2⟩
        rcases Nat.lt_or_ge i j with h3 | h3
        · exact h3
        · obtain rfl : i = j := by omega
          exact absurd h2 h
theorem turned_none {n : Nat} {at_ : Int} {mask j : Nat} {b : List UInt8} (hb : b.length = n) (hj : j ≤ 32) (h : turned n at_ mask j = 0) : burstN b at_ mask j = b := by
  have hno : ∀ i, i < j → ¬ (mask.testBit i = true ∧ 0 ≤ at_ + i ∧ at_ + i < 8 * n) := fun i hi hc => by
    have := (turned_bit n at_ mask j hj i).2 ⟨hi, hc⟩
    rw [h] at this
    simp at this
  clear h
  induction j with
  | zero => rfl
  | succ j ih =>
    rw [burstN, hb, if_neg (hno j (by omega))]
    exact ih (by omega) fun i hi => hno i (by omega)
theorem crcL_burst (c : W32) (b : List UInt8) (at_ : Int) (mask j : Nat) (hj : j ≤ 32) : crcL c (burstN b at_ mask j) = crcL c b ^^^ shN (8 * b.length - at_).toNat (turned b.length at_ mask j) := by
  induction j with
  | zero => rw [burstN, turned, shN_zero]; simp
  | succ j ih =>
    have ih := ih (by omega)
    rw [burstN, turned]
    split
    · next h =>
      rw [crcL_flip _ _ _ (by rw [burstN_len]; omega), ih, shN_xor, BitVec.xor_assoc]
      congr 2
      have e : (8 * (b.length : Int) - at_).toNat = (8 * b.length - (at_ + j).toNat) + j := by omega
      rw [e, shN_add _ _ (BitVec.ofNat 32 (2 ^ j)), shN_two j (by omega), burstN_len]
    · exact ih
theorem add_xor {x y k : Nat} (h : x < 2 ^ k) : BitVec.ofNat 32 (x + y * 2 ^ k) = BitVec.ofNat 32 x ^^^ BitVec.ofNat 32 (y * 2 ^ k) := by
  apply BitVec.eq_of_getLsbD_eq
  intro i hi
  rw [BitVec.getLsbD_xor, BitVec.getLsbD_ofNat, BitVec.getLsbD_ofNat, BitVec.getLsbD_ofNat, show x + y * 2 ^ k = 2 ^ k * y + x by rw [Nat.mul_comm]; omega, Nat.testBit_two_pow_mul_add _ h, show y * 2 ^ k = y <<< k from (Nat.shiftLeft_eq y k).symm, Nat.testBit_shiftLeft]
  by_cases hk : i < k
  · have : ¬ k ≤ i := by omega
    simp [hk, this]
  · have h2 : x.testBit i = false := Nat.testBit_lt_two_pow (Nat.lt_of_lt_of_le h (Nat.pow_le_pow_right (by decide) (by omega)))
    have : k ≤ i := by omega
    simp [hk, h2, this, hi]
def wordN (a b c d : UInt8) : Nat := a.toNat + b.toNat * 256 + c.toNat * 65536 + d.toNat * 16777216
theorem shN_byte (s : W32) (b : UInt8) (k : Nat) (hk : k + 8 ≤ 32) : crcB (shN k s) b = shN (k + 8) (s ^^^ BitVec.ofNat 32 (b.toNat * 2 ^ k)) := by
  have e : BitVec.ofNat 32 b.toNat = shN k (BitVec.ofNat 32 (b.toNat * 2 ^ k)) := by
    apply BitVec.eq_of_toNat_eq
    have hb := b.toNat_lt
    have hp : b.toNat * 2 ^ k < 2 ^ 32 := by
      have h1 : (2 : Nat) ^ k ≤ 2 ^ 24 := Nat.pow_le_pow_right (by decide) (by omega)
      have h2 : b.toNat * 2 ^ k ≤ 255 * 2 ^ 24 := Nat.mul_le_mul (by omega) h1
      omega
    have ht : (BitVec.ofNat 32 (b.toNat * 2 ^ k)).toNat = b.toNat * 2 ^ k := by rw [BitVec.toNat_ofNat, Nat.mod_eq_of_lt hp]
    rw [shN_even (by rw [ht, Nat.mul_mod_left]), ht, Nat.mul_div_cancel _ (Nat.two_pow_pos k), BitVec.toNat_ofNat, Nat.mod_eq_of_lt (by omega)]
  rw [crcB, e, ← shN_xor, ← shN_add, Nat.add_comm 8 k]
theorem crcL_four (s : W32) (a b c d : UInt8) : crcL s [a, b, c, d] = shN 32 (s ^^^ BitVec.ofNat 32 (wordN a b c d)) := by
  show crcB (crcB (crcB (crcB s a) b) c) d = _
  have h0 : crcB s a = shN 8 (s ^^^ BitVec.ofNat 32 (a.toNat * 2 ^ 0)) := shN_byte s a 0 (by omega)
  rw [h0, shN_byte _ b 8 (by omega), shN_byte _ c 16 (by omega), shN_byte _ d 24 (by omega)]
  congr 1
  have ha := a.toNat_lt
  have hb := b.toNat_lt
  have hc := c.toNat_lt
  have e1 : wordN a b c d = (a.toNat * 2 ^ 0 + b.toNat * 2 ^ 8 + c.toNat * 2 ^ 16) + d.toNat * 2 ^ 24 := by unfold wordN; omega
  rw [e1, add_xor (x := a.toNat * 2 ^ 0 + b.toNat * 2 ^ 8 + c.toNat * 2 ^ 16) (k := 24) (by omega), add_xor (x := a.toNat * 2 ^ 0 + b.toNat * 2 ^ 8) (k := 16) (by omega), add_xor (x := a.toNat * 2 ^ 0) (k := 8) (by omega)]
  simp only [BitVec.xor_assoc]
theorem word_sum (a b c d : UInt8) : sumB (BitVec.ofNat 32 (wordN a b c d)) = [a, b, c, d] := by
  have ha := a.toNat_lt
  have hb := b.toNat_lt
  have hc := c.toNat_lt
  have hd := d.toNat_lt
  have ht : (BitVec.ofNat 32 (wordN a b c d)).toNat = wordN a b c d := by rw [BitVec.toNat_ofNat, Nat.mod_eq_of_lt (by unfold wordN; omega)]
  unfold sumB
  rw [ht]
  have e : ∀ (x : UInt8) (n : Nat), n = x.toNat → UInt8.ofNat n = x := fun x n h => by rw [h, UInt8.ofNat_toNat]
  rw [e a _ (by unfold wordN; omega), e b _ (by unfold wordN; omega), e c _ (by unfold wordN; omega), e d _ (by unfold wordN; omega)]
theorem sum_inj {v w : W32} (h : sumB v = sumB w) : v = w := by
  unfold sumB at h
  have e : ∀ x y : Nat, UInt8.ofNat (x % 256) = UInt8.ofNat (y % 256) → x % 256 = y % 256 := fun x y h => by
    have := congrArg UInt8.toNat h
    rw [UInt8.toNat_ofNat', UInt8.toNat_ofNat'] at this
    omega
  injection h with h1 h
  injection h with h2 h
  injection h with h3 h
  injection h with h4 h
  have hv := v.isLt
  have hw := w.isLt
  have h1 := e _ _ h1
  have h2 := e _ _ h2
  have h3 := e _ _ h3
  have h4 := e _ _ h4
  apply BitVec.eq_of_toNat_eq
  omega
theorem sum_len (v : W32) : (sumB v).length = 4 := rfl
def crc0 : W32 := BitVec.ofNat 32 0xffffffff
def residue : W32 := shN 32 crc0
theorem xor_crc0 (s : W32) : ~~~ s = s ^^^ crc0 := by
  have : crc0 = BitVec.allOnes 32 := by decide
  rw [this, BitVec.xor_allOnes]
theorem crcL_app (c : W32) (l m : List UInt8) : crcL c (l ++ m) = crcL (crcL c l) m := by rw [crcL, crcL, crcL, List.foldl_append]
/-- a text and four bytes are sealed just if the register ends at the residue. -/
theorem sealed_iff (m t : List UInt8) (ht : t.length = 4) : t = sumB (crcOf m) ↔ crcL crc0 (m ++ t) = residue := by
  obtain ⟨a, b, c, d, rfl⟩ : ∃ a b c d, t = [a, b, c, d] := by
    match t, ht with
    | [a, b, c, d], _ => exact ⟨a, b, c, d, rfl⟩
  rw [crcL_app, crcL_four]
  have hc : crcOf m = crcL crc0 m ^^^ crc0 := xor_crc0 _
  rw [hc]
  constructor
  · intro h
    have := sum_inj ((word_sum a b c d).trans h)
    rw [this, ← BitVec.xor_assoc, BitVec.xor_self, BitVec.zero_xor]
    rfl
  · intro h
    rw [← word_sum a b c d]
    congr 1
    have h2 : shN 32 ((crcL crc0 m ^^^ BitVec.ofNat 32 (wordN a b c d)) ^^^ crc0) = 0 := by
      rw [shN_xor, h]
      exact BitVec.xor_self
    have h3 := shN_inj0 h2
    have h4 : (crcL crc0 m ^^^ BitVec.ofNat 32 (wordN a b c d)) = crc0 := by
      have := congrArg (· ^^^ crc0) h3
      simp only [BitVec.xor_assoc, BitVec.xor_self, BitVec.xor_zero, BitVec.zero_xor] at this
      exact this.trans BitVec.zero_xor
    have h5 : crcL crc0 m ^^^ crc0 = crcL crc0 m ^^^ (crcL crc0 m ^^^ BitVec.ofNat 32 (wordN a b c d)) := by rw [h4]
    rw [h5, ← BitVec.xor_assoc, BitVec.xor_self, BitVec.zero_xor]
/-- a burst in a sealed text is refused. -/
theorem burst_bad (m : List UInt8) (at_ : Int) (mask : Nat) (hne : burstN (m ++ sumB (crcOf m)) at_ mask 32 ≠ m ++ sumB (crcOf m)) (p t : List UInt8) (ht : t.length = 4) (hpt : burstN (m ++ sumB (crcOf m)) at_ mask 32 = p ++ t) : t ≠ sumB (crcOf p) := by
  intro h
  have h1 := (sealed_iff p t ht).1 h
  have h2 := (sealed_iff m _ (sum_len _)).1 rfl
  rw [← hpt, crcL_burst _ _ _ _ 32 (Nat.le_refl _), h2] at h1
  have h3 : shN (8 * ((m ++ sumB (crcOf m)).length : Int) - at_).toNat (turned (m ++ sumB (crcOf m)).length at_ mask 32) = 0 := by
    have := congrArg (residue ^^^ ·) h1
    simp only [← BitVec.xor_assoc, BitVec.xor_self, BitVec.zero_xor] at this
    exact this
  exact hne (turned_none rfl (Nat.le_refl _) (shN_inj0 h3))
end Go.Proofs.YtghjffgaebnhiaaDoor
