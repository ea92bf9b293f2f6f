/- Crc, Dig, OctP, Unit, Parse: joined. -/
import Derived.Test.YtghjffgaebnhiaaDoorMBase
import Derived.Laws.BitsAllLaws
section
/- The sum of layer 1 as the mind has it: the register, by bits, by bytes, by the table; a burst in a sealed text is refused. Nothing of the program in it. -/
namespace Go.Proofs.YtghjffgaebnhiaaDoor
set_option linter.unusedVariables false
set_option linter.unusedSimpArgs false
abbrev W32 := BitVec 32
def poly : W32 := 0xedb88320#32
/-- the register, one place on. -/
def sh (c : W32) : W32 := if c.getLsbD 0 then (c >>> 1) ^^^ poly else c >>> 1
def shN : Nat → W32 → W32
  | 0, c => c
  | k + 1, c => sh (shN k c)
theorem sh_xor (a b : W32) : sh (a ^^^ b) = sh a ^^^ sh b := by
  unfold sh
  have h : (a ^^^ b).getLsbD 0 = (a.getLsbD 0 ^^ b.getLsbD 0) := BitVec.getLsbD_xor
  have h2 : (a ^^^ b) >>> 1 = (a >>> 1) ^^^ (b >>> 1) := BitVec.ushiftRight_xor_distrib _ _ _
  rw [h, h2]
  cases a.getLsbD 0 <;> cases b.getLsbD 0 <;> simp
  · rw [BitVec.xor_assoc]
  · rw [BitVec.xor_assoc, BitVec.xor_assoc, BitVec.xor_comm poly]
  · rw [BitVec.xor_assoc (a >>> 1), ← BitVec.xor_assoc poly, BitVec.xor_comm poly, BitVec.xor_assoc (b >>> 1), BitVec.xor_self, BitVec.xor_zero]
theorem shN_xor (k : Nat) (a b : W32) : shN k (a ^^^ b) = shN k a ^^^ shN k b := by
  induction k with
  | zero => rfl
  | succ k ih => rw [shN, ih, sh_xor]; rfl
theorem sh_zero : sh 0 = 0 := by decide
theorem shN_zero (k : Nat) : shN k 0 = 0 := by
  induction k with
  | zero => rfl
  | succ k ih => rw [shN, ih, sh_zero]
theorem sh_inj0 {c : W32} (h : sh c = 0) : c = 0 := by
  unfold sh at h
  by_cases hc : c.getLsbD 0 = true
  · rw [if_pos hc] at h
    have h1 : ((c >>> 1) ^^^ poly).getLsbD 31 = false := by rw [h]; rfl
    rw [BitVec.getLsbD_xor, BitVec.getLsbD_ushiftRight] at h1
    have h2 : c.getLsbD (1 + 31) = false := BitVec.getLsbD_of_ge c _ (by omega)
    rw [h2] at h1
    exact absurd h1 (by decide)
  · rw [if_neg hc] at h
    have h0 : c.toNat / 2 = 0 := by
      have := congrArg BitVec.toNat h
      simpa [BitVec.toNat_ushiftRight, Nat.shiftRight_eq_div_pow] using this
    have h1 : c.toNat % 2 = 0 := by
      have : c.getLsbD 0 = c.toNat.testBit 0 := rfl
      rw [this] at hc
      simp [Nat.testBit_zero] at hc
      omega
    apply BitVec.eq_of_toNat_eq
    simp
    omega
theorem shN_inj0 {k : Nat} {c : W32} (h : shN k c = 0) : c = 0 := by
  induction k with
  | zero => exact h
  | succ k ih => exact ih (sh_inj0 h)
theorem shN_add (j k : Nat) (c : W32) : shN (j + k) c = shN j (shN k c) := by
  induction j with
  | zero => rw [Nat.zero_add]; rfl
  | succ j ih => rw [Nat.succ_add, shN, ih]; rfl
theorem sh_even {c : W32} (h : c.toNat % 2 = 0) : (sh c).toNat = c.toNat / 2 := by
  have h0 : ¬ c.getLsbD 0 = true := by
    have : c.getLsbD 0 = c.toNat.testBit 0 := rfl
    rw [this]
    simp [Nat.testBit_zero]
    omega
  unfold sh
  rw [if_neg h0, BitVec.toNat_ushiftRight, Nat.shiftRight_eq_div_pow]
/-- zeros fall out. -/
theorem shN_even {k : Nat} : ∀ {c : W32}, c.toNat % 2 ^ k = 0 → (shN k c).toNat = c.toNat / 2 ^ k := by
  induction k with
  | zero => intro c _; simp [shN]
  | succ k ih =>
    intro c h
    obtain ⟨q, hq⟩ := Nat.dvd_of_mod_eq_zero h
    have h1 : (shN k c).toNat = 2 * q := by
      rw [ih (by rw [hq, Nat.pow_succ, Nat.mul_assoc, Nat.mul_mod_right]), hq, Nat.pow_succ, Nat.mul_assoc, Nat.mul_div_cancel_left _ (Nat.two_pow_pos k)]
    rw [shN, sh_even (by rw [h1]; omega), h1, hq, Nat.mul_div_cancel_left _ (Nat.two_pow_pos _)]
    omega
def tab : List Nat := [0x00000000, 0x1db71064, 0x3b6e20c8, 0x26d930ac, 0x76dc4190, 0x6b6b51f4, 0x4db26158, 0x5005713c, 0xedb88320, 0xf00f9344, 0xd6d6a3e8, 0xcb61b38c, 0x9b64c2b0, 0x86d3d2d4, 0xa00ae278, 0xbdbdf21c]
theorem tab_ok : ∀ i : Fin 16, shN 4 (BitVec.ofNat 32 i.val) = BitVec.ofNat 32 (tab.getD i.val 0) := by decide
theorem split4 (c : W32) : c = (BitVec.ofNat 32 (c.toNat / 16 * 16)) ^^^ (BitVec.ofNat 32 (c.toNat % 16)) := by
  apply BitVec.eq_of_getLsbD_eq
  intro i hi
  rw [BitVec.getLsbD_xor, BitVec.getLsbD_ofNat, BitVec.getLsbD_ofNat]
  have e1 : c.toNat / 16 * 16 = (c.toNat >>> 4) <<< 4 := by rw [Nat.shiftRight_eq_div_pow, Nat.shiftLeft_eq]
  have e2 : c.toNat % 16 = c.toNat % 2 ^ 4 := rfl
  rw [e1, e2, Nat.testBit_shiftLeft, Nat.testBit_shiftRight, Nat.testBit_mod_two_pow]
  show c.toNat.testBit i = _
  by_cases h : 4 ≤ i
  · have : ¬ i < 4 := by omega
    simp [h, hi, this, show 4 + (i - 4) = i by omega]
  · have : i < 4 := by omega
    simp [h, hi, this]
theorem nib (c : W32) : shN 4 c = BitVec.ofNat 32 (tab.getD (c.toNat % 16) 0) ^^^ (c >>> 4) := by
  have hs := congrArg (shN 4) (split4 c)
  rw [shN_xor] at hs
  rw [hs, tab_ok ⟨c.toNat % 16, Nat.mod_lt _ (by decide)⟩, BitVec.xor_comm]
  congr 1
  apply BitVec.eq_of_toNat_eq
  have hl := c.isLt
  have ht : (BitVec.ofNat 32 (c.toNat / 16 * 16)).toNat = c.toNat / 16 * 16 := by
    rw [BitVec.toNat_ofNat, Nat.mod_eq_of_lt (by omega)]
  rw [shN_even (by rw [ht]; omega), ht, BitVec.toNat_ushiftRight, Nat.shiftRight_eq_div_pow]
  omega
/-- one byte. -/
def crcB (c : W32) (x : UInt8) : W32 := shN 8 (c ^^^ BitVec.ofNat 32 x.toNat)
def crcL (c : W32) (l : List UInt8) : W32 := l.foldl crcB c
/-- bit by bit: what k bits of x came to. -/
theorem sh_bit (c : W32) (x k : Nat) (hx : x < 256) (hk : k < 8) : sh (shN k (c ^^^ BitVec.ofNat 32 (x % 2 ^ k)) ^^^ BitVec.ofNat 32 (x / 2 ^ k % 2)) = shN (k + 1) (c ^^^ BitVec.ofNat 32 (x % 2 ^ (k + 1))) := by
  have e1 : BitVec.ofNat 32 (x / 2 ^ k % 2) = shN k (BitVec.ofNat 32 (x / 2 ^ k % 2 * 2 ^ k)) := by
    apply BitVec.eq_of_toNat_eq
    have hp : (2:Nat) ^ k ≤ 128 := by
      have : (2:Nat)^k ≤ 2^7 := Nat.pow_le_pow_right (by decide) (by omega)
      simpa using this
    have hp0 : 0 < (2:Nat)^k := Nat.two_pow_pos k
    have hb : x / 2 ^ k % 2 < 2 := Nat.mod_lt _ (by decide)
    have hm : x / 2 ^ k % 2 * 2 ^ k ≤ 1 * 128 := Nat.mul_le_mul (by omega) hp
    have ht : (BitVec.ofNat 32 (x / 2 ^ k % 2 * 2 ^ k)).toNat = x / 2 ^ k % 2 * 2 ^ k := by
      rw [BitVec.toNat_ofNat, Nat.mod_eq_of_lt (by omega)]
    rw [shN_even (by rw [ht, Nat.mul_mod_left]), ht, Nat.mul_div_cancel _ hp0, BitVec.toNat_ofNat, Nat.mod_eq_of_lt (by omega)]
  rw [e1, ← shN_xor, BitVec.xor_assoc]
  show shN (k + 1) _ = _
  congr 2
  apply BitVec.eq_of_getLsbD_eq
  intro i hi
  rw [BitVec.getLsbD_xor, BitVec.getLsbD_ofNat, BitVec.getLsbD_ofNat, BitVec.getLsbD_ofNat]
  have e2 : x / 2 ^ k % 2 * 2 ^ k = ((x >>> k) % 2 ^ 1) <<< k := by rw [Nat.shiftRight_eq_div_pow, Nat.shiftLeft_eq]
  rw [e2, Nat.testBit_shiftLeft, Nat.testBit_mod_two_pow, Nat.testBit_mod_two_pow, Nat.testBit_shiftRight, Nat.testBit_mod_two_pow]
  simp only [hi, decide_true, Bool.true_and]
  by_cases h1 : i < k
  · have : ¬ k ≤ i := by omega
    have h2 : i < k + 1 := by omega
    simp [h1, this, h2]
  · by_cases h2 : i = k
    · subst h2
      simp
    · have h3 : ¬ i < k + 1 := by omega
      have h4 : ¬ i - k < 1 := by omega
      simp [h1, h3, h4]
theorem crcB_bits (c : W32) (x : UInt8) : crcB c x = shN 8 (c ^^^ BitVec.ofNat 32 (x.toNat % 2 ^ 8)) := by
  rw [crcB, Nat.mod_eq_of_lt (by exact x.toNat_lt)]
theorem crcB_tab (c : W32) (x : UInt8) : crcB c x = shN 4 (shN 4 (c ^^^ BitVec.ofNat 32 x.toNat)) := by
  rw [crcB, ← shN_add]
theorem crcB_inj0 {c : W32} {x : UInt8} (h : crcB c x = 0) : c = BitVec.ofNat 32 x.toNat := by
  have := shN_inj0 h
  have h2 := congrArg (· ^^^ BitVec.ofNat 32 x.toNat) this
  simpa [BitVec.xor_assoc] using h2
def crcOf (l : List UInt8) : W32 := ~~~ crcL (BitVec.ofNat 32 0xffffffff) l
/-- the four bytes of a sum, the lowest first. -/
def sumB (c : W32) : List UInt8 := [UInt8.ofNat (c.toNat % 256), UInt8.ofNat (c.toNat / 256 % 256), UInt8.ofNat (c.toNat / 65536 % 256), UInt8.ofNat (c.toNat / 16777216 % 256)]
theorem crcB_xor (a b : W32) (x y : UInt8) : crcB (a ^^^ b) (x ^^^ y) = crcB a x ^^^ crcB b y := by
  rw [crcB, crcB, crcB, ← shN_xor]
  congr 1
  have e : BitVec.ofNat 32 (x ^^^ y).toNat = BitVec.ofNat 32 x.toNat ^^^ BitVec.ofNat 32 y.toNat := by
    apply BitVec.eq_of_getLsbD_eq
    intro i hi
    rw [BitVec.getLsbD_xor, BitVec.getLsbD_ofNat, BitVec.getLsbD_ofNat, BitVec.getLsbD_ofNat, UInt8.toNat_xor, Nat.testBit_xor]
    cases x.toNat.testBit i <;> cases y.toNat.testBit i <;> simp [hi]
  rw [e, BitVec.xor_assoc, BitVec.xor_assoc, ← BitVec.xor_assoc b, BitVec.xor_comm b, BitVec.xor_assoc (BitVec.ofNat 32 x.toNat)]
theorem crcL_xor0 (a b : W32) (l : List UInt8) : crcL (a ^^^ b) l = crcL a l ^^^ shN (8 * l.length) b := by
  induction l generalizing a b with
  | nil => rfl
  | cons x l ih =>
    show crcL (crcB (a ^^^ b) x) l = crcL (crcB a x) l ^^^ _
    have e := crcB_xor a b x 0
    rw [show x ^^^ (0 : UInt8) = x by simp] at e
    rw [e, ih]
    congr 1
    have e2 : crcB b 0 = shN 8 b := by
      rw [crcB]
      congr 1
      show b ^^^ BitVec.ofNat 32 0 = b
      simp
    rw [e2, ← shN_add, List.length_cons, Nat.mul_succ]
/-- one bit of a text turned. -/
def flipBit (l : List UInt8) (k : Nat) : List UInt8 := l.modify (k / 8) fun x => x ^^^ UInt8.ofNat (2 ^ (k % 8))
theorem flip_len (l : List UInt8) (k : Nat) : (flipBit l k).length = l.length := by rw [flipBit, List.length_modify]
theorem shN_two (j : Nat) (h : j < 32) : shN j (BitVec.ofNat 32 (2 ^ j)) = 1 := by
  apply BitVec.eq_of_toNat_eq
  have hp : (2 : Nat) ^ j < 2 ^ 32 := Nat.pow_lt_pow_right (by decide) h
  have ht : (BitVec.ofNat 32 (2 ^ j)).toNat = 2 ^ j := by rw [BitVec.toNat_ofNat, Nat.mod_eq_of_lt hp]
  rw [shN_even (by rw [ht, Nat.mod_self]), ht, Nat.div_self (Nat.two_pow_pos j)]
  rfl
theorem crcL_flip (c : W32) (l : List UInt8) (k : Nat) (h : k < 8 * l.length) : crcL c (flipBit l k) = crcL c l ^^^ shN (8 * l.length - k) 1 := by
  induction l generalizing c k with
  | nil => simp at h
  | cons x l ih =>
    by_cases hk : k < 8
    · have e : flipBit (x :: l) k = (x ^^^ UInt8.ofNat (2 ^ k)) :: l := by
        rw [flipBit, show k / 8 = 0 by omega, show k % 8 = k by omega]
        rfl
      rw [e]
      show crcL (crcB c (x ^^^ _)) l = crcL (crcB c x) l ^^^ _
      have e1 := crcB_xor c 0 x (UInt8.ofNat (2 ^ k))
      rw [show c ^^^ (0 : W32) = c by simp] at e1
      have hp : (2 : Nat) ^ k < 256 := by
        have : (2 : Nat) ^ k < 2 ^ 8 := Nat.pow_lt_pow_right (by decide) hk
        simpa using this
      have e2 : crcB 0 (UInt8.ofNat (2 ^ k)) = shN (8 - k) 1 := by
        rw [crcB, show (0 : W32) ^^^ BitVec.ofNat 32 (UInt8.ofNat (2 ^ k)).toNat = BitVec.ofNat 32 (2 ^ k) by
          rw [UInt8.toNat_ofNat', Nat.mod_eq_of_lt (by simpa using hp)]; simp, show 8 = (8 - k) + k by omega, shN_add, shN_two k (by omega)]
        congr 1
        omega
      rw [e1, crcL_xor0, e2, ← shN_add]
      congr 2
      rw [List.length_cons]
      omega
    · have e : flipBit (x :: l) k = x :: flipBit l (k - 8) := by
        rw [flipBit, flipBit, show k / 8 = (k - 8) / 8 + 1 by omega, show (k - 8) % 8 = k % 8 by omega]
        rfl
      rw [e]
      show crcL (crcB c x) _ = crcL (crcB c x) l ^^^ _
      rw [List.length_cons] at h
      rw [ih _ _ (by omega), List.length_cons]
      congr 2
      omega
/-- the text with the bits from at on turned where mask has ones: after j places. -/
def burstN (b : List UInt8) (at_ : Int) (mask : Nat) : Nat → List UInt8
  | 0 => b
  | j + 1 => if mask.testBit j = true ∧ 0 ≤ at_ + j ∧ at_ + j < 8 * b.length then flipBit (burstN b at_ mask j) (at_ + j).toNat else burstN b at_ mask j
theorem burstN_len (b : List UInt8) (at_ : Int) (mask j : Nat) : (burstN b at_ mask j).length = b.length := by
  induction j with
  | zero => rfl
  | succ j ih =>
    rw [burstN]
    split
    · rw [flip_len, ih]
    · exact ih
/-- what was turned, as a word. -/
def turned (n : Nat) (at_ : Int) (mask : Nat) : Nat → W32
  | 0 => 0
  | j + 1 => if mask.testBit j = true ∧ 0 ≤ at_ + j ∧ at_ + j < 8 * n then turned n at_ mask j ^^^ BitVec.ofNat 32 (2 ^ j) else turned n at_ mask j
theorem turned_bit (n : Nat) (at_ : Int) (mask : Nat) (j : Nat) (hj : j ≤ 32) (i : Nat) : (turned n at_ mask j).getLsbD i = true ↔ i < j ∧ mask.testBit i = true ∧ 0 ≤ at_ + i ∧ at_ + i < 8 * n := by
  induction j with
  | zero => simp [turned]
  | succ j ih =>
    have ih := ih (by omega)
    rw [turned]
    split
    · next h =>
      rw [BitVec.getLsbD_xor, BitVec.getLsbD_ofNat, Nat.testBit_two_pow]
      by_cases hi : j = i
      · subst hi
        have h1 : (turned n at_ mask j).getLsbD j = false := by
          cases hc : (turned n at_ mask j).getLsbD j with
          | false => rfl
          | true => have := ih.1 hc; omega
        rw [h1]
        simp [show j < 32 by omega, h]
      · have : decide (j = i) = false := by simpa using hi
        rw [this]
        simp only [Bool.and_false, Bool.xor_false]
        rw [ih]
        constructor
        · rintro ⟨h1, h2⟩; exact ⟨by omega, h2⟩
        · rintro ⟨h1, h2⟩; exact ⟨by omega, h2⟩
    · next h =>
      rw [ih]
      constructor
      · rintro ⟨h1, h2⟩; exact ⟨by omega, h2⟩
      · rintro ⟨h1, h2⟩
        refine ⟨?_, h2⟩
        rcases Nat.lt_or_ge i j with h3 | h3
        · exact h3
        · obtain rfl : i = j := by omega
          exact absurd h2 h
theorem turned_none {n : Nat} {at_ : Int} {mask j : Nat} {b : List UInt8} (hb : b.length = n) (hj : j ≤ 32) (h : turned n at_ mask j = 0) : burstN b at_ mask j = b := by
  have hno : ∀ i, i < j → ¬ (mask.testBit i = true ∧ 0 ≤ at_ + i ∧ at_ + i < 8 * n) := fun i hi hc => by
    have := (turned_bit n at_ mask j hj i).2 ⟨hi, hc⟩
    rw [h] at this
    simp at this
  clear h
  induction j with
  | zero => rfl
  | succ j ih =>
    rw [burstN, hb, if_neg (hno j (by omega))]
    exact ih (by omega) fun i hi => hno i (by omega)
theorem crcL_burst (c : W32) (b : List UInt8) (at_ : Int) (mask j : Nat) (hj : j ≤ 32) : crcL c (burstN b at_ mask j) = crcL c b ^^^ shN (8 * b.length - at_).toNat (turned b.length at_ mask j) := by
  induction j with
  | zero => rw [burstN, turned, shN_zero]; simp
  | succ j ih =>
    have ih := ih (by omega)
    rw [burstN, turned]
    split
    · next h =>
      rw [crcL_flip _ _ _ (by rw [burstN_len]; omega), ih, shN_xor, BitVec.xor_assoc]
      congr 2
      have e : (8 * (b.length : Int) - at_).toNat = (8 * b.length - (at_ + j).toNat) + j := by omega
      rw [e, shN_add _ _ (BitVec.ofNat 32 (2 ^ j)), shN_two j (by omega), burstN_len]
    · exact ih
theorem add_xor {x y k : Nat} (h : x < 2 ^ k) : BitVec.ofNat 32 (x + y * 2 ^ k) = BitVec.ofNat 32 x ^^^ BitVec.ofNat 32 (y * 2 ^ k) := by
  apply BitVec.eq_of_getLsbD_eq
  intro i hi
  rw [BitVec.getLsbD_xor, BitVec.getLsbD_ofNat, BitVec.getLsbD_ofNat, BitVec.getLsbD_ofNat, show x + y * 2 ^ k = 2 ^ k * y + x by rw [Nat.mul_comm]; omega, Nat.testBit_two_pow_mul_add _ h, show y * 2 ^ k = y <<< k from (Nat.shiftLeft_eq y k).symm, Nat.testBit_shiftLeft]
  by_cases hk : i < k
  · have : ¬ k ≤ i := by omega
    simp [hk, this]
  · have h2 : x.testBit i = false := Nat.testBit_lt_two_pow (Nat.lt_of_lt_of_le h (Nat.pow_le_pow_right (by decide) (by omega)))
    have : k ≤ i := by omega
    simp [hk, h2, this, hi]
def wordN (a b c d : UInt8) : Nat := a.toNat + b.toNat * 256 + c.toNat * 65536 + d.toNat * 16777216
theorem shN_byte (s : W32) (b : UInt8) (k : Nat) (hk : k + 8 ≤ 32) : crcB (shN k s) b = shN (k + 8) (s ^^^ BitVec.ofNat 32 (b.toNat * 2 ^ k)) := by
  have e : BitVec.ofNat 32 b.toNat = shN k (BitVec.ofNat 32 (b.toNat * 2 ^ k)) := by
    apply BitVec.eq_of_toNat_eq
    have hb := b.toNat_lt
    have hp : b.toNat * 2 ^ k < 2 ^ 32 := by
      have h1 : (2 : Nat) ^ k ≤ 2 ^ 24 := Nat.pow_le_pow_right (by decide) (by omega)
      have h2 : b.toNat * 2 ^ k ≤ 255 * 2 ^ 24 := Nat.mul_le_mul (by omega) h1
      omega
    have ht : (BitVec.ofNat 32 (b.toNat * 2 ^ k)).toNat = b.toNat * 2 ^ k := by rw [BitVec.toNat_ofNat, Nat.mod_eq_of_lt hp]
    rw [shN_even (by rw [ht, Nat.mul_mod_left]), ht, Nat.mul_div_cancel _ (Nat.two_pow_pos k), BitVec.toNat_ofNat, Nat.mod_eq_of_lt (by omega)]
  rw [crcB, e, ← shN_xor, ← shN_add, Nat.add_comm 8 k]
theorem crcL_four (s : W32) (a b c d : UInt8) : crcL s [a, b, c, d] = shN 32 (s ^^^ BitVec.ofNat 32 (wordN a b c d)) := by
  show crcB (crcB (crcB (crcB s a) b) c) d = _
  have h0 : crcB s a = shN 8 (s ^^^ BitVec.ofNat 32 (a.toNat * 2 ^ 0)) := shN_byte s a 0 (by omega)
  rw [h0, shN_byte _ b 8 (by omega), shN_byte _ c 16 (by omega), shN_byte _ d 24 (by omega)]
  congr 1
  have ha := a.toNat_lt
  have hb := b.toNat_lt
  have hc := c.toNat_lt
  have e1 : wordN a b c d = (a.toNat * 2 ^ 0 + b.toNat * 2 ^ 8 + c.toNat * 2 ^ 16) + d.toNat * 2 ^ 24 := by unfold wordN; omega
  rw [e1, add_xor (x := a.toNat * 2 ^ 0 + b.toNat * 2 ^ 8 + c.toNat * 2 ^ 16) (k := 24) (by omega), add_xor (x := a.toNat * 2 ^ 0 + b.toNat * 2 ^ 8) (k := 16) (by omega), add_xor (x := a.toNat * 2 ^ 0) (k := 8) (by omega)]
  simp only [BitVec.xor_assoc]
theorem word_sum (a b c d : UInt8) : sumB (BitVec.ofNat 32 (wordN a b c d)) = [a, b, c, d] := by
  have ha := a.toNat_lt
  have hb := b.toNat_lt
  have hc := c.toNat_lt
  have hd := d.toNat_lt
  have ht : (BitVec.ofNat 32 (wordN a b c d)).toNat = wordN a b c d := by rw [BitVec.toNat_ofNat, Nat.mod_eq_of_lt (by unfold wordN; omega)]
  unfold sumB
  rw [ht]
  have e : ∀ (x : UInt8) (n : Nat), n = x.toNat → UInt8.ofNat n = x := fun x n h => by rw [h, UInt8.ofNat_toNat]
  rw [e a _ (by unfold wordN; omega), e b _ (by unfold wordN; omega), e c _ (by unfold wordN; omega), e d _ (by unfold wordN; omega)]
theorem sum_inj {v w : W32} (h : sumB v = sumB w) : v = w := by
  unfold sumB at h
  have e : ∀ x y : Nat, UInt8.ofNat (x % 256) = UInt8.ofNat (y % 256) → x % 256 = y % 256 := fun x y h => by
    have := congrArg UInt8.toNat h
    rw [UInt8.toNat_ofNat', UInt8.toNat_ofNat'] at this
    omega
  injection h with h1 h
  injection h with h2 h
  injection h with h3 h
  injection h with h4 h
  have hv := v.isLt
  have hw := w.isLt
  have h1 := e _ _ h1
  have h2 := e _ _ h2
  have h3 := e _ _ h3
  have h4 := e _ _ h4
  apply BitVec.eq_of_toNat_eq
  omega
theorem sum_len (v : W32) : (sumB v).length = 4 := rfl
def crc0 : W32 := BitVec.ofNat 32 0xffffffff
def residue : W32 := shN 32 crc0
theorem xor_crc0 (s : W32) : ~~~ s = s ^^^ crc0 := by
  have : crc0 = BitVec.allOnes 32 := by decide
  rw [this, BitVec.xor_allOnes]
theorem crcL_app (c : W32) (l m : List UInt8) : crcL c (l ++ m) = crcL (crcL c l) m := by rw [crcL, crcL, crcL, List.foldl_append]
/-- a text and four bytes are sealed just if the register ends at the residue. -/
theorem sealed_iff (m t : List UInt8) (ht : t.length = 4) : t = sumB (crcOf m) ↔ crcL crc0 (m ++ t) = residue := by
  obtain ⟨a, b, c, d, rfl⟩ : ∃ a b c d, t = [a, b, c, d] := by
    match t, ht with
    | [a, b, c, d], _ => exact ⟨a, b, c, d, rfl⟩
  rw [crcL_app, crcL_four]
  have hc : crcOf m = crcL crc0 m ^^^ crc0 := xor_crc0 _
  rw [hc]
  constructor
  · intro h
    have := sum_inj ((word_sum a b c d).trans h)
    rw [this, ← BitVec.xor_assoc, BitVec.xor_self, BitVec.zero_xor]
    rfl
  · intro h
    rw [← word_sum a b c d]
    congr 1
    have h2 : shN 32 ((crcL crc0 m ^^^ BitVec.ofNat 32 (wordN a b c d)) ^^^ crc0) = 0 := by
      rw [shN_xor, h]
      exact BitVec.xor_self
    have h3 := shN_inj0 h2
    have h4 : (crcL crc0 m ^^^ BitVec.ofNat 32 (wordN a b c d)) = crc0 := by
      have := congrArg (· ^^^ crc0) h3
      simp only [BitVec.xor_assoc, BitVec.xor_self, BitVec.xor_zero, BitVec.zero_xor] at this
      exact this.trans BitVec.zero_xor
    have h5 : crcL crc0 m ^^^ crc0 = crcL crc0 m ^^^ (crcL crc0 m ^^^ BitVec.ofNat 32 (wordN a b c d)) := by rw [h4]
    rw [h5, ← BitVec.xor_assoc, BitVec.xor_self, BitVec.zero_xor]
/-- a burst in a sealed text is refused. -/
theorem burst_bad (m : List UInt8) (at_ : Int) (mask : Nat) (hne : burstN (m ++ sumB (crcOf m)) at_ mask 32 ≠ m ++ sumB (crcOf m)) (p t : List UInt8) (ht : t.length = 4) (hpt : burstN (m ++ sumB (crcOf m)) at_ mask 32 = p ++ t) : t ≠ sumB (crcOf p) := by
  intro h
  have h1 := (sealed_iff p t ht).1 h
  have h2 := (sealed_iff m _ (sum_len _)).1 rfl
  rw [← hpt, crcL_burst _ _ _ _ 32 (Nat.le_refl _), h2] at h1
  have h3 : shN (8 * ((m ++ sumB (crcOf m)).length : Int) - at_).toNat (turned (m ++ sumB (crcOf m)).length at_ mask 32) = 0 := by
    have := congrArg (residue ^^^ ·) h1
    simp only [← BitVec.xor_assoc, BitVec.xor_self, BitVec.zero_xor] at this
    exact this
  exact hne (turned_none rfl (Nat.le_refl _) (shN_inj0 h3))
end Go.Proofs.YtghjffgaebnhiaaDoor
end
section
/- Numbers as layer 1 writes and reads them. Nothing of the program in it. -/
namespace Go.Proofs.YtghjffgaebnhiaaDoor
set_option linter.unusedVariables false
set_option linter.unusedSimpArgs false
/-- digits of n, 128 added to each, k at most. -/
def digF : Nat → Nat → List UInt8
  | 0, _ => []
  | k + 1, n => if n = 0 then [] else digF k (n / 128) ++ [UInt8.ofNat (n % 128 + 128)]
def dig (n : Nat) : List UInt8 := digF 10 (n / 128) ++ [UInt8.ofNat (n % 128)]
theorem digF_zero (k : Nat) : digF k 0 = [] := by cases k <;> rfl
theorem digF_succ {k n : Nat} (h : n < 128 ^ k) : digF (k + 1) n = digF k n := by
  induction k generalizing n with
  | zero =>
    have : n = 0 := by simpa using h
    subst this
    rfl
  | succ k ih =>
    show (if n = 0 then [] else digF (k + 1) (n / 128) ++ _) = (if n = 0 then [] else digF k (n / 128) ++ _)
    rw [ih (by rw [Nat.pow_succ] at h; omega)]
theorem digF_len (k n : Nat) : (digF k n).length ≤ k := by
  induction k generalizing n with
  | zero => exact Nat.le_refl _
  | succ k ih =>
    unfold digF
    split
    · exact Nat.zero_le _
    · rw [List.length_append, List.length_singleton]
      exact Nat.succ_le_succ (ih _)
theorem digF_step {k n : Nat} (h : n < 128 ^ (k + 1)) (h0 : n ≠ 0) : digF (k + 1) n = digF (k + 1) (n / 128) ++ [UInt8.ofNat (n % 128 + 128)] := by
  show (if n = 0 then [] else digF k (n / 128) ++ _) = _
  rw [if_neg h0, digF_succ (n := n / 128) (by rw [Nat.pow_succ] at h; omega)]
theorem dig_len_pos (n : Nat) : 1 ≤ (dig n).length := by rw [dig, List.length_append, List.length_singleton]; omega
theorem digF_le {k n j : Nat} (h : n < 128 ^ j) : (digF k n).length ≤ j := by
  induction k generalizing n j with
  | zero => exact Nat.zero_le _
  | succ k ih =>
    unfold digF
    split
    · exact Nat.zero_le _
    · next h0 =>
      cases j with
      | zero => omega
      | succ j =>
        rw [List.length_append, List.length_singleton]
        exact Nat.succ_le_succ (ih (by rw [Nat.pow_succ] at h; omega))
theorem dig_len {n : Nat} (h : n < 2 ^ 64) : (dig n).length ≤ 10 := by
  rw [dig, List.length_append, List.length_singleton]
  have := digF_le (k := 10) (n := n / 128) (j := 9) (by omega)
  omega
/-- a number that is read: its value, how many bytes, the fault. -/
def numR : Nat → Nat → List UInt8 → Nat × Nat × Nat
  | i, n, [] => (0, 0, if i < 10 then 10 else 12)
  | i, n, x :: l => if i = 10 ∨ 2 ^ 57 ≤ n then (0, 0, 12) else if x.toNat < 128 then (n * 128 + x.toNat, i + 1, 0) else numR (i + 1) (n * 128 + (x.toNat - 128)) l
def numP (l : List UInt8) : Nat × Nat × Nat := if (numR 0 0 l).2.2 = 0 ∧ l.head? = some 128 then (0, 0, 12) else numR 0 0 l
theorem ofNat_hi {m : Nat} : (UInt8.ofNat (m % 128 + 128)).toNat = m % 128 + 128 := by
  rw [UInt8.toNat_ofNat']
  omega
theorem ofNat_lo {m : Nat} : (UInt8.ofNat (m % 128)).toNat = m % 128 := by
  rw [UInt8.toNat_ofNat']
  omega
theorem numR_hi {i n : Nat} {x : UInt8} {l : List UInt8} (h1 : i ≠ 10) (h2 : n < 2 ^ 57) (h3 : 128 ≤ x.toNat) : numR i n (x :: l) = numR (i + 1) (n * 128 + (x.toNat - 128)) l := by
  rw [numR, if_neg (by omega), if_neg (by omega)]
theorem numR_lo {i n : Nat} {x : UInt8} {l : List UInt8} (h1 : i ≠ 10) (h2 : n < 2 ^ 57) (h3 : x.toNat < 128) : numR i n (x :: l) = (n * 128 + x.toNat, i + 1, 0) := by
  rw [numR, if_neg (by omega), if_pos h3]
/-- reading on over digits. -/
theorem numR_dig {k n : Nat} (hn : n < 128 ^ k) (hn2 : n < 2 ^ 57) (t : List UInt8) : numR 0 0 (digF k n ++ t) = numR (digF k n).length n t ∧ (digF k n).length ≤ 9 := by
  induction k generalizing n t with
  | zero =>
    have : n = 0 := by simpa using hn
    subst this
    exact ⟨rfl, by decide⟩
  | succ k ih =>
    by_cases h0 : n = 0
    · subst h0
      rw [digF_zero]
      exact ⟨rfl, by decide⟩
    · have hlen : (digF (k + 1) n).length ≤ 9 := digF_le (j := 9) (by omega)
      refine ⟨?_, hlen⟩
      have e : digF (k + 1) n = digF k (n / 128) ++ [UInt8.ofNat (n % 128 + 128)] := by
        show (if n = 0 then [] else _) = _
        rw [if_neg h0]
      rw [e] at hlen ⊢
      rw [List.length_append, List.length_singleton] at hlen ⊢
      rw [List.append_assoc, (ih (n := n / 128) (by rw [Nat.pow_succ] at hn; omega) (by omega) _).1]
      refine (numR_hi (by omega) (by omega) (by rw [ofNat_hi]; omega)).trans ?_
      have e2 : n / 128 * 128 + ((UInt8.ofNat (n % 128 + 128)).toNat - 128) = n := by rw [ofNat_hi]; omega
      rw [e2]
      rfl
theorem digF_head {k n : Nat} (h : n ≠ 0) (hk : n < 128 ^ k) : ∃ x l, digF k n = x :: l ∧ x ≠ 128 := by
  induction k generalizing n with
  | zero => simp at hk; omega
  | succ k ih =>
    have e : digF (k + 1) n = digF k (n / 128) ++ [UInt8.ofNat (n % 128 + 128)] := by
      show (if n = 0 then [] else _) = _
      rw [if_neg h]
    rw [e]
    by_cases h1 : n / 128 = 0
    · rw [h1, digF_zero]
      refine ⟨_, _, rfl, fun he => ?_⟩
      have := congrArg UInt8.toNat he
      rw [ofNat_hi] at this
      simp at this
      omega
    · obtain ⟨x, l, hx, hne⟩ := ih h1 (by rw [Nat.pow_succ] at hk; omega)
      exact ⟨x, _, by rw [hx]; rfl, hne⟩
/-- what is written is read. -/
theorem num_dig {n : Nat} (h : n < 2 ^ 64) (t : List UInt8) : numP (dig n ++ t) = (n, (dig n).length, 0) := by
  have h1 : numR 0 0 (dig n ++ t) = (n, (dig n).length, 0) := by
    rw [dig, List.append_assoc, (numR_dig (k := 10) (n := n / 128) (by omega) (by omega) _).1]
    have hl := (numR_dig (k := 10) (n := n / 128) (by omega) (by omega) []).2
    show numR _ _ (_ :: t) = _
    rw [numR, if_neg (by omega), if_pos (by rw [ofNat_lo]; omega), ofNat_lo, List.length_append, List.length_singleton]
    congr 1
    omega
  rw [numP, h1, if_neg]
  rintro ⟨-, h2⟩
  rw [dig] at h2
  by_cases h0 : n / 128 = 0
  · rw [h0, digF_zero] at h2
    simp at h2
    have := congrArg UInt8.toNat h2
    rw [ofNat_lo] at this
    simp at this
    omega
  · obtain ⟨x, l, hx, hne⟩ := digF_head (k := 10) h0 (by omega)
    rw [hx] at h2
    simp at h2
    exact hne h2
/-- what is read was written so. -/
theorem numR_back (l : List UInt8) (i m : Nat) (hi : i ≤ 9) (hm : m < 2 ^ 57) (hz : i = 0 → m = 0) (hp : 0 < i → m ≠ 0) {n k : Nat} (h : numR i m l = (n, k, 0)) (hh : i = 0 → l.head? ≠ some 128) :
    i < k ∧ k ≤ i + l.length ∧ n < 2 ^ 64 ∧ digF 10 m ++ l.take (k - i) = dig n := by
  induction l generalizing i m with
  | nil =>
    rw [numR] at h
    injection h with h1 h2
    injection h2 with h2 h3
    split at h3 <;> simp at h3
  | cons x l ih =>
    rw [numR, if_neg (by omega)] at h
    by_cases hx : x.toNat < 128
    · rw [if_pos hx] at h
      injection h with h1 h2
      injection h2 with h2 h3
      subst h1; subst h2
      refine ⟨by omega, by rw [List.length_cons]; omega, by omega, ?_⟩
      rw [show i + 1 - i = 1 by omega, dig]
      show _ ++ [x] = _
      rw [show (m * 128 + x.toNat) / 128 = m by omega, show (m * 128 + x.toNat) % 128 = x.toNat by omega, UInt8.ofNat_toNat]
    · rw [if_neg hx] at h
      have hb : ¬ (i + 1 = 10 ∨ 2 ^ 57 ≤ m * 128 + (x.toNat - 128)) := by
        intro hc
        cases l with
        | nil =>
          rw [numR] at h
          injection h with h1 h2
          injection h2 with h2 h3
          split at h3 <;> simp at h3
        | cons y l =>
          rw [numR, if_pos hc] at h
          injection h with h1 h2
          injection h2 with h2 h3
          simp at h3
      have hlt := x.toNat_lt
      have hne : m * 128 + (x.toNat - 128) ≠ 0 := by
        rcases Nat.eq_zero_or_pos i with h0 | h0
        · have h1 := hh h0
          intro he
          apply h1
          have : x.toNat = 128 := by omega
          have : x = 128 := UInt8.toNat_inj.1 this
          rw [this]
          rfl
        · have := hp h0
          omega
      obtain ⟨g1, g2, g3, g4⟩ := ih (i + 1) (m * 128 + (x.toNat - 128)) (by omega) (by omega) (fun h => by omega) (fun _ => hne) h (fun h => by omega)
      refine ⟨by omega, by rw [List.length_cons]; omega, g3, ?_⟩
      rw [← g4, show k - i = (k - (i + 1)) + 1 by omega, List.take_succ_cons]
      have e : digF 10 (m * 128 + (x.toNat - 128)) = digF 10 m ++ [x] := by
        rw [digF_step (k := 9) (by omega) hne]
        rw [show (m * 128 + (x.toNat - 128)) / 128 = m by omega, show (m * 128 + (x.toNat - 128)) % 128 + 128 = x.toNat by omega, UInt8.ofNat_toNat]
      rw [e, List.append_assoc]
      rfl
theorem num_back {l : List UInt8} {n k : Nat} (h : numP l = (n, k, 0)) : 0 < k ∧ k ≤ l.length ∧ n < 2 ^ 64 ∧ l.take k = dig n := by
  unfold numP at h
  split at h
  · injection h with h1 h2
    injection h2 with h2 h3
    simp at h3
  · next hc =>
    have h0 : (numR 0 0 l).2.2 = 0 := by rw [h]
    have := numR_back l 0 0 (by omega) (by omega) (fun _ => rfl) (fun h => by omega) h (fun _ hh => hc ⟨h0, hh⟩)
    rw [digF_zero] at this
    simpa using this
end Go.Proofs.YtghjffgaebnhiaaDoor
end
section
/- Plain laws between the program's sums and the mind's. -/
namespace Go.Proofs.YtghjffgaebnhiaaDoor
set_option linter.unusedVariables false
set_option linter.unusedSimpArgs false
open Go.RowKit
/-- four places by the table. -/
def nibN (c : Nat) : Nat := tab.getD (c % 16) 0 ^^^ c / 16
theorem tab_lt (i : Nat) : tab.getD i 0 < 4294967296 := by
  by_cases h : i < 16
  · have : ∀ j : Fin 16, tab.getD j.val 0 < 4294967296 := by decide
    exact this ⟨i, h⟩
  · rw [List.getD_eq_getElem?_getD, List.getElem?_eq_none (by show 16 ≤ i; omega)]
    decide
theorem nib_nat (c : W32) : (shN 4 c).toNat = nibN c.toNat := by
  rw [nib, BitVec.toNat_xor, BitVec.toNat_ofNat, Nat.mod_eq_of_lt (tab_lt _), BitVec.toNat_ushiftRight, Nat.shiftRight_eq_div_pow]
  rfl
theorem crcB_nat (c : W32) (x : UInt8) : (crcB c x).toNat = nibN (nibN (c.toNat ^^^ x.toNat)) := by
  rw [crcB_tab, nib_nat, nib_nat, BitVec.toNat_xor, BitVec.toNat_ofNat, Nat.mod_eq_of_lt (Nat.lt_trans x.toNat_lt (by decide))]
theorem nibN_lt {c : Nat} (h : c < 4294967296) : nibN c < 4294967296 := by
  have := (shN 4 (BitVec.ofNat 32 c)).isLt
  rw [nib_nat, BitVec.toNat_ofNat, Nat.mod_eq_of_lt (by exact h)] at this
  exact this
theorem xor_lt32 {a b : Nat} (ha : a < 4294967296) (hb : b < 4294967296) : a ^^^ b < 4294967296 := Nat.xor_lt_two_pow (n := 32) ha hb
theorem crcL_take (l : List UInt8) (k : Nat) (h : k < l.length) : crcL crc0 (l.take (k + 1)) = crcB (crcL crc0 (l.take k)) l[k] := by
  rw [List.take_succ_eq_append_getElem h, crcL_app]
  rfl
/-- what a number's digits come to, one place on. -/
theorem digF_go {k n : Nat} (h : n < 128 ^ (k + 1)) (h0 : 0 < n) (t : List UInt8) : digF (k + 1) n ++ t = digF (k + 1) (n / 128) ++ (UInt8.ofNat (n % 128 + 128) :: t) := by
  rw [digF_step h (by omega), List.append_assoc]
  rfl
end Go.Proofs.YtghjffgaebnhiaaDoor
end
section
/- A unit, as the mind has it and as a value. Nothing of the program in it. -/
namespace Go.Proofs.YtghjffgaebnhiaaDoor
set_option linter.unusedVariables false
set_option linter.unusedSimpArgs false
/-- a unit. -/
structure UD where
  kind : Int
  ep : UInt64
  ses : UInt64
  path : Int
  idx : Int
  cnt : Int
  data : List UInt8
  code : Int
  got : List (Int × Int)
def named (n : UInt64) : Prop := 1 ≤ n.toNat ∧ n.toNat ≤ 281474976710655
instance (n : UInt64) : Decidable (named n) := inferInstanceAs (Decidable (_ ∧ _))
def goodD (u : UD) : Prop := (u.path = 1 ∨ u.path = 2) ∧ 1 ≤ u.cnt ∧ u.cnt ≤ 64 ∧ 0 ≤ u.idx ∧ u.idx < u.cnt ∧ 1 ≤ u.data.length ∧ u.data.length ≤ 1024 ∧ u.code = 0 ∧ u.got.length = 0
instance (u : UD) : Decidable (goodD u) := inferInstanceAs (Decidable (_ ∧ _))
def UD.isData (u : UD) : Prop := u.kind = 1 ∧ named u.ep ∧ named u.ses ∧ goodD u
instance (u : UD) : Decidable u.isData := inferInstanceAs (Decidable (_ ∧ _))
/-- a unit as a value; its two lists. -/
def uv (u : UD) (dv gv : Value) : Value := .agg #[.int .i64 u.kind, .int .u64 (u.ep.toNat : Int), .int .u64 (u.ses.toNat : Int), .int .i64 u.path, .int .i64 u.idx, .int .i64 u.cnt, dv, .int .i64 u.code, gv]
end Go.Proofs.YtghjffgaebnhiaaDoor
end
section
/- A unit as it is read out of bytes. Nothing of the program in it. -/
namespace Go.Proofs.YtghjffgaebnhiaaDoor
set_option linter.unusedVariables false
set_option linter.unusedSimpArgs false
/-- a reader: its place, its fault. -/
structure RS where
  at_ : Nat
  f : Nat
def maxN : Nat := 281474976710655
def numS (l : List UInt8) (most : Nat) (s : RS) : Nat × RS :=
  if s.f ≠ 0 then (0, s) else if (numP (l.drop s.at_)).2.2 ≠ 0 then (0, ⟨s.at_, (numP (l.drop s.at_)).2.2⟩)
  else if most < (numP (l.drop s.at_)).1 then (0, ⟨s.at_, 12⟩) else ((numP (l.drop s.at_)).1, ⟨s.at_ + (numP (l.drop s.at_)).2.1, 0⟩)
def failS (k : Nat) (s : RS) : RS := if s.f = 0 then ⟨s.at_, k⟩ else s
def numbS (l : List UInt8) (least most : Nat) (s : RS) : Nat × RS :=
  ((numS l maxN s).1, if (numS l maxN s).2.f = 0 ∧ ((numS l maxN s).1 < least ∨ most < (numS l maxN s).1) then ⟨(numS l maxN s).2.at_, 30⟩ else (numS l maxN s).2)
def bytesS (l : List UInt8) (most : Nat) (s : RS) : List UInt8 × RS :=
  if s.f ≠ 0 then ([], s) else if (numS l most s).2.f ≠ 0 then ([], ⟨s.at_, (numS l most s).2.f⟩)
  else if l.length - (numS l most s).2.at_ < (numS l most s).1 then ([], ⟨s.at_, 10⟩)
  else ((l.drop (numS l most s).2.at_).take (numS l most s).1, ⟨(numS l most s).2.at_ + (numS l most s).1, 0⟩)
def dataS5 (u : UD) (a b c : Nat) (p : List UInt8 × RS) : UD × RS := (⟨u.kind, u.ep, u.ses, a, b, c, p.1, u.code, u.got⟩, if p.1.length = 0 then failS 30 p.2 else p.2)
def dataS4 (l : List UInt8) (u : UD) (a b : Nat) (p : Nat × RS) : UD × RS := dataS5 u a b p.1 (bytesS l 1024 p.2)
def dataS3 (l : List UInt8) (u : UD) (a : Nat) (p : Nat × RS) : UD × RS := dataS4 l u a p.1 (numbS l (p.1 + 1) 64 p.2)
def dataS2 (l : List UInt8) (u : UD) (p : Nat × RS) : UD × RS := dataS3 l u p.1 (numbS l 0 63 p.2)
def dataS (l : List UInt8) (u : UD) (s : RS) : UD × RS := dataS2 l u (numbS l 1 2 s)
def rangesS (l : List UInt8) : Nat → Bool → Nat → RS → List (Int × Int) → List (Int × Int) × RS
  | 0, _, _, s, got => (got, s)
  | k + 1, first, e, s, got =>
    if s.f ≠ 0 then (got, s) else
    if (numS l maxN (numS l maxN s).2).2.f ≠ 0 then (got, (numS l maxN (numS l maxN s).2).2) else
    if ((numS l maxN s).1 = 0 ∧ first = false) ∨ (numS l maxN (numS l maxN s).2).1 = 0 ∨ 64 < e + (numS l maxN s).1 + (numS l maxN (numS l maxN s).2).1 then (got, ⟨(numS l maxN (numS l maxN s).2).2.at_, 30⟩) else
    rangesS l k false (e + (numS l maxN s).1 + (numS l maxN (numS l maxN s).2).1) (numS l maxN (numS l maxN s).2).2 (got ++ [(((e + (numS l maxN s).1 : Nat) : Int), ((e + (numS l maxN s).1 + (numS l maxN (numS l maxN s).2).1 : Nat) : Int))])
def withCode (u : UD) (c : Nat) (got : List (Int × Int)) : UD := ⟨u.kind, u.ep, u.ses, u.path, u.idx, u.cnt, u.data, c, got⟩
def reportS3 (l : List UInt8) (u : UD) (c : Nat) (p : Nat × RS) : UD × RS := (withCode u c (rangesS l p.1 true 0 p.2 u.got).1, (rangesS l p.1 true 0 p.2 u.got).2)
def reportS2 (l : List UInt8) (u : UD) (p : Nat × RS) : UD × RS := if p.2.f ≠ 0 ∨ p.1 ≠ 0 then (withCode u p.1 u.got, p.2) else reportS3 l u p.1 (numbS l 0 32 p.2)
def reportS (l : List UInt8) (u : UD) (s : RS) : UD × RS := reportS2 l u (numbS l 0 7 s)
def headU (k e n : Nat) : UD := ⟨k, UInt64.ofNat e, UInt64.ofNat n, 0, 0, 0, [], 0, []⟩
def zeroU : UD := ⟨0, 0, 0, 0, 0, 0, [], 0, []⟩
def bodyS (l : List UInt8) (u : UD) (s : RS) : UD × RS := if u.kind = 1 then dataS l u s else if u.kind = 2 then reportS l u s else (u, s)
def parse4 (l : List UInt8) (k e : Nat) (p : Nat × RS) : UD × RS := if p.2.f ≠ 0 then (headU k e p.1, p.2) else bodyS l (headU k e p.1) p.2
def parse3 (l : List UInt8) (k : Nat) (p : Nat × RS) : UD × RS := parse4 l k p.1 (numbS l 1 maxN p.2)
def parse2 (l : List UInt8) (p : Nat × RS) : UD × RS := parse3 l p.1 (numbS l 1 maxN p.2)
def parseU (l : List UInt8) : UD × RS := parse2 l (numbS l 1 3 ⟨0, 0⟩)
def endS (l : List UInt8) (s : RS) : Nat := if s.f = 0 ∧ s.at_ < l.length then 11 else s.f
def decB (l : List UInt8) : UD × Nat := if endS l (parseU l).2 ≠ 0 then (zeroU, endS l (parseU l).2) else ((parseU l).1, 0)
/-! ### bounds -/
theorem numR_f (l : List UInt8) (i n : Nat) : (numR i n l).2.2 ≤ 12 := by
  induction l generalizing i n with
  | nil => rw [numR]; simp only; split <;> omega
  | cons x l ih =>
    rw [numR]
    split
    · exact Nat.le_refl _
    · split
      · exact Nat.zero_le _
      · exact ih _ _
theorem numP_f (l : List UInt8) : (numP l).2.2 ≤ 12 := by
  rw [numP]
  split
  · exact Nat.le_refl _
  · exact numR_f _ _ _
theorem numP_ok {l : List UInt8} (h : (numP l).2.2 = 0) : 0 < (numP l).2.1 ∧ (numP l).2.1 ≤ l.length ∧ (numP l).1 < 2 ^ 64 ∧ l.take (numP l).2.1 = dig (numP l).1 :=
  num_back (l := l) (n := (numP l).1) (k := (numP l).2.1) (by rw [← h])
theorem numS_bad {l : List UInt8} {m : Nat} {s : RS} (h : s.f ≠ 0) : numS l m s = (0, s) := by rw [numS, if_pos h]
theorem numS_ok {l : List UInt8} {m : Nat} {s : RS} (ha : s.at_ ≤ l.length) (h : (numS l m s).2.f = 0) :
    s.f = 0 ∧ (numS l m s).1 ≤ m ∧ (numS l m s).1 < 2 ^ 64 ∧ s.at_ < (numS l m s).2.at_ ∧ (numS l m s).2.at_ ≤ l.length ∧ l.take (numS l m s).2.at_ = l.take s.at_ ++ dig (numS l m s).1 := by
  unfold numS at h ⊢
  split at h
  · next hs => exact absurd h hs
  · next hs =>
    rw [if_neg hs]
    split at h
    · next hp => exact absurd h hp
    · next hp =>
      rw [if_neg hp]
      split at h
      · cases h
      · next hm =>
        rw [if_neg hm]
        obtain ⟨h1, h2, h3, h4⟩ := numP_ok (l := l.drop s.at_) (by omega)
        rw [List.length_drop] at h2
        refine ⟨by omega, by simp only; omega, h3, by simp only; omega, by simp only; omega, ?_⟩
        simp only
        rw [List.take_add, h4]
theorem numS_le {l : List UInt8} {m : Nat} {s : RS} (ha : s.at_ ≤ l.length) : (numS l m s).2.at_ ≤ l.length := by
  by_cases h : (numS l m s).2.f = 0
  · exact (numS_ok ha h).2.2.2.2.1
  · unfold numS at h ⊢
    split
    · exact ha
    · split
      · exact ha
      · split
        · exact ha
        · next h1 h2 h3 => rw [if_neg h1, if_neg h2, if_neg h3] at h; exact absurd rfl h
theorem numS_lt {l : List UInt8} {m : Nat} {s : RS} (hm : m < 2 ^ 64) : (numS l m s).1 ≤ m := by
  unfold numS
  split
  · exact Nat.zero_le _
  · split
    · exact Nat.zero_le _
    · split
      · exact Nat.zero_le _
      · simp only; omega
theorem numS_f {l : List UInt8} {m : Nat} {s : RS} (h : s.f ≤ 30) : (numS l m s).2.f ≤ 30 := by
  have := numP_f (l.drop s.at_)
  unfold numS
  split
  · exact h
  · split
    · simp only; omega
    · split
      · simp only; omega
      · exact Nat.zero_le _
theorem numbS_le {l : List UInt8} {a b : Nat} {s : RS} (ha : s.at_ ≤ l.length) : (numbS l a b s).2.at_ ≤ l.length := by
  unfold numbS
  simp only
  split
  · exact numS_le ha
  · exact numS_le ha
theorem numbS_lt {l : List UInt8} {a b : Nat} {s : RS} : (numbS l a b s).1 ≤ 281474976710655 := numS_lt (by decide)
theorem numbS_ok {l : List UInt8} {a b : Nat} {s : RS} (ha : s.at_ ≤ l.length) (h : (numbS l a b s).2.f = 0) :
    s.f = 0 ∧ a ≤ (numbS l a b s).1 ∧ (numbS l a b s).1 ≤ b ∧ s.at_ < (numbS l a b s).2.at_ ∧ (numbS l a b s).2.at_ ≤ l.length ∧ l.take (numbS l a b s).2.at_ = l.take s.at_ ++ dig (numbS l a b s).1 := by
  unfold numbS at h ⊢
  simp only at h ⊢
  split at h
  · cases h
  · next hc =>
    rw [if_neg hc]
    obtain ⟨h1, h2, h3, h4, h5, h6⟩ := numS_ok ha h
    exact ⟨h1, by omega, by omega, h4, h5, h6⟩
theorem bytesS_ok {l : List UInt8} {m : Nat} {s : RS} (ha : s.at_ ≤ l.length) (h : (bytesS l m s).2.f = 0) :
    s.f = 0 ∧ (bytesS l m s).1.length ≤ m ∧ (bytesS l m s).2.at_ ≤ l.length ∧ l.take (bytesS l m s).2.at_ = l.take s.at_ ++ (dig (bytesS l m s).1.length ++ (bytesS l m s).1) := by
  unfold bytesS at h ⊢
  split at h
  · next hs => exact absurd h hs
  · next hs =>
    rw [if_neg hs]
    split at h
    · next hp => exact absurd h hp
    · next hp =>
      rw [if_neg hp]
      split at h
      · cases h
      · next hm =>
        rw [if_neg hm]
        obtain ⟨h1, h2, h3, h4, h5, h6⟩ := numS_ok (m := m) ha (by omega)
        have hl : ((l.drop (numS l m s).2.at_).take (numS l m s).1).length = (numS l m s).1 := by rw [List.length_take, List.length_drop]; omega
        refine ⟨by omega, by rw [hl]; exact h2, by simp only; omega, ?_⟩
        rw [hl]
        simp only
        rw [List.take_add, h6, List.append_assoc]
theorem bytesS_le {l : List UInt8} {m : Nat} {s : RS} (ha : s.at_ ≤ l.length) : (bytesS l m s).2.at_ ≤ l.length := by
  by_cases h : (bytesS l m s).2.f = 0
  · exact (bytesS_ok ha h).2.2.1
  · unfold bytesS at h ⊢
    split
    · exact ha
    · split
      · exact ha
      · split
        · exact ha
        · next h1 h2 h3 => rw [if_neg h1, if_neg h2, if_neg h3] at h; exact absurd rfl h
theorem bytesS_len {l : List UInt8} {m : Nat} {s : RS} (hm : m < 2 ^ 64) : (bytesS l m s).1.length ≤ m := by
  have := numS_lt (l := l) (s := s) hm
  unfold bytesS
  split
  · exact Nat.zero_le _
  · split
    · exact Nat.zero_le _
    · split
      · exact Nat.zero_le _
      · simp only [List.length_take]; omega
theorem failS_at (k : Nat) (s : RS) : (failS k s).at_ = s.at_ := by unfold failS; split <;> rfl
/-! ### what is written is read -/
theorem numS_dig {l p t : List UInt8} {n m : Nat} (h : l = p ++ (dig n ++ t)) (hn : n < 2 ^ 64) (hm : n ≤ m) : numS l m ⟨p.length, 0⟩ = (n, ⟨(p ++ dig n).length, 0⟩) := by
  subst h
  have e : (p ++ (dig n ++ t)).drop p.length = dig n ++ t := List.drop_left ..
  unfold numS
  simp only [e, num_dig hn]
  rw [if_neg (by simp), if_neg (by simp), if_neg (by omega), List.length_append]
theorem numbS_dig {l p t : List UInt8} {n a b : Nat} (h : l = p ++ (dig n ++ t)) (hn : n ≤ 281474976710655) (ha : a ≤ n) (hb : n ≤ b) : numbS l a b ⟨p.length, 0⟩ = (n, ⟨(p ++ dig n).length, 0⟩) := by
  unfold numbS
  rw [numS_dig (m := maxN) h (by omega) hn]
  simp only
  rw [if_neg (by omega)]
theorem bytesS_dig {l p x t : List UInt8} {m : Nat} (h : l = p ++ (dig x.length ++ (x ++ t))) (hx : x.length < 2 ^ 64) (hm : x.length ≤ m) : bytesS l m ⟨p.length, 0⟩ = (x, ⟨(p ++ (dig x.length ++ x)).length, 0⟩) := by
  unfold bytesS
  rw [numS_dig h hx hm]
  simp only
  have e : l = (p ++ dig x.length) ++ (x ++ t) := by rw [h, List.append_assoc]
  rw [if_neg (by simp), if_neg (by simp), if_neg]
  · rw [e, List.drop_left, List.take_left]
    congr 1
    rw [← List.append_assoc, @List.length_append _ (p ++ dig x.length)]
  · rw [e]
    simp only [List.length_append]
    omega
end Go.Proofs.YtghjffgaebnhiaaDoor
end
