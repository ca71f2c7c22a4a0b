/- A part of the proof: the texts XKnuth. -/
set_option linter.unusedVariables false
set_option linter.unusedSimpArgs false
section
/- Dividing two words by one: the digits to the base 2 ^ 32. Plain Lean. -/
namespace Kn
/-- What holds at each try of a digit. -/
structure Try (n1 n0 un u1 q r : Nat) : Prop where
  sum : q * n1 + r = un
  ge : (un * 4294967296 + u1) / (n1 * 4294967296 + n0) ≤ q
  le : q ≤ 4294967297

section
variable {n1 n0 un u1 q r : Nat}

theorem Try.start (h1 : 2147483648 ≤ n1) (h0 : n0 < 4294967296) (hu : un < n1 * 4294967296 + n0) (hu1 : u1 < 4294967296) : Try n1 n0 un u1 (un / n1) (un % n1) where
  sum := by rw [Nat.mul_comm]; exact Nat.div_add_mod un n1
  ge := by
    have hle : (un * 4294967296 + u1) / (n1 * 4294967296 + n0) * (n1 * 4294967296 + n0) ≤ un * 4294967296 + u1 := Nat.div_mul_le_self _ _
    generalize (un * 4294967296 + u1) / (n1 * 4294967296 + n0) = t at *
    rw [Nat.le_div_iff_mul_le (by omega)]
    rw [Nat.mul_add, ← Nat.mul_assoc] at hle
    generalize t * n1 = x at *
    generalize t * n0 = y at *
    omega
  le := by
    have h2 : un < (4294967298) * n1 := by
      have : 4294967298 * n1 = n1 * 4294967296 + 2 * n1 := by omega
      omega
    have := (Nat.div_lt_iff_lt_mul (by omega : 0 < n1)).2 h2
    omega

theorem lt_base (hu : un < n1 * 4294967296 + n0) (hu1 : u1 < 4294967296) : (un * 4294967296 + u1) / (n1 * 4294967296 + n0) < 4294967296 := by
  rw [Nat.div_lt_iff_lt_mul (by omega)]
  omega

theorem mul_split (q n1 n0 : Nat) : q * (n1 * 4294967296 + n0) = q * n1 * 4294967296 + q * n0 := by
  rw [Nat.mul_add, Nat.mul_assoc]

/-- The try is the digit. -/
theorem Try.hit (hu : un < n1 * 4294967296 + n0) (h : Try n1 n0 un u1 q r) (ht : q * n0 ≤ 4294967296 * r + u1) : (un * 4294967296 + u1) / (n1 * 4294967296 + n0) = q := by
  refine Nat.le_antisymm h.ge ?_
  rw [Nat.le_div_iff_mul_le (by omega), mul_split]
  have := h.sum
  generalize q * n1 = x at *
  generalize q * n0 = y at *
  omega

/-- The try is too great. -/
theorem Try.miss (hu : un < n1 * 4294967296 + n0) (hu1 : u1 < 4294967296) (h : Try n1 n0 un u1 q r) (ht : 4294967296 ≤ q ∨ 4294967296 * r + u1 < q * n0) : 0 < q ∧ Try n1 n0 un u1 (q - 1) (r + n1) := by
  have hlt : (un * 4294967296 + u1) / (n1 * 4294967296 + n0) < q := by
    rcases ht with ht | ht
    · have := lt_base hu hu1; omega
    · rw [Nat.div_lt_iff_lt_mul (by omega), mul_split]
      have := h.sum
      generalize q * n1 = x at *
      generalize q * n0 = y at *
      omega
  have hq : 0 < q := Nat.lt_of_le_of_lt (Nat.zero_le _) hlt
  refine ⟨hq, ?_, Nat.le_sub_one_of_lt hlt, by have := h.le; omega⟩
  have := h.sum
  obtain ⟨p, rfl⟩ : ∃ p, q = p + 1 := ⟨q - 1, by omega⟩
  rw [Nat.add_sub_cancel]
  rw [Nat.add_mul, Nat.one_mul] at this
  omega

/-- With so great a rest the try is the digit. -/
theorem Try.far (h0 : n0 < 4294967296) (hu : un < n1 * 4294967296 + n0) (h : Try n1 n0 un u1 q r) (hq : q ≤ 4294967296) (hr : 4294967296 ≤ r) : (un * 4294967296 + u1) / (n1 * 4294967296 + n0) = q := by
  refine h.hit hu ?_
  have : q * n0 ≤ 4294967296 * n0 := Nat.mul_le_mul_right _ hq
  omega
end

/-- Two digits make the quotient; what is left. -/
theorem two_digits_of (H D N u0 : Nat) (hD : 0 < D) :
    N / D * H + (N % D * H + u0) / D = (N * H + u0) / D ∧ (N % D * H + u0) % D = (N * H + u0) % D := by
  have e : N * H + u0 = N % D * H + u0 + D * (N / D * H) := by
    have h1 := Nat.mod_add_div N D
    have h2 : N * H = (N % D + D * (N / D)) * H := by rw [h1]
    rw [h2, Nat.add_mul, Nat.mul_assoc]
    omega
  rw [e]
  refine ⟨?_, ?_⟩
  · rw [Nat.add_mul_div_left _ _ hD, Nat.add_comm]
  · rw [Nat.add_mul_mod_self_left]

theorem shifted (u y s : Nat) : u * 2 ^ s / (y * 2 ^ s) = u / y ∧ u * 2 ^ s % (y * 2 ^ s) / 2 ^ s = u % y := by
  have hs : 0 < 2 ^ s := Nat.two_pow_pos s
  refine ⟨Nat.mul_div_mul_right _ _ hs, ?_⟩
  rw [Nat.mul_mod_mul_right, Nat.mul_div_cancel _ hs]
end Kn
end
