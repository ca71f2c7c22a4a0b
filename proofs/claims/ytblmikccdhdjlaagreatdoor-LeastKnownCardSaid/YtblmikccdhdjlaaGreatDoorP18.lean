/- A part of the proof: the texts XRat. -/
set_option linter.unusedVariables false
set_option linter.unusedSimpArgs false
section
/- Fractions in lowest terms: what numerator and denominator are after each operation. Plain Lean. -/
namespace Lin

theorem mkRat_den_eq (n : Int) (d : Nat) (hd : d ≠ 0) : (mkRat n d).den = d / n.natAbs.gcd d := by
  rw [Rat.mkRat_def, dif_neg hd, Rat.normalize_eq]
theorem mkRat_num_eq (n : Int) (d : Nat) (hd : d ≠ 0) : (mkRat n d).num = n / (n.natAbs.gcd d : Int) := by
  rw [Rat.mkRat_def, dif_neg hd, Rat.normalize_eq]
theorem mkRat_num_abs (n : Int) (d : Nat) (hd : d ≠ 0) : (mkRat n d).num.natAbs = n.natAbs / n.natAbs.gcd d := by
  rw [mkRat_num_eq n d hd, Int.natAbs_ediv_of_dvd]
  · rfl
  · exact Int.ofNat_dvd_left.2 (Nat.gcd_dvd_left _ _)
theorem mkRat_num_neg (n : Int) (d : Nat) (hd : d ≠ 0) : ((mkRat n d).num < 0) ↔ n < 0 := by
  rw [mkRat_num_eq n d hd]
  have hg : 0 < (n.natAbs.gcd d : Int) := by
    have := Nat.gcd_pos_of_pos_right n.natAbs (Nat.pos_of_ne_zero hd)
    omega
  constructor
  · intro h
    by_cases h1 : n < 0
    · exact h1
    · have := Int.ediv_nonneg (show 0 ≤ n by omega) (Int.le_of_lt hg); omega
  · intro h
    exact Int.ediv_neg_of_neg_of_pos h hg

/-- The quotient, by the cross products. -/
theorem div_mkRat (a b : Rat) (hb : b ≠ 0) : a / b = mkRat (a.num * (if b.num < 0 then - (b.den : Int) else b.den)) (a.den * b.num.natAbs) := by
  have hn : b.num ≠ 0 := fun h => hb (Rat.num_eq_zero.1 h)
  have e1 : (b⁻¹ : Rat) = mkRat (if b.num < 0 then - (b.den : Int) else b.den) b.num.natAbs := by
    rw [Rat.inv_def, Rat.divInt_eq_div, Rat.mkRat_eq_div]
    by_cases h : b.num < 0
    · rw [if_pos h]
      have : ((b.num.natAbs : Nat) : Rat) = - (b.num : Rat) := by
        have : ((b.num.natAbs : Nat) : Int) = - b.num := by omega
        rw [← Rat.intCast_natCast, this, Rat.intCast_neg]
      rw [this]
      have : (b.num : Rat) ≠ 0 := by simpa using hn
      simp only [Rat.intCast_neg]
      grind
    · rw [if_neg h]
      have : ((b.num.natAbs : Nat) : Int) = b.num := by omega
      rw [← Rat.intCast_natCast, this]
  rw [Rat.div_def, e1]
  conv => lhs; lhs; rw [← Rat.mkRat_self a]
  rw [Rat.mkRat_mul_mkRat]

end Lin
end
