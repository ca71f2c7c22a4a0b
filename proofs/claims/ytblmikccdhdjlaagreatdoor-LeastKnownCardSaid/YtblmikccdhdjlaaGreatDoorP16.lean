/- A part of the proof: the texts XParts. -/
set_option linter.unusedVariables false
set_option linter.unusedSimpArgs false
section
/-! Division of whole numbers by sign and magnitude. -/
namespace PartsLaw
theorem pos (a b : Int) (hb : 0 < b) :
    (a < 0 ∧ 0 < a.natAbs % b.natAbs → a / b = -((a.natAbs / b.natAbs + 1 : Nat) : Int) ∧ a % b = ((b.natAbs - a.natAbs % b.natAbs : Nat) : Int)) ∧
    (¬ (a < 0 ∧ 0 < a.natAbs % b.natAbs) → a / b = (if a < 0 then -((a.natAbs / b.natAbs : Nat) : Int) else ((a.natAbs / b.natAbs : Nat) : Int)) ∧ a % b = ((a.natAbs % b.natAbs : Nat) : Int)) := by
  have hB : 0 < b.natAbs := by omega
  have h1 : b.natAbs * (a.natAbs / b.natAbs) + a.natAbs % b.natAbs = a.natAbs := Nat.div_add_mod _ _
  have h2 := Nat.mod_lt a.natAbs hB
  have hb2 : (b.natAbs : Int) = b := by omega
  have h3 : b * ((a.natAbs / b.natAbs : Nat) : Int) + ((a.natAbs % b.natAbs : Nat) : Int) = (a.natAbs : Int) := by
    have h4 := congrArg (fun n : Nat => (n : Int)) h1
    simp only [Int.natCast_add, Int.natCast_mul] at h4
    rw [hb2] at h4
    exact h4
  generalize a.natAbs / b.natAbs = m at *
  generalize a.natAbs % b.natAbs = n at *
  constructor
  · rintro ⟨ha, hn⟩
    apply (Int.ediv_emod_unique hb).2
    refine ⟨?_, by omega, by omega⟩
    rw [Int.mul_neg, Int.natCast_add, Int.mul_add, Int.natCast_sub (by omega), hb2]
    generalize b * (m : Int) = x at *
    omega
  · intro h
    apply (Int.ediv_emod_unique hb).2
    refine ⟨?_, by omega, by omega⟩
    split
    · rw [Int.mul_neg]
      generalize b * (m : Int) = x at *
      omega
    · generalize b * (m : Int) = x at *
      omega
/-- What the program's Parts comes to. -/
theorem all (a b : Int) (hb : b ≠ 0) :
    ((a < 0 ∧ 0 < a.natAbs % b.natAbs) → (a / b).natAbs = a.natAbs / b.natAbs + 1 ∧ (a % b).natAbs = b.natAbs - a.natAbs % b.natAbs) ∧
    (¬ (a < 0 ∧ 0 < a.natAbs % b.natAbs) → (a / b).natAbs = a.natAbs / b.natAbs ∧ (a % b).natAbs = a.natAbs % b.natAbs) ∧
    ¬ a % b < 0 ∧ decide (a / b < 0) = ((decide (a < 0) != decide (b < 0)) && decide (0 < (a / b).natAbs)) := by
  rcases Int.lt_or_gt_of_ne hb with h | h
  · have hn : 0 < -b := by omega
    have := pos a (-b) hn
    rw [Int.natAbs_neg] at this
    have e1 : a / b = -(a / -b) := by rw [Int.ediv_neg, Int.neg_neg]
    have e2 : a % b = a % -b := (Int.emod_neg a b).symm
    rw [e1, e2]
    have hm := Int.emod_nonneg a (by omega : -b ≠ 0)
    generalize a / -b = q at *
    generalize a % -b = r at *
    generalize a.natAbs / b.natAbs = m at *
    generalize hnn : a.natAbs % b.natAbs = n at *
    refine ⟨fun k => ?_, fun k => ?_, by omega, ?_⟩
    · obtain ⟨h1, h2⟩ := this.1 k
      omega
    · obtain ⟨h1, h2⟩ := this.2 k
      split at h1 <;> omega
    · rw [decide_eq_true h]
      by_cases ha : a < 0
      · rw [decide_eq_true ha]
        have : ¬ -q < 0 := by
          by_cases k : 0 < n
          · have := (this.1 ⟨ha, k⟩).1; omega
          · have := (this.2 (fun e => k e.2)).1; rw [if_pos ha] at this; omega
        rw [decide_eq_false this]; rfl
      · rw [decide_eq_false ha]
        have := (this.2 (fun e => ha e.1)).1
        rw [if_neg ha] at this
        by_cases hq : -q < 0
        · rw [decide_eq_true hq, decide_eq_true (by omega)]; rfl
        · rw [decide_eq_false hq, decide_eq_false (by omega)]; rfl
  · have := pos a b h
    have hm := Int.emod_nonneg a (by omega : b ≠ 0)
    generalize a / b = q at *
    generalize a % b = r at *
    generalize a.natAbs / b.natAbs = m at *
    generalize hnn : a.natAbs % b.natAbs = n at *
    refine ⟨fun k => ?_, fun k => ?_, by omega, ?_⟩
    · obtain ⟨h1, h2⟩ := this.1 k
      omega
    · obtain ⟨h1, h2⟩ := this.2 k
      split at h1 <;> omega
    · rw [decide_eq_false (by omega : ¬ b < 0)]
      by_cases ha : a < 0
      · rw [decide_eq_true ha]
        by_cases hq : q < 0
        · rw [decide_eq_true hq, decide_eq_true (by omega)]; rfl
        · have : q ≤ 0 := by
            by_cases k : 0 < n
            · have := (this.1 ⟨ha, k⟩).1; omega
            · have := (this.2 (fun e => k e.2)).1; rw [if_pos ha] at this; omega
          rw [decide_eq_false hq, decide_eq_false (by omega)]; rfl
      · rw [decide_eq_false ha]
        have := (this.2 (fun e => ha e.1)).1
        rw [if_neg ha] at this
        rw [decide_eq_false (by omega)]; rfl
end PartsLaw
end
