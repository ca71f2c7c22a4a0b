/- A part of the proof: the texts XOver. -/
import Derived.Test.YtblmikccdhdjlaaGreatDoorP02
set_option linter.unusedVariables false
set_option linter.unusedSimpArgs false
section
/-! What the program's long division comes to, in plain numbers. -/
namespace Dig
variable {b : Nat}

theorem digs_div (hb : 2 ≤ b) (n k : Nat) (hk : k ≤ (digs b n).length) : n / b ^ k = val b ((digs b n).drop k) := by
  have h := val_take_drop b (digs b n) k hk
  rw [val_digs hb] at h
  have hl := val_lt (b := b) ((digs b n).take k) (fun x hx => digs_lt hb n x (List.mem_of_mem_take hx))
  rw [List.length_take, Nat.min_eq_left hk] at hl
  have hp : 0 < b ^ k := Nat.pow_pos (by omega)
  have e := congrArg (· / b ^ k) h
  rw [Nat.add_mul_div_left _ _ hp, Nat.div_eq_of_lt hl, Nat.zero_add] at e
  exact e
/-- The highest digit. -/
theorem digs_top (hb : 2 ≤ b) (n k : Nat) (hk : (digs b n).length = k + 1) : n / b ^ k = (digs b n).getD k 0 := by
  rw [digs_div hb n k (by omega), List.drop_eq_getElem_cons (by omega), List.drop_of_length_le (by omega), List.getD_eq_getElem?_getD, List.getElem?_eq_getElem (by omega)]
  simp [val]
/-- The two highest digits. -/
theorem digs_top2 (hb : 2 ≤ b) (n k : Nat) (hk : (digs b n).length = k + 2) : n / b ^ k = (digs b n).getD (k + 1) 0 * b + (digs b n).getD k 0 := by
  rw [digs_div hb n k (by omega), List.drop_eq_getElem_cons (by omega), List.drop_eq_getElem_cons (by omega), List.drop_of_length_le (by omega), List.getD_eq_getElem?_getD, List.getElem?_eq_getElem (by omega),
    List.getD_eq_getElem?_getD, List.getElem?_eq_getElem (by omega)]
  simp [val]
  rw [Nat.mul_comm, Nat.add_comm]
theorem digs_top_pos (hb : 2 ≤ b) (n k : Nat) (hk : (digs b n).length = k + 1) : 0 < (digs b n).getD k 0 := by
  rw [← digs_top hb n k hk]
  exact Nat.div_pos (le_of_digs_len hb (by omega)) (Nat.pow_pos (by omega))

/-- Shifted by i places. -/
theorem digs_shift (hb : 2 ≤ b) (n i : Nat) (hn : 0 < n) : digs b (n * b ^ i) = List.replicate i 0 ++ digs b n := by
  have h : val b (List.replicate i 0 ++ digs b n) = n * b ^ i := by
    rw [val_append, val_replicate, val_digs hb, List.length_replicate, Nat.zero_add, Nat.mul_comm]
  rw [← h]
  have hne : digs b n ≠ [] := fun e => by rw [digs_eq_nil hb] at e; omega
  apply digs_val hb
  · intro x hx
    rcases List.mem_append.1 hx with h | h
    · rw [(List.mem_replicate.1 h).2]; omega
    · exact digs_lt hb n x h
  · intro h
    rw [List.getLast_append_of_ne_nil h hne]
    exact digs_last hb n hne

namespace Over
variable {a d n f i rest : Nat}
/-- The factor that makes the divisor great. -/
theorem factor (hb : 2 ≤ b) (n d : Nat) (hn : (digs b d).length = n + 1) : 0 < b / ((digs b d).getD n 0 + 1) ∧ b / ((digs b d).getD n 0 + 1) < b ∧ (digs b (d * (b / ((digs b d).getD n 0 + 1)))).length = n + 1 := by
  have hlt := digs_lt hb d
  have htop := digs_top hb d n hn
  have hpos := digs_top_pos hb d n hn
  have ht : (digs b d).getD n 0 < b := getD_lt hlt (by omega) n
  generalize (digs b d).getD n 0 = t at *
  have hf : 0 < b / (t + 1) := Nat.div_pos ht (by omega)
  refine ⟨hf, Nat.div_lt_self (by omega) (by omega), ?_⟩
  have hP : 0 < b ^ n := Nat.pow_pos (by omega)
  have h1 : d < (t + 1) * b ^ n := by
    have := Nat.lt_mul_div_succ d hP
    rw [htop] at this
    rw [Nat.mul_comm]; exact this
  have h2 : d * (b / (t + 1)) < b ^ (n + 1) := by
    have h3 : d * (b / (t + 1)) < (t + 1) * b ^ n * (b / (t + 1)) := Nat.mul_lt_mul_of_pos_right h1 hf
    have h4 : (t + 1) * b ^ n * (b / (t + 1)) = b ^ n * ((t + 1) * (b / (t + 1))) := by rw [Nat.mul_comm (t + 1), Nat.mul_assoc]
    have h5 : b ^ n * ((t + 1) * (b / (t + 1))) ≤ b ^ n * b := Nat.mul_le_mul_left _ (Nat.mul_div_le b (t + 1))
    rw [Nat.pow_succ]
    omega
  have h6 := digs_len_le hb h2
  have h7 := digs_len_mono hb (Nat.le_mul_of_pos_right d hf)
  omega

/-- The estimate is at least the digit. -/
theorem guess (D rest i n Q : Nat) (hD : 0 < D) (hlead : 0 < D / b ^ n) (hb : 0 < b) (hQ : Q = rest / (D * b ^ i)) : Q ≤ rest / b ^ (i + n) / (D / b ^ n) := by
  rw [Nat.le_div_iff_mul_le hlead, Nat.le_div_iff_mul_le (Nat.pow_pos hb)]
  have h1 : Q * (D * b ^ i) ≤ rest := by rw [hQ]; exact Nat.div_mul_le_self _ _
  have h2 : D / b ^ n * b ^ n ≤ D := Nat.div_mul_le_self _ _
  calc Q * (D / b ^ n) * b ^ (i + n) = Q * (D / b ^ n * b ^ n * b ^ i) := by rw [Nat.add_comm i n, Nat.pow_add, Nat.mul_assoc, Nat.mul_assoc]
    _ ≤ Q * (D * b ^ i) := Nat.mul_le_mul_left _ (Nat.mul_le_mul_right _ h2)
    _ ≤ rest := h1

theorem digit_lt (D rest i : Nat) (hD : 0 < D) (hb : 0 < b) (h : rest < D * b ^ (i + 1)) : rest / (D * b ^ i) < b := by
  rw [Nat.div_lt_iff_lt_mul (Nat.mul_pos hD (Nat.pow_pos hb)), Nat.mul_comm b, Nat.mul_assoc, ← Nat.pow_succ]
  exact h
/-- Where the rest is short the digit is 0. -/
theorem digit_zero (hb : 2 ≤ b) (D rest i n : Nat) (hn : (digs b D).length = n + 1) (h : (digs b rest).length < i + (n + 1)) : rest < D * b ^ i := by
  have h1 := lt_digs_len hb rest
  have h2 : b ^ n ≤ D := le_of_digs_len hb (by omega)
  have h3 : b ^ (digs b rest).length ≤ b ^ (n + i) := Nat.pow_le_pow_right (by omega) (by omega)
  have h4 : b ^ n * b ^ i ≤ D * b ^ i := Nat.mul_le_mul_right _ h2
  rw [Nat.pow_add] at h3
  omega
theorem rest_len (hb : 2 ≤ b) (D rest i n : Nat) (hn : (digs b D).length = n + 1) (h : rest < D * b ^ (i + 1)) : (digs b rest).length ≤ i + (n + 1) + 1 := by
  apply digs_len_le hb
  have h1 := lt_digs_len hb D
  rw [hn] at h1
  have h2 : D * b ^ (i + 1) ≤ b ^ (n + 1) * b ^ (i + 1) := Nat.mul_le_mul_right _ (Nat.le_of_lt h1)
  rw [← Nat.pow_add] at h2
  have e : n + 1 + (i + 1) = i + (n + 1) + 1 := by omega
  rw [e] at h2
  omega
theorem start (hb : 2 ≤ b) (a d f n m : Nat) (hf : 0 < f) (hn : (digs b d).length = n + 1) (hm : (digs b a).length = n + 1 + m) : a * f < d * f * b ^ (m + 1) := by
  have h1 := lt_digs_len hb a
  have h2 : b ^ n ≤ d := le_of_digs_len hb (by omega)
  rw [hm] at h1
  have h3 : b ^ (n + 1 + m) ≤ d * b ^ (m + 1) := by
    have e : n + 1 + m = n + (m + 1) := by omega
    rw [e, Nat.pow_add]
    exact Nat.mul_le_mul_right _ h2
  have h4 : a * f < d * b ^ (m + 1) * f := Nat.mul_lt_mul_of_pos_right (Nat.lt_of_lt_of_le h1 h3) hf
  rw [Nat.mul_right_comm] at h4
  exact h4
/-- What is left in the end. -/
theorem finish (a d f q rest : Nat) (hf : 0 < f) (hd : 0 < d) (h : a * f = q * (d * f) + rest) (hr : rest < d * f) : q = a / d ∧ rest / f = a % d := by
  have h1 : rest = f * (rest / f) := by
    have : rest % f = 0 := by
      have h2 : (q * (d * f) + rest) % f = 0 := by rw [← h]; simp
      rwa [← Nat.mul_assoc, Nat.add_comm, Nat.add_mul_mod_self_right] at h2
    have := Nat.div_add_mod rest f
    omega
  have h2 : a = q * d + rest / f := by
    have : a * f = (q * d + rest / f) * f := by
      rw [Nat.add_mul, Nat.mul_assoc, Nat.mul_comm (rest / f), ← h1]; exact h
    exact Nat.eq_of_mul_eq_mul_right hf this
  have h3 : rest / f < d := by rw [Nat.div_lt_iff_lt_mul hf]; exact hr
  generalize rest / f = r at *
  subst h2
  rw [Nat.mul_comm q d, Nat.mul_add_div hd, Nat.div_eq_of_lt h3, Nat.mul_add_mod, Nat.mod_eq_of_lt h3]
  exact ⟨rfl, rfl⟩
end Over
end Dig
end
