/- A part of the proof: the texts XDigs, XVal. -/
set_option linter.unusedVariables false
set_option linter.unusedSimpArgs false
section
/- The digits of a whole number to a base, the lowest first, without a 0 at the end; and the numbers that lists of digits stand for. Plain Lean. -/
namespace Dig

/-- What a list of digits stands for. -/
def val (b : Nat) : List Nat → Nat
  | [] => 0
  | x :: l => x + b * val b l

/-- The digits of n, with as many rounds as there may be. -/
def digsTo (b : Nat) : Nat → Nat → List Nat
  | 0, _ => []
  | k + 1, n => if n = 0 then [] else (n % b) :: digsTo b k (n / b)

def digs (b n : Nat) : List Nat := digsTo b n n

theorem digsTo_succ (b : Nat) (hb : 2 ≤ b) : ∀ k n, n ≤ k → digsTo b (k + 1) n = digsTo b k n := by
  intro k
  induction k with
  | zero =>
    intro n h
    obtain rfl : n = 0 := by omega
    rfl
  | succ k ih =>
    intro n h
    show (if n = 0 then [] else (n % b) :: digsTo b (k + 1) (n / b)) = if n = 0 then [] else (n % b) :: digsTo b k (n / b)
    by_cases h0 : n = 0
    · rw [if_pos h0, if_pos h0]
    · rw [if_neg h0, if_neg h0, ih]
      have : n / b < n := Nat.div_lt_self (by omega) (by omega)
      omega

theorem digsTo_more (b : Nat) (hb : 2 ≤ b) (n : Nat) : ∀ d, digsTo b (n + d) n = digsTo b n n := by
  intro d
  induction d with
  | zero => rfl
  | succ d ih => rw [← ih]; exact digsTo_succ b hb (n + d) n (by omega)

theorem digs_zero (b : Nat) : digs b 0 = [] := rfl
theorem digs_pos (b n : Nat) (hb : 2 ≤ b) (hn : 0 < n) : digs b n = (n % b) :: digs b (n / b) := by
  unfold digs
  obtain ⟨m, rfl⟩ : ∃ m, n = m + 1 := ⟨n - 1, by omega⟩
  rw [digsTo, if_neg (by omega)]
  congr 1
  have h : (m + 1) / b < m + 1 := Nat.div_lt_self (by omega) (by omega)
  have := digsTo_more b hb ((m + 1) / b) (m - (m + 1) / b)
  rwa [show (m + 1) / b + (m - (m + 1) / b) = m from by omega] at this

section
variable {b : Nat}
theorem val_digs (hb : 2 ≤ b) (n : Nat) : val b (digs b n) = n := by
  induction n using Nat.strongRecOn with
  | ind n ih =>
    by_cases h : n = 0
    · subst h; rfl
    · rw [digs_pos b n hb (by omega), val, ih _ (Nat.div_lt_self (by omega) (by omega))]
      exact Nat.mod_add_div n b

theorem digs_lt (hb : 2 ≤ b) (n : Nat) : ∀ x ∈ digs b n, x < b := by
  induction n using Nat.strongRecOn with
  | ind n ih =>
    by_cases h : n = 0
    · subst h; intro x hx; cases hx
    · rw [digs_pos b n hb (by omega)]
      intro x hx
      rcases List.mem_cons.1 hx with rfl | hx
      · exact Nat.mod_lt _ (by omega)
      · exact ih _ (Nat.div_lt_self (by omega) (by omega)) x hx

theorem digs_eq_nil (hb : 2 ≤ b) (n : Nat) : digs b n = [] ↔ n = 0 := by
  constructor
  · intro h
    have := val_digs hb n
    rw [h] at this
    exact this.symm
  · rintro rfl; rfl

/-- Digits that end in no 0 are the digits of their number. -/
theorem digs_val (hb : 2 ≤ b) : ∀ l : List Nat, (∀ x ∈ l, x < b) → (∀ h : l ≠ [], l.getLast h ≠ 0) → digs b (val b l) = l := by
  intro l
  induction l with
  | nil => intro _ _; rfl
  | cons x l ih =>
    intro h1 h2
    have hx := h1 x (by simp)
    have hl : digs b (val b l) = l := ih (fun y hy => h1 y (by simp [hy])) (fun h => by
      have := h2 (by simp)
      rwa [List.getLast_cons h] at this)
    have hpos : 0 < val b (x :: l) := by
      rw [val]
      by_cases e : l = []
      · subst e
        have := h2 (by simp)
        simp at this
        omega
      · have : val b l ≠ 0 := by
          intro h0
          rw [h0] at hl
          exact e hl.symm
        have : 0 < b * val b l := Nat.mul_pos (by omega) (by omega)
        omega
    rw [digs_pos b _ hb hpos, val]
    have e1 : (x + b * val b l) % b = x := by rw [Nat.add_mul_mod_self_left, Nat.mod_eq_of_lt hx]
    have e2 : (x + b * val b l) / b = val b l := by rw [Nat.add_mul_div_left _ _ (by omega), Nat.div_eq_of_lt hx, Nat.zero_add]
    rw [e1, e2, hl]

theorem digs_last (hb : 2 ≤ b) (n : Nat) : ∀ h : digs b n ≠ [], (digs b n).getLast h ≠ 0 := by
  induction n using Nat.strongRecOn with
  | ind n ih =>
    intro h
    have hn : 0 < n := Nat.pos_of_ne_zero fun e => h ((digs_eq_nil hb n).2 e)
    have hlt : n / b < n := Nat.div_lt_self hn (by omega)
    have e := digs_pos b n hb hn
    by_cases h2 : digs b (n / b) = []
    · have h3 : n / b = 0 := (digs_eq_nil hb _).1 h2
      have h4 : n < b := by
        rcases Nat.lt_or_ge n b with h | h
        · exact h
        · have := Nat.div_pos h (by omega : 0 < b); omega
      have : digs b n = [n % b] := by rw [e, h2]
      simp only [this, List.getLast_singleton, Nat.mod_eq_of_lt h4]
      omega
    · have h3 := ih _ hlt h2
      simp only [e, List.getLast_cons h2]
      exact h3

theorem val_append (b : Nat) (l k : List Nat) : val b (l ++ k) = val b l + b ^ l.length * val b k := by
  induction l with
  | nil => simp [val]
  | cons x l ih =>
    simp only [List.cons_append, val, ih, List.length_cons, Nat.pow_succ]
    rw [Nat.mul_add, Nat.add_assoc, Nat.mul_comm (b ^ l.length) b, Nat.mul_assoc]

theorem val_replicate (b k : Nat) : val b (List.replicate k 0) = 0 := by
  induction k with
  | zero => rfl
  | succ k ih => rw [List.replicate_succ, val, ih]; simp

theorem val_lt : ∀ l : List Nat, (∀ x ∈ l, x < b) → val b l < b ^ l.length := by
  intro l
  induction l with
  | nil => intro _; simp [val]
  | cons x l ih =>
    intro h
    have h1 := h x (by simp)
    have h2 := ih fun y hy => h y (by simp [hy])
    simp only [val, List.length_cons, Nat.pow_succ]
    have : b * val b l + b ≤ b * b ^ l.length := by
      rw [← Nat.mul_succ]
      exact Nat.mul_le_mul_left b h2
    rw [Nat.mul_comm (b ^ l.length) b]
    omega

theorem digs_len_le (hb : 2 ≤ b) {n k : Nat} (h : n < b ^ k) : (digs b n).length ≤ k := by
  induction k generalizing n with
  | zero =>
    have : n = 0 := by simpa using h
    subst this
    simp [digs_zero]
  | succ k ih =>
    by_cases h0 : n = 0
    · subst h0; simp [digs_zero]
    · rw [digs_pos b n hb (by omega), List.length_cons]
      have : n / b < b ^ k := by
        rw [Nat.div_lt_iff_lt_mul (by omega)]
        rwa [Nat.pow_succ] at h
      have := ih this
      omega

theorem lt_digs_len (hb : 2 ≤ b) (n : Nat) : n < b ^ (digs b n).length := by
  have := val_lt (b := b) (digs b n) (digs_lt hb n)
  rwa [val_digs hb] at this

/-- A number with k + 1 digits is at least b ^ k. -/
theorem le_of_digs_len (hb : 2 ≤ b) {n k : Nat} (h : k < (digs b n).length) : b ^ k ≤ n := by
  rcases Nat.lt_or_ge n (b ^ k) with h1 | h1
  · have := digs_len_le hb h1; omega
  · exact h1

theorem digs_len_mono (hb : 2 ≤ b) {m n : Nat} (h : m ≤ n) : (digs b m).length ≤ (digs b n).length :=
  digs_len_le hb (Nat.lt_of_le_of_lt h (lt_digs_len hb n))

/-- The digits without the 0s at the end. -/
def trim (l : List Nat) : List Nat := (l.reverse.dropWhile (· == 0)).reverse

theorem trim_snoc_zero (l : List Nat) : trim (l ++ [0]) = trim l := by simp [trim]
theorem trim_snoc (l : List Nat) (x : Nat) (h : x ≠ 0) : trim (l ++ [x]) = l ++ [x] := by simp [trim, h]

theorem trim_eq (hb : 2 ≤ b) (l : List Nat) (h : ∀ x ∈ l, x < b) : trim l = digs b (val b l) := by
  have key : ∀ k : List Nat, (∀ x ∈ k, x < b) → trim k.reverse = digs b (val b k.reverse) := by
    intro k
    induction k with
    | nil => intro _; rfl
    | cons x k ih =>
      intro h
      rw [List.reverse_cons]
      by_cases e : x = 0
      · subst e
        rw [trim_snoc_zero, ih fun y hy => h y (by simp [hy]), val_append]
        simp [val]
      · rw [trim_snoc _ _ e, digs_val hb _ (fun y hy => h y (by simpa [or_comm] using hy)) (fun _ => by simpa using e)]
  have := key l.reverse fun x hx => h x (by simpa using hx)
  rwa [List.reverse_reverse] at this
end

end Dig
end
section
/- Numbers and their lists of digits: changing one digit, cutting, comparing. Plain Lean. -/
namespace Dig
section
variable {b : Nat}

theorem val_set (b : Nat) : ∀ (l : List Nat) (k v : Nat), k < l.length → val b (l.set k v) + l.getD k 0 * b ^ k = val b l + v * b ^ k := by
  intro l
  induction l with
  | nil => intro k v h; simp at h
  | cons x l ih =>
    intro k v h
    cases k with
    | zero => simp [val]; omega
    | succ k =>
      have := ih k v (by simpa using h)
      simp only [List.set_cons_succ, val, List.getD_cons_succ, Nat.pow_succ]
      have e1 : l.getD k 0 * (b ^ k * b) = b * (l.getD k 0 * b ^ k) := by rw [← Nat.mul_assoc, Nat.mul_comm]
      have e2 : v * (b ^ k * b) = b * (v * b ^ k) := by rw [← Nat.mul_assoc, Nat.mul_comm]
      rw [e1, e2, Nat.add_assoc, ← Nat.mul_add, this, Nat.mul_add, Nat.add_assoc]

theorem val_take_succ (b : Nat) (l : List Nat) (k : Nat) (h : k < l.length) : val b (l.take (k + 1)) = val b (l.take k) + l.getD k 0 * b ^ k := by
  rw [List.take_succ_eq_append_getElem h, val_append, List.length_take, Nat.min_eq_left (by omega)]
  simp [val, List.getD_eq_getElem?_getD, List.getElem?_eq_getElem h, Nat.mul_comm]

theorem val_take_drop (b : Nat) (l : List Nat) (k : Nat) (h : k ≤ l.length) : val b l = val b (l.take k) + b ^ k * val b (l.drop k) := by
  have := val_append b (l.take k) (l.drop k)
  rwa [List.take_append_drop, List.length_take, Nat.min_eq_left h] at this

theorem val_zeros : ∀ l : List Nat, (∀ x ∈ l, x = 0) → val b l = 0 := by
  intro l
  induction l with
  | nil => intro _; rfl
  | cons x l ih => intro h; rw [val, h x (by simp), ih fun y hy => h y (by simp [hy])]; simp

theorem set_lt {l : List Nat} {c k v : Nat} (h : ∀ x ∈ l, x < c) (hv : v < c) : ∀ x ∈ l.set k v, x < c := by
  intro x hx
  rcases List.mem_or_eq_of_mem_set hx with h1 | h1
  · exact h x h1
  · rw [h1]; exact hv
theorem getD_lt {l : List Nat} {c : Nat} (h : ∀ x ∈ l, x < c) (hc : 0 < c) (k : Nat) : l.getD k 0 < c := by
  rw [List.getD_eq_getElem?_getD]
  cases hk : l[k]? with
  | none => simpa using hc
  | some x => simpa using h x (List.mem_of_getElem? hk)
theorem getD_set_self {l : List Nat} {k v : Nat} (h : k < l.length) : (l.set k v).getD k 0 = v := by simp [h]
theorem getD_set_other {l : List Nat} {k j v : Nat} (h : k ≠ j) : (l.set k v).getD j 0 = l.getD j 0 := by
  rw [List.getD_eq_getElem?_getD, List.getD_eq_getElem?_getD, List.getElem?_set_ne h]

/-- How many digits are left when the 0s at the end of the first k are gone. -/
def tlen (l : List Nat) : Nat → Nat
  | 0 => 0
  | k + 1 => if l.getD k 0 = 0 then tlen l k else k + 1
theorem tlen_le (l : List Nat) : ∀ k, tlen l k ≤ k := by
  intro k
  induction k with
  | zero => exact Nat.le_refl _
  | succ k ih => unfold tlen; split <;> omega
theorem tlen_zero (l : List Nat) : ∀ k j, tlen l k ≤ j → j < k → l.getD j 0 = 0 := by
  intro k
  induction k with
  | zero => intro j _ h; omega
  | succ k ih =>
    intro j h1 h2
    unfold tlen at h1
    split at h1
    · rename_i h0
      by_cases e : j = k
      · rw [e]; exact h0
      · exact ih j h1 (by omega)
    · omega
theorem tlen_last (l : List Nat) : ∀ k, 0 < tlen l k → l.getD (tlen l k - 1) 0 ≠ 0 := by
  intro k
  induction k with
  | zero => intro h; exact absurd h (by simp [tlen])
  | succ k ih =>
    intro h
    unfold tlen at h ⊢
    split
    · rename_i h0
      rw [if_pos h0] at h
      exact ih h
    · rename_i h0
      exact h0
/-- The first digits, without the 0s at the end, are the digits of what they stand for. -/
theorem take_tlen (hb : 2 ≤ b) (l : List Nat) (k : Nat) (hk : k ≤ l.length) (h : ∀ x ∈ l, x < b) : l.take (tlen l k) = digs b (val b (l.take k)) := by
  have ht := tlen_le l k
  have e : val b (l.take k) = val b (l.take (tlen l k)) := by
    have := val_take_drop b (l.take k) (tlen l k) (by rw [List.length_take]; omega)
    rw [List.take_take, Nat.min_eq_left ht] at this
    rw [this, val_zeros ((l.take k).drop (tlen l k)), Nat.mul_zero, Nat.add_zero]
    intro x hx
    obtain ⟨i, hi, rfl⟩ := List.mem_iff_getElem.1 hx
    have hi' : tlen l k + i < k := by simp at hi; omega
    have := tlen_zero l k (tlen l k + i) (by omega) hi'
    rw [List.getD_eq_getElem?_getD, List.getElem?_eq_getElem (by omega)] at this
    simpa using this
  rw [e]
  symm
  refine digs_val hb _ (fun x hx => h x (List.mem_of_mem_take hx)) fun hne => ?_
  have h0 : 0 < tlen l k := by
    rcases Nat.eq_zero_or_pos (tlen l k) with h0 | h0
    · rw [h0] at hne; exact absurd rfl hne
    · exact h0
  have := tlen_last l k h0
  rw [List.getLast_eq_getElem]
  rw [List.getD_eq_getElem?_getD, List.getElem?_eq_getElem (by omega)] at this
  have hl : (l.take (tlen l k)).length - 1 = tlen l k - 1 := by rw [List.length_take, Nat.min_eq_left (by omega)]
  simp only [hl, List.getElem_take]
  simpa using this

theorem digs_trim (hb : 2 ≤ b) (l : List Nat) (h : ∀ x ∈ l, x < b) : l.take (tlen l l.length) = digs b (val b l) := by
  rw [take_tlen hb l l.length (Nat.le_refl _) h, List.take_length]
end
end Dig
end
