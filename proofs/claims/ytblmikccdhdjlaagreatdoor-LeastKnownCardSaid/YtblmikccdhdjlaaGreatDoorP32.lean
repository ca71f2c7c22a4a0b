/- A part of the proof: the texts XText. -/
import Derived.Lib.ItoaNum
import Derived.Lib.AtoiAll
import Derived.Lib.AtoiTie
set_option linter.unusedVariables false
set_option linter.unusedSimpArgs false
section
/-! Texts of whole numbers. -/
namespace Go.Txt
open Go.Lib

def isDig (c : UInt8) : Prop := 48 ≤ c.toNat ∧ c.toNat ≤ 57
/-- The number that a list of digits spells. -/
def decVal (l : List UInt8) : Nat := l.foldl (fun a c => a * 10 + (c.toNat - 48)) 0
theorem foldl_acc (l : List UInt8) : ∀ acc, l.foldl (fun a c => a * 10 + (c.toNat - 48)) acc = acc * 10 ^ l.length + decVal l := by
  unfold decVal
  induction l with
  | nil => intro acc; simp
  | cons c l ih =>
    intro acc
    simp only [List.foldl_cons, List.length_cons]
    rw [ih, ih (0 * 10 + (c.toNat - 48)), Nat.zero_mul, Nat.zero_add, Nat.add_mul, Nat.pow_succ]
    have e : acc * 10 * 10 ^ l.length = acc * (10 ^ l.length * 10) := by rw [Nat.mul_assoc, Nat.mul_comm 10]
    omega
theorem decVal_append (l k : List UInt8) : decVal (l ++ k) = decVal l * 10 ^ k.length + decVal k := by
  show (l ++ k).foldl _ 0 = _
  rw [List.foldl_append, foldl_acc k]
  rfl
theorem decVal_lt : ∀ (l : List UInt8), (∀ c ∈ l, isDig c) → decVal l < 10 ^ l.length := by
  intro l
  induction l with
  | nil => intro _; simp [decVal]
  | cons c l ih =>
    intro h
    have h1 := ih (fun x hx => h x (List.mem_cons_of_mem _ hx))
    have h2 := h c (List.mem_cons_self ..)
    have h3 := decVal_append [c] l
    have h4 : decVal [c] = c.toNat - 48 := by simp [decVal]
    rw [List.singleton_append, h4] at h3
    rw [h3, List.length_cons, Nat.pow_succ]
    have h5 : (c.toNat - 48) * 10 ^ l.length ≤ 9 * 10 ^ l.length := Nat.mul_le_mul_right _ (by have := h2.2; omega)
    omega
theorem parse_digits : ∀ (l : List UInt8) (acc k : Nat), (∀ c ∈ l, isDig c) → acc < 10 ^ k → l.length + k ≤ 18 → parseUint10 acc l = .ok (l.foldl (fun a c => a * 10 + (c.toNat - 48)) acc)
  | [], _, _, _, _, _ => rfl
  | c :: r, acc, k, hd, ha, hl => by
    have hl' : r.length + 1 + k ≤ 18 := by simpa using hl
    have hp : 10 ^ k ≤ 10 ^ 17 := Nat.pow_le_pow_right (by decide) (by omega)
    have e17 : (10 : Nat) ^ 17 = 100000000000000000 := by decide
    have hc := hd c (List.mem_cons_self ..)
    have h1 := hc.1; have h2 := hc.2
    have hc2 : 48 ≤ c.toNat ∧ c.toNat ≤ 57 := hc
    simp only [parseUint10, if_pos hc2, List.foldl_cons]
    rw [if_neg (by omega), if_neg (by omega)]
    exact parse_digits r _ (k + 1) (fun x hx => hd x (List.mem_cons_of_mem _ hx)) (by rw [Nat.pow_succ]; omega) (by omega)
theorem parse_all (l : List UInt8) (hd : ∀ c ∈ l, isDig c) (hl : l.length ≤ 18) : parseUint10 0 l = .ok (decVal l) := parse_digits l 0 0 hd (by simp) (by omega)

theorem digit_ofNat (d : Nat) (h : d < 10) : (UInt8.ofNat (48 + d)).toNat = 48 + d := by
  rw [UInt8.toNat_ofNat']
  omega
theorem decDigits_dig (u : Nat) : ∀ c ∈ decDigits u, isDig c := by
  induction u using Nat.strongRecOn with
  | _ u ih =>
    intro c hc
    rw [decDigits] at hc
    split at hc
    · rename_i h
      simp only [List.mem_singleton] at hc
      subst hc
      unfold isDig
      rw [digit_ofNat _ h]
      omega
    · rcases List.mem_append.1 hc with h | h
      · exact ih (u / 10) (by omega) c h
      · simp only [List.mem_singleton] at h
        subst h
        unfold isDig
        rw [digit_ofNat _ (Nat.mod_lt _ (by omega))]
        omega
theorem decVal_decDigits (u : Nat) : decVal (decDigits u) = u := by
  induction u using Nat.strongRecOn with
  | _ u ih =>
    rw [decDigits]
    split
    · rename_i h
      simp only [decVal, List.foldl_cons, List.foldl_nil]
      rw [digit_ofNat _ h]
      omega
    · rw [decVal_append, ih (u / 10) (by omega)]
      have : decVal [UInt8.ofNat (48 + u % 10)] = u % 10 := by
        simp only [decVal, List.foldl_cons, List.foldl_nil]
        rw [digit_ofNat _ (Nat.mod_lt _ (by omega))]
        omega
      rw [this]
      simp only [List.length_cons, List.length_nil]
      omega
theorem decDigits_ne (u : Nat) : decDigits u ≠ [] := by
  rw [decDigits]
  split <;> simp
end Go.Txt
end
