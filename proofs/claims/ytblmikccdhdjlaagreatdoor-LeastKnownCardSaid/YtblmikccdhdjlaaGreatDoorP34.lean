/- A part of the proof: the texts XText2. -/
import Derived.Test.YtblmikccdhdjlaaGreatDoorP32
import Derived.Lib.Strings
set_option linter.unusedVariables false
set_option linter.unusedSimpArgs false
section
/-! Texts of whole numbers: groups of digits; which texts are one. -/
namespace Go.Txt
open Go.Lib

theorem decDigits_small {d : Nat} (h : d < 10) : decDigits d = [UInt8.ofNat (48 + d)] := by
  rw [decDigits, dif_pos h]
theorem decDigits_step {m d : Nat} (hm : 0 < m) (hd : d < 10) : decDigits (m * 10 + d) = decDigits m ++ [UInt8.ofNat (48 + d)] := by
  rw [decDigits, dif_neg (by omega)]
  have e1 : (m * 10 + d) / 10 = m := by omega
  have e2 : (m * 10 + d) % 10 = d := by omega
  rw [e1, e2]
/-- The last k digits. -/
def padk : Nat → Nat → List UInt8
  | 0, _ => []
  | k + 1, r => padk k (r / 10) ++ [UInt8.ofNat (48 + r % 10)]
theorem padk_length : ∀ k r, (padk k r).length = k
  | 0, _ => rfl
  | k + 1, r => by simp [padk, padk_length k]
theorem decDigits_padk {m : Nat} (hm : 0 < m) : ∀ (k r : Nat), r < 10 ^ k → decDigits (m * 10 ^ k + r) = decDigits m ++ padk k r
  | 0, r, h => by
    have : r = 0 := by simpa using h
    subst this
    simp [padk]
  | k + 1, r, h => by
    have e : m * 10 ^ (k + 1) + r = (m * 10 ^ k + r / 10) * 10 + r % 10 := by
      rw [Nat.pow_succ, ← Nat.mul_assoc]
      omega
    have h2 : r / 10 < 10 ^ k := by rw [Nat.pow_succ] at h; omega
    have hp : 0 < m * 10 ^ k + r / 10 := Nat.lt_of_lt_of_le (Nat.mul_pos hm (Nat.pow_pos (by decide))) (Nat.le_add_right _ _)
    rw [e, decDigits_step hp (Nat.mod_lt _ (by decide)), decDigits_padk hm k _ h2, padk, List.append_assoc]
theorem decDigits_length_pos (r : Nat) : 0 < (decDigits r).length := List.length_pos_iff.2 (decDigits_ne r)
theorem decDigits_length_succ {r : Nat} (h : 10 ≤ r) : (decDigits r).length = (decDigits (r / 10)).length + 1 := by
  rw [decDigits, dif_neg (by omega)]
  simp
theorem padk_eq : ∀ (k r : Nat), r < 10 ^ (k + 1) → (decDigits r).length ≤ k + 1 ∧ padk (k + 1) r = List.replicate (k + 1 - (decDigits r).length) 48 ++ decDigits r
  | 0, r, h => by
    have h' : r < 10 := by simpa using h
    rw [decDigits_small h']
    refine ⟨by simp, ?_⟩
    simp [padk, Nat.mod_eq_of_lt h']
  | k + 1, r, h => by
    by_cases h10 : r < 10
    · rw [decDigits_small h10]
      refine ⟨by simp, ?_⟩
      have h0 := (padk_eq k 0 (Nat.pow_pos (by decide))).2
      rw [decDigits_small (by decide : 0 < 10)] at h0
      rw [padk, Nat.div_eq_of_lt h10, Nat.mod_eq_of_lt h10, h0]
      have e : (List.replicate (k + 1 - [UInt8.ofNat (48 + 0)].length) 48 ++ [UInt8.ofNat (48 + 0)] : List UInt8) = List.replicate (k + 1) 48 := by
        rw [List.replicate_succ']
        simp
      rw [e]
      simp
    · have h2 : r / 10 < 10 ^ (k + 1) := by rw [Nat.pow_succ] at h; omega
      obtain ⟨i1, i2⟩ := padk_eq k (r / 10) h2
      have hl := decDigits_length_succ (r := r) (by omega)
      refine ⟨by omega, ?_⟩
      rw [padk, i2, hl]
      have e : decDigits r = decDigits (r / 10) ++ [UInt8.ofNat (48 + r % 10)] := by
        conv => lhs; rw [decDigits, dif_neg h10]
      rw [e, show k + 1 + 1 - ((decDigits (r / 10)).length + 1) = k + 1 - (decDigits (r / 10)).length by omega, List.append_assoc]
/-- A text without a 0 in front spells its value. -/
theorem decDigits_decVal (l : List UInt8) : (∀ c ∈ l, isDig c) → l ≠ [] → (l.head? = some 48 → l = [48]) → decDigits (decVal l) = l := by
  generalize hn : l.length = n
  induction n generalizing l with
  | zero => intro _ h; exact absurd (List.length_eq_zero_iff.1 hn) h
  | succ n ih =>
    intro hd hne h0
    obtain ⟨k, c, rfl⟩ : ∃ k c, l = k ++ [c] := ⟨l.dropLast, l.getLast hne, (List.dropLast_concat_getLast hne).symm⟩
    have hc := hd c (by simp)
    have hc1 := hc.1; have hc2 := hc.2
    have hcv : decVal [c] = c.toNat - 48 := by simp [decVal]
    have hcd : UInt8.ofNat (48 + (c.toNat - 48)) = c := by
      apply UInt8.toNat_inj.1
      rw [UInt8.toNat_ofNat']
      omega
    rw [decVal_append, hcv]
    simp only [List.length_cons, List.length_nil, Nat.zero_add, Nat.pow_one]
    by_cases hk : k = []
    · subst hk
      simp only [decVal, List.foldl_nil, Nat.zero_mul, Nat.zero_add, List.nil_append]
      rw [decDigits_small (by omega), hcd]
    · have hkl : k.length = n := by simpa using hn
      have hhd : (k ++ [c]).head? = k.head? := by
        cases k with
        | nil => exact absurd rfl hk
        | cons a b => rfl
      have hk0 : k.head? ≠ some 48 := by
        intro e
        have := h0 (by rw [hhd]; exact e)
        have := congrArg List.length this
        simp at this
        exact hk this
      have hih := ih k hkl (fun x hx => hd x (List.mem_append_left _ hx)) hk (fun e => absurd e hk0)
      have hpos : 0 < decVal k := by
        rcases Nat.eq_zero_or_pos (decVal k) with h | h
        · rw [h] at hih
          rw [← hih] at hk0
          exact absurd (by rw [decDigits_small (by decide)]; rfl) hk0
        · exact h
      rw [decDigits_step hpos (by omega), hih, hcd]
theorem decDigits_head48 (u : Nat) (h : (decDigits u).head? = some 48) : decDigits u = [48] := by
  have key : ∀ u, 0 < u → (decDigits u).head? ≠ some 48 := by
    intro u
    induction u using Nat.strongRecOn with
    | _ u ih =>
      intro hu
      by_cases h10 : u < 10
      · rw [decDigits_small h10]
        intro e
        simp only [List.head?_cons, Option.some.injEq] at e
        have := congrArg UInt8.toNat e
        rw [UInt8.toNat_ofNat'] at this
        simp at this
        omega
      · have e : decDigits u = decDigits (u / 10) ++ [UInt8.ofNat (48 + u % 10)] := by
          conv => lhs; rw [decDigits, dif_neg h10]
        rw [e]
        have hne := decDigits_ne (u / 10)
        have := ih (u / 10) (by omega) (by omega)
        cases hq : decDigits (u / 10) with
        | nil => exact absurd hq hne
        | cons a b => rw [hq] at this; exact this
  rcases Nat.eq_zero_or_pos u with e | e
  · subst e; rw [decDigits_small (by decide)]; rfl
  · exact absurd h (key u e)

/-- What whole.Check asks of a text. -/
def okW (a : List UInt8) : Prop :=
  trimPrefix a [45] ≠ [] ∧ (trimPrefix a [45]).length ≤ 600 ∧ (∀ c ∈ trimPrefix a [45], isDig c) ∧ ¬ ((trimPrefix a [45]).head? = some 48 ∧ (1 < (trimPrefix a [45]).length ∨ 1 < a.length))
theorem itoa_inj {a b : Int} (h : itoa a = itoa b) : a = b := by
  have key : ∀ z : Int, (if (itoa z).head? = some 45 then -(decVal ((itoa z).drop 1) : Int) else (decVal (itoa z) : Int)) = z := by
    intro z
    unfold itoa
    by_cases hz : z < 0
    · rw [if_pos hz]
      simp [decVal_decDigits]
      omega
    · rw [if_neg hz]
      have hd := decDigits_dig z.toNat
      rw [if_neg, decVal_decDigits]
      · omega
      · intro e
        cases hq : decDigits z.toNat with
        | nil => exact absurd hq (decDigits_ne _)
        | cons c r =>
          rw [hq] at e
          simp only [List.head?_cons, Option.some.injEq] at e
          subst e
          have := hd 45 (by rw [hq]; exact List.mem_cons_self ..)
          unfold isDig at this
          simp at this
  rw [← key a, h, key b]
theorem trim_text (z : Int) : trimPrefix (itoa z) [45] = decDigits z.natAbs := by
  unfold itoa
  by_cases h : z < 0
  · rw [if_pos h]
    simp [trimPrefix, hasPrefix]
  · rw [if_neg h]
    have e : z.toNat = z.natAbs := by omega
    rw [e]
    cases hq : decDigits z.natAbs with
    | nil => exact absurd hq (decDigits_ne _)
    | cons c r =>
      have h2 := decDigits_dig z.natAbs c (by rw [hq]; exact List.mem_cons_self ..)
      have : ¬ (45 : UInt8) = c := by rintro rfl; unfold isDig at h2; simp at h2
      simp [trimPrefix, hasPrefix, this]
theorem okW_iff (a : List UInt8) : okW a ↔ ∃ z : Int, a = itoa z ∧ (decDigits z.natAbs).length ≤ 600 := by
  constructor
  · rintro ⟨h1, h2, h3, h4⟩
    by_cases hm : hasPrefix a [45]
    · obtain ⟨r, rfl⟩ : ∃ r, a = 45 :: r := by
        cases a with
        | nil => simp [hasPrefix] at hm
        | cons c r =>
          simp [hasPrefix] at hm
          exact ⟨r, by rw [← hm]⟩
      have et : trimPrefix (45 :: r) [45] = r := by simp [trimPrefix, hasPrefix]
      rw [et] at h1 h2 h3 h4
      have h0 : r.head? ≠ some 48 := fun e => h4 ⟨e, .inr (by
        have := List.length_pos_iff.2 h1
        simp; omega)⟩
      have hv := decDigits_decVal r h3 h1 (fun e => absurd e h0)
      have hpos : 0 < decVal r := by
        rcases Nat.eq_zero_or_pos (decVal r) with h | h
        · rw [h] at hv
          rw [← hv] at h0
          exact absurd (by rw [decDigits_small (by decide)]; rfl) h0
        · exact h
      refine ⟨-(decVal r : Int), ?_, ?_⟩
      · unfold itoa
        rw [if_pos (by omega), Int.natAbs_neg, Int.natAbs_natCast, hv]
      · rw [Int.natAbs_neg, Int.natAbs_natCast, hv]
        exact h2
    · have et : trimPrefix a [45] = a := by simp [trimPrefix, hm]
      rw [et] at h1 h2 h3 h4
      have hv := decDigits_decVal a h3 h1 (fun e => by
        have : ¬ 1 < a.length := fun h => h4 ⟨e, .inl h⟩
        cases a with
        | nil => exact absurd rfl h1
        | cons c r =>
          simp at this
          subst this
          simpa using e)
      refine ⟨(decVal a : Int), ?_, ?_⟩
      · unfold itoa
        rw [if_neg (by omega), Int.toNat_natCast, hv]
      · rw [Int.natAbs_natCast, hv]
        exact h2
  · rintro ⟨z, rfl, h⟩
    refine ⟨?_, ?_, ?_, ?_⟩
    · rw [trim_text]; exact decDigits_ne _
    · rw [trim_text]; exact h
    · rw [trim_text]; exact decDigits_dig _
    · rw [trim_text]
      rintro ⟨e, k⟩
      have e1 := decDigits_head48 _ e
      rw [e1] at k
      have e0 : z.natAbs = 0 := by
        have := decVal_decDigits z.natAbs
        rw [e1] at this
        simpa [decVal] using this.symm
      have : z = 0 := by omega
      subst this
      rcases k with k | k
      · simp at k
      · have : (itoa 0).length = 1 := by unfold itoa; rw [if_neg (by decide)]; rw [show (0 : Int).toNat = 0 from rfl, decDigits_small (by decide)]; rfl
        omega
end Go.Txt
end
