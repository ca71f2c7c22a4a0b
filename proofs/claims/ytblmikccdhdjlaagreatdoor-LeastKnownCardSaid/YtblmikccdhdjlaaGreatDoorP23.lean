/- A part of the proof: the texts XElim, XSolve. -/
import Derived.Test.YtblmikccdhdjlaaGreatDoorP22
set_option linter.unusedVariables false
set_option linter.unusedSimpArgs false
section
/- Elimination with whole numbers all the way (every quotient is exact), and elimination with fractions: the same steps. Plain Lean. -/
namespace Lin

/-- The first number from i on, of d numbers, that has p. -/
def findFrom (p : Nat → Bool) : Nat → Nat → Option Nat
  | 0, _ => none
  | d + 1, i => if p i then some i else findFrom p d (i + 1)

theorem findFrom_some {p : Nat → Bool} : ∀ {d i k : Nat}, findFrom p d i = some k → i ≤ k ∧ k < i + d ∧ p k = true ∧ ∀ x, i ≤ x → x < k → p x = false := by
  intro d
  induction d with
  | zero => intro i k h; cases h
  | succ d ih =>
    intro i k h
    unfold findFrom at h
    by_cases hp : p i = true
    · rw [if_pos hp] at h
      cases h
      exact ⟨Nat.le_refl _, by omega, hp, fun x h1 h2 => by omega⟩
    · rw [if_neg hp] at h
      obtain ⟨h1, h2, h3, h4⟩ := ih h
      refine ⟨by omega, by omega, h3, fun x hx hk => ?_⟩
      by_cases e : x = i
      · subst e; simpa using hp
      · exact h4 x (by omega) hk

theorem findFrom_none {p : Nat → Bool} : ∀ {d i : Nat}, findFrom p d i = none → ∀ x, i ≤ x → x < i + d → p x = false := by
  intro d
  induction d with
  | zero => intro i _ x h1 h2; omega
  | succ d ih =>
    intro i h x h1 h2
    unfold findFrom at h
    by_cases hp : p i = true
    · rw [if_pos hp] at h; cases h
    · rw [if_neg hp] at h
      by_cases e : x = i
      · subst e; simpa using hp
      · exact ih h x (by omega) (by omega)

theorem findFrom_congr {p q : Nat → Bool} : ∀ {d i : Nat}, (∀ x, i ≤ x → x < i + d → p x = q x) → findFrom p d i = findFrom q d i := by
  intro d
  induction d with
  | zero => intro i _; rfl
  | succ d ih =>
    intro i h
    unfold findFrom
    rw [h i (by omega) (by omega), ih fun x h1 h2 => h x (by omega) (by omega)]

def swapR {α : Type} (E : Nat → α) (i k : Nat) : Nat → α := fun q => if q = i then E k else if q = k then E i else E q

/-- The step with the pivot in row r and column j. -/
def stepE (E : Nat → Nat → Int) (r j : Nat) (last : Int) : Nat → Nat → Int := fun k c =>
  if r < k ∧ j ≤ c then (E k c * E r j - E k j * E r c) / last else E k c

structure PS where
  E : Nat → Nat → Int
  last : Int
  steps : List Nat

def colP (m : Nat) (s : PS) (j : Nat) : PS :=
  match findFrom (fun i => decide (s.E i j ≠ 0)) (m - s.steps.length) s.steps.length with
  | none => s
  | some i => ⟨stepE (swapR s.E i s.steps.length) s.steps.length j s.last, swapR s.E i s.steps.length s.steps.length j, s.steps ++ [j]⟩

def runP (m : Nat) (M : Nat → Nat → Int) : Nat → PS
  | 0 => ⟨M, 1, []⟩
  | j + 1 => colP m (runP m M j) j

structure RS where
  R : Nat → Nat → Rat
  steps : List Nat

/-- The reference's step: the pivot's row is divided, and the column emptied in all others. -/
def stepR (R : Nat → Nat → Rat) (r j : Nat) : Nat → Nat → Rat := fun i c =>
  if i = r then R r c / R r j else R i c - R i j * (R r c / R r j)

def colR (m : Nat) (s : RS) (j : Nat) : RS :=
  match findFrom (fun i => decide (s.R i j ≠ 0)) (m - s.steps.length) s.steps.length with
  | none => s
  | some i => ⟨stepR (swapR s.R s.steps.length i) s.steps.length j, s.steps ++ [j]⟩

def runR (m : Nat) (M : Nat → Nat → Rat) : Nat → RS
  | 0 => ⟨M, []⟩
  | j + 1 => colR m (runR m M j) j

/-- What holds of the fractions behind some columns, r of which were steps: S are the rows as fractions would have them, A the rows at the start in their new order. -/
structure Inv (m j r : Nat) (M : Nat → Nat → Int) (S : Nat → Nat → Rat) (A : Nat → Nat → Int) (l : Nat → Rat) (co : Nat → Nat → Rat) (cs : Nat → Nat) : Prop where
  len : r ≤ m
  up : ∀ p q, p < q → q < r → cs p < cs q
  lt : ∀ p, p < r → cs p < j
  l0 : l 0 = 1
  l1 : ∀ q, q < r → l (q + 1) = l q * S q (cs q)
  ln : ∀ q, q ≤ r → l q ≠ 0
  low : ∀ q c, q < m → S q c = (A q c : Rat) + rsum (min q r) (fun p => co q p * S p c)
  z : ∀ q p, q < m → p < min q r → S q (cs p) = 0
  zz : ∀ q c, r ≤ q → q < m → c < j → S q c = 0
  zl : ∀ q c, q < r → c < cs q → S q c = 0
  perm : ∀ i, i < m → ∃ k, k < m ∧ A i = M k
  perm' : ∀ k, k < m → ∃ i, i < m ∧ A i = M k

/-- .. and the whole numbers are those, times the last pivot. -/
structure Fits (m j : Nat) (M : Nat → Nat → Int) (s : PS) (S : Nat → Nat → Rat) (A : Nat → Nat → Int) (l : Nat → Rat) (co : Nat → Nat → Rat) (cs : Nat → Nat) : Prop where
  inv : Inv m j s.steps.length M S A l co cs
  st : s.steps = (List.range s.steps.length).map cs
  e : ∀ q c, q < m → (s.E q c : Rat) = l (min q s.steps.length) * S q c
  last : (s.last : Rat) = l s.steps.length

theorem Fits.start (m : Nat) (M : Nat → Nat → Int) : Fits m 0 M ⟨M, 1, []⟩ (fun i c => (M i c : Rat)) M (fun _ => 1) (fun _ _ => 0) (fun _ => 0) where
  inv := {
    len := Nat.zero_le _
    up := fun p q _ h => by simp at h
    lt := fun p h => by simp at h
    l0 := rfl
    l1 := fun q h => by simp at h
    ln := fun q _ => by simp
    low := fun q c _ => by simp only [List.length_nil, Nat.min_zero, rsum]; grind
    z := fun q p _ h => by simp at h
    zz := fun q c _ _ h => by omega
    zl := fun q c h => by simp at h
    perm := fun i h => ⟨i, h, rfl⟩
    perm' := fun i h => ⟨i, h, rfl⟩ }
  st := rfl
  e := fun q c _ => by simp
  last := by simp

section
variable {m j r : Nat} {M : Nat → Nat → Int} {S : Nat → Nat → Rat} {A : Nat → Nat → Int} {l : Nat → Rat} {co : Nat → Nat → Rat} {cs : Nat → Nat}

theorem Inv.prod (h : Inv m j r M S A l co cs) : ∀ k, k ≤ r → rprod k (fun q => S q (cs q)) = l k := by
  intro k
  induction k with
  | zero => intro _; rw [h.l0]; rfl
  | succ k ih =>
    intro hk
    simp only [rprod]
    rw [ih (by omega), h.l1 k (by omega)]

/-- The determinant of the pivots' rows and one more row, at the pivots' columns and one more column. -/
theorem Inv.minor (h : Inv m j r M S A l co cs) (k c : Nat) (hk : r ≤ k) (hm : k < m) : Whole (l r * S k c) := by
  let rw_ : Nat → Nat := fun a => if a < r then a else k
  let cl : Nat → Nat := fun b => if b < r then cs b else c
  let N : Nat → Nat → Rat := fun a b => (A (rw_ a) (cl b) : Rat)
  let T : Nat → Nat → Rat := fun a b => S (rw_ a) (cl b)
  have h1 : det (r + 1) N = det (r + 1) T := by
    refine det_lower _ N T (fun q p => co (rw_ q) p) fun q hq b => ?_
    have hr : rw_ q < m := by have := h.len; simp only [rw_]; split <;> omega
    show S (rw_ q) (cl b) = (A (rw_ q) (cl b) : Rat) + rsum q (fun p => co (rw_ q) p * S (rw_ p) (cl b))
    rw [h.low (rw_ q) (cl b) hr]
    have e : min (rw_ q) r = q := by simp only [rw_]; split <;> omega
    rw [e]
    congr 1
    refine rsum_congr fun p hp => ?_
    have e2 : rw_ p = p := by simp only [rw_]; rw [if_pos (by omega)]
    rw [e2]
  have h2 : det (r + 1) T = l r * S k c := by
    rw [det_triangle _ T]
    · have e1 : rprod (r + 1) (fun i => T i i) = rprod r (fun i => T i i) * T r r := rfl
      have e2 : ∀ n, n ≤ r → rprod n (fun i => T i i) = rprod n (fun q => S q (cs q)) := by
        intro n
        induction n with
        | zero => intro _; rfl
        | succ n ih =>
          intro hn
          simp only [rprod]
          rw [ih (by omega)]
          simp only [T, rw_, cl]
          rw [if_pos (show n < r by omega), if_pos (show n < r by omega)]
      rw [e1, e2 _ (Nat.le_refl _), h.prod _ (Nat.le_refl _)]
      simp only [T, rw_, cl]
      rw [if_neg (by omega), if_neg (by omega)]
    · intro a b ha hb
      have := h.len
      simp only [T, rw_, cl]
      rw [if_pos (show b < r by omega)]
      split
      · exact h.z a b (by omega) (by omega)
      · exact h.z k b hm (by omega)
  rw [← h2, ← h1]
  exact Whole.det _ _ fun a b _ _ => ⟨A (rw_ a) (cl b), rfl⟩

theorem swapR_at {α : Type} (E : Nat → α) (i r : Nat) : swapR E i r r = E i := by
  unfold swapR
  by_cases h : r = i
  · rw [if_pos h, h]
  · rw [if_neg h, if_pos rfl]
theorem swapR_lt {α : Type} (E : Nat → α) {i r q : Nat} (hi : r ≤ i) (hq : q < r) : swapR E i r q = E q := by
  unfold swapR
  rw [if_neg (by omega), if_neg (by omega)]
theorem swapR_ge {α : Type} (E : Nat → α) {i r m q : Nat} (hi : r ≤ i) (him : i < m) (hr : r ≤ q) (hq : q < m) : ∃ k, r ≤ k ∧ k < m ∧ swapR E i r q = E k := by
  unfold swapR
  split
  · exact ⟨r, by omega, by omega, rfl⟩
  · split
    · exact ⟨i, by omega, by omega, rfl⟩
    · exact ⟨q, hr, hq, rfl⟩

theorem Inv.none (h : Inv m j r M S A l co cs) (hz : ∀ q, r ≤ q → q < m → S q j = 0) : Inv m (j + 1) r M S A l co cs :=
  { h with
    lt := fun p hp => by have := h.lt p hp; omega
    zz := fun q c h1 h2 h3 => by
      by_cases e : c = j
      · subst e; exact hz q h1 h2
      · exact h.zz q c h1 h2 (by omega) }

/-- Two rows that are no pivots change places. -/
theorem Inv.swap (h : Inv m j r M S A l co cs) {i : Nat} (hi : r ≤ i) (him : i < m) : Inv m j r M (swapR S i r) (swapR A i r) l (swapR co i r) cs where
  len := h.len
  up := h.up
  lt := h.lt
  l0 := h.l0
  l1 := fun q hq => by rw [swapR_lt S hi hq]; exact h.l1 q hq
  ln := h.ln
  low := fun q c hq => by
    have hs : ∀ (x y : Nat → Rat) (n : Nat), n ≤ r → rsum n (fun p => x p * swapR S i r p c) = rsum n (fun p => x p * S p c) := fun x y n hn =>
      rsum_congr fun p hp => by rw [swapR_lt S hi (by omega)]
    rw [hs _ (fun _ => 0) _ (Nat.min_le_right _ _)]
    by_cases hl : q < r
    · rw [swapR_lt S hi hl, swapR_lt A hi hl, swapR_lt co hi hl]
      exact h.low q c hq
    · have key : ∀ k, r ≤ k → k < m → S k c = (A k c : Rat) + rsum (min q r) (fun p => co k p * S p c) := fun k h1 h2 => by
        rw [h.low k c h2, Nat.min_eq_right h1, Nat.min_eq_right (by omega)]
      unfold swapR
      split
      · exact key r (by omega) (by omega)
      · split
        · exact key i hi him
        · exact key q (by omega) hq
  z := fun q p hq hp => by
    by_cases hl : q < r
    · rw [swapR_lt S hi hl]; exact h.z q p hq hp
    · obtain ⟨k, h1, h2, h3⟩ := swapR_ge S hi him (q := q) (by omega) hq
      rw [h3]
      exact h.z k p h2 (by omega)
  zz := fun q c hr hq hc => by
    obtain ⟨k, h1, h2, h3⟩ := swapR_ge S hi him (q := q) hr hq
    rw [h3]
    exact h.zz k c h1 h2 hc
  zl := fun q c hq hc => by rw [swapR_lt S hi hq]; exact h.zl q c hq hc
  perm := fun q hq => by
    unfold swapR
    split
    · exact h.perm r (by omega)
    · split
      · exact h.perm i him
      · exact h.perm q hq
  perm' := fun k hk => by
    obtain ⟨q, hq, e⟩ := h.perm' k hk
    by_cases e1 : q = i
    · subst e1
      refine ⟨r, by omega, ?_⟩
      unfold swapR
      by_cases e2 : r = q
      · subst e2; rw [if_pos rfl]; exact e
      · rw [if_neg e2, if_pos rfl]; exact e
    · by_cases e2 : q = r
      · subst e2
        refine ⟨i, him, ?_⟩
        unfold swapR
        rw [if_pos rfl]; exact e
      · refine ⟨q, hq, ?_⟩
        unfold swapR
        rw [if_neg e1, if_neg e2]; exact e

/-- The step as fractions have it. -/
def stepS (S : Nat → Nat → Rat) (r j : Nat) : Nat → Nat → Rat := fun k c => if r < k then S k c - S k j / S r j * S r c else S k c

theorem Inv.step (h : Inv m j r M S A l co cs) (hr : r < m) (hp : S r j ≠ 0) :
    Inv m (j + 1) (r + 1) M (stepS S r j) A (fun q => if q ≤ r then l q else l r * S r j) (fun k p => if r < k ∧ p = r then - (S k j / S r j) else co k p) (fun q => if q < r then cs q else j) where
  len := hr
  up := fun p q h1 h2 => by
    by_cases e : q < r
    · rw [if_pos (by omega), if_pos e]; exact h.up p q h1 e
    · rw [if_pos (by omega), if_neg e]; exact h.lt p (by omega)
  lt := fun p hp => by
    by_cases e : p < r
    · rw [if_pos e]; have := h.lt p e; omega
    · rw [if_neg e]; omega
  l0 := by rw [if_pos (Nat.zero_le _)]; exact h.l0
  l1 := fun q hq => by
    by_cases e : q < r
    · rw [if_pos (by omega), if_pos (by omega), if_pos e]
      simp only [stepS]
      rw [if_neg (by omega)]
      exact h.l1 q e
    · have : q = r := by omega
      subst this
      rw [if_neg (by omega), if_pos (Nat.le_refl _), if_neg (by omega)]
      simp only [stepS]
      rw [if_neg (by omega)]
  ln := fun q hq => by
    by_cases e : q ≤ r
    · rw [if_pos e]; exact h.ln q e
    · rw [if_neg e]
      exact fun e2 => (Rat.mul_eq_zero.1 e2).elim (h.ln r (Nat.le_refl _)) hp
  low := fun q c hq => by
    have hs : ∀ (x : Nat → Rat) (n : Nat), n ≤ r + 1 → rsum n (fun p => x p * stepS S r j p c) = rsum n (fun p => x p * S p c) := fun x n hn =>
      rsum_congr fun p hp => by simp only [stepS]; rw [if_neg (by omega)]
    rw [hs _ _ (Nat.min_le_right _ _)]
    by_cases e : r < q
    · have h1 := h.low q c hq
      rw [Nat.min_eq_right (by omega)] at h1
      rw [Nat.min_eq_right (by omega)]
      simp only [rsum, stepS]
      rw [if_pos e, if_pos ⟨e, trivial⟩, h1]
      have : rsum r (fun p => (if r < q ∧ p = r then -(S q j / S r j) else co q p) * S p c) = rsum r (fun p => co q p * S p c) :=
        rsum_congr fun p hp => by rw [if_neg (by omega)]
      rw [this]
      grind
    · have h1 := h.low q c hq
      rw [Nat.min_eq_left (by omega)] at h1
      rw [Nat.min_eq_left (by omega)]
      simp only [stepS]
      rw [if_neg e, h1]
      congr 1
      exact rsum_congr fun p hp => by rw [if_neg (by omega)]
  z := fun q p hq hpq => by
    by_cases e : p < r
    · have ec : (if p < r then cs p else j) = cs p := if_pos e
      rw [ec]
      simp only [stepS]
      split
      · rw [h.z q p hq (by omega), h.z r p hr (by omega)]; grind
      · exact h.z q p hq (by omega)
    · have ec : (if p < r then cs p else j) = j := if_neg e
      have : p = r := by omega
      subst this
      rw [ec]
      have hq : p < q := by omega
      simp only [stepS, if_pos hq]
      grind
  zz := fun q c h1 h2 h3 => by
    simp only [stepS]
    rw [if_pos (by omega)]
    by_cases e : c = j
    · subst e; grind
    · rw [h.zz q c (by omega) h2 (by omega), h.zz r c (Nat.le_refl _) hr (by omega)]; grind
  zl := fun q c h1 h2 => by
    simp only [stepS]
    rw [if_neg (by omega)]
    by_cases e : q < r
    · rw [if_pos e] at h2; exact h.zl q c e h2
    · rw [if_neg e] at h2
      exact h.zz q c (by omega) (by omega) h2
  perm := h.perm
  perm' := h.perm'
end

theorem ratInt_inj {a b : Int} (h : (a : Rat) = (b : Rat)) : a = b := by exact_mod_cast h

/-- One column. -/
theorem Fits.col {m j : Nat} {M : Nat → Nat → Int} {s : PS} {S : Nat → Nat → Rat} {A : Nat → Nat → Int} {l : Nat → Rat} {co : Nat → Nat → Rat} {cs : Nat → Nat} (h : Fits m j M s S A l co cs) :
    ∃ S' A' l' co' cs', Fits m (j + 1) M (colP m s j) S' A' l' co' cs' ∧ ((findFrom (fun i => decide (s.E i j ≠ 0)) (m - s.steps.length) s.steps.length = none ∧ S' = S ∧ cs' = cs) ∨
      ∃ i, findFrom (fun i => decide (s.E i j ≠ 0)) (m - s.steps.length) s.steps.length = some i ∧ s.steps.length ≤ i ∧ i < m ∧ S' = stepS (swapR S i s.steps.length) s.steps.length j ∧
        (cs' = fun q => if q < s.steps.length then cs q else j) ∧ swapR S i s.steps.length s.steps.length j ≠ 0) := by
  have len := h.inv.len
  cases hf : findFrom (fun i => decide (s.E i j ≠ 0)) (m - s.steps.length) s.steps.length with
  | none =>
    have e : colP m s j = s := by unfold colP; rw [hf]
    rw [e]
    refine ⟨S, A, l, co, cs, ⟨h.inv.none fun q h1 h2 => ?_, h.st, h.e, h.last⟩, .inl ⟨rfl, rfl, rfl⟩⟩
    have := findFrom_none hf q h1 (by omega)
    have e0 : s.E q j = 0 := by simpa using this
    have e1 := h.e q j h2
    rw [e0, Nat.min_eq_right h1] at e1
    have hn := h.inv.ln _ (Nat.le_refl _)
    exact (Rat.mul_eq_zero.1 e1.symm).resolve_left hn
  | some i =>
    obtain ⟨hi, him', hp, _⟩ := findFrom_some hf
    have him : i < m := by omega
    clear him'
    have e : colP m s j = ⟨stepE (swapR s.E i s.steps.length) s.steps.length j s.last, swapR s.E i s.steps.length s.steps.length j, s.steps ++ [j]⟩ := by unfold colP; rw [hf]
    rw [e]
    generalize hr : s.steps.length = r at *
    have hrm : r < m := by omega
    have hS := h.inv
    rw [hr] at hS
    have hsw := hS.swap hi him
    have hE : ∀ q c, q < m → (swapR s.E i r q c : Rat) = l (min q r) * swapR S i r q c := by
      intro q c hq
      have he := fun k hk => h.e k c hk
      rw [hr] at he
      unfold swapR
      split
      · rename_i e1; subst e1; rw [he r hrm, Nat.min_self, Nat.min_eq_right hi]
      · split
        · rename_i e1; subst e1; rw [he i him, Nat.min_self, Nat.min_eq_right hi]
        · exact he q hq
    have hl : l r ≠ 0 := hS.ln r (Nat.le_refl _)
    have hpiv : swapR S i r r j ≠ 0 := by
      intro e0
      have := hE r j hrm
      rw [e0] at this
      rw [swapR_at] at this
      have h3 : s.E i j ≠ 0 := by simpa using hp
      apply h3
      apply ratInt_inj
      rw [this]
      grind
    have hst := hsw.step hrm hpiv
    refine ⟨_, _, _, _, _, ⟨by simpa [hr] using hst, ?_, ?_, ?_⟩, .inr ⟨i, rfl, hi, him, rfl, rfl, hpiv⟩⟩
    · simp only [List.length_append, List.length_cons, List.length_nil, Nat.zero_add]
      rw [List.range_succ, List.map_append, List.map_cons, List.map_nil, if_neg (by omega)]
      congr 1
      have := h.st
      rw [hr] at this
      rw [hr, this]
      refine List.map_congr_left fun q hq => ?_
      rw [if_pos (List.mem_range.1 hq)]
    · intro q c hq
      have hlast : (s.last : Rat) = l r := by rw [h.last, hr]
      simp only [List.length_append, List.length_cons, List.length_nil, Nat.zero_add]
      rw [hr]
      by_cases e1 : r < q
      · rw [Nat.min_eq_right (by omega), if_neg (by omega)]
        unfold stepE stepS
        rw [if_pos e1]
        by_cases e2 : j ≤ c
        · rw [if_pos ⟨e1, e2⟩]
          have hw : Whole ((if r + 1 ≤ r then l (r + 1) else l r * swapR S i r r j) * stepS (swapR S i r) r j q c) := hst.minor q c (by omega) hq
          rw [if_neg (by omega)] at hw
          obtain ⟨n, hn⟩ := hw
          unfold stepS at hn
          rw [if_pos e1] at hn
          rw [hn]
          have : swapR s.E i r q c * swapR s.E i r r j - swapR s.E i r q j * swapR s.E i r r c = s.last * n := by
            apply ratInt_inj
            rw [Rat.intCast_sub, Rat.intCast_mul, Rat.intCast_mul, Rat.intCast_mul, hE q c hq, hE r j hrm, hE q j hq, hE r c hrm, Nat.min_self, Nat.min_eq_right (by omega), hlast, ← hn]
            grind
          rw [this]
          have hl0 : s.last ≠ 0 := fun e0 => hl (by rw [← hlast, e0]; rfl)
          rw [Int.mul_ediv_cancel_left _ hl0]
        · rw [if_neg (by omega), hE q c hq, hsw.zz q c (by omega) hq (by omega), hsw.zz r c (Nat.le_refl _) hrm (by omega)]
          grind
      · rw [Nat.min_eq_left (by omega), if_pos (by omega)]
        unfold stepE stepS
        rw [if_neg (by omega), if_neg e1, hE q c hq, Nat.min_eq_left (by omega)]
    · simp only [List.length_append, List.length_cons, List.length_nil, Nat.zero_add]
      rw [hr, if_neg (by omega), hE r j hrm, Nat.min_self]

theorem Fits.run (m : Nat) (M : Nat → Nat → Int) (j : Nat) : ∃ S A l co cs, Fits m j M (runP m M j) S A l co cs := by
  induction j with
  | zero => exact ⟨_, _, _, _, _, Fits.start m M⟩
  | succ j ih =>
    obtain ⟨S, A, l, co, cs, h⟩ := ih
    obtain ⟨S', A', l', co', cs', h', _⟩ := h.col
    exact ⟨S', A', l', co', cs', h'⟩

/-- A linear function of a row. -/
def Linear (f : (Nat → Rat) → Rat) : Prop := ∀ (u v : Nat → Rat) (c : Rat), f (fun j => u j + c * v j) = f u + c * f v

theorem Linear.zero {f : (Nat → Rat) → Rat} (h : Linear f) : f (fun _ => 0) = 0 := by
  have := h (fun _ => 0) (fun _ => 0) 1
  have e : (fun _ : Nat => (0 : Rat) + 1 * 0) = fun _ => 0 := by funext; grind
  rw [e] at this
  grind
theorem Linear.scale {f : (Nat → Rat) → Rat} (h : Linear f) (c : Rat) (v : Nat → Rat) : f (fun j => c * v j) = c * f v := by
  have := h (fun _ => 0) v c
  have e : (fun j : Nat => (0 : Rat) + c * v j) = fun j => c * v j := by funext; grind
  rw [e, h.zero] at this
  grind
theorem Linear.sum {f : (Nat → Rat) → Rat} (h : Linear f) (n : Nat) (c : Nat → Rat) (V : Nat → Nat → Rat) : f (fun j => rsum n (fun p => c p * V p j)) = rsum n (fun p => c p * f (V p)) := by
  induction n with
  | zero => exact h.zero
  | succ n ih =>
    simp only [rsum]
    rw [h (fun j => rsum n (fun p => c p * V p j)) (V n) (c n), ih]

/-- Rows that are closed under sums and multiples. -/
structure Sub (P : (Nat → Rat) → Prop) : Prop where
  zero : P (fun _ => 0)
  add : ∀ (u v : Nat → Rat) (c : Rat), P u → P v → P (fun j => u j + c * v j)

theorem Sub.scale {P : (Nat → Rat) → Prop} (h : Sub P) (c : Rat) (v : Nat → Rat) (hv : P v) : P (fun j => c * v j) := by
  have := h.add (fun _ => 0) v c h.zero hv
  have e : (fun j : Nat => (0 : Rat) + c * v j) = fun j => c * v j := by funext; grind
  rwa [e] at this

theorem Sub.sum {P : (Nat → Rat) → Prop} (h : Sub P) (n : Nat) (c : Nat → Rat) (V : Nat → Nat → Rat) (hV : ∀ p, p < n → P (V p)) : P (fun j => rsum n (fun p => c p * V p j)) := by
  induction n with
  | zero => exact h.zero
  | succ n ih => exact h.add _ (V n) (c n) (ih fun p hp => hV p (by omega)) (hV n (by omega))

theorem Linear.sub {f : (Nat → Rat) → Rat} (h : Linear f) : Sub (fun v => f v = 0) where
  zero := h.zero
  add := fun u v c hu hv => by rw [h, hu, hv]; grind

/-- What holds of the reference's table behind some columns, beside the whole numbers'. -/
structure Beside (m j r : Nat) (a : Nat → Nat → Rat) (S : Nat → Nat → Rat) (cs : Nat → Nat) (R : Nat → Nat → Rat) : Prop where
  g : ∃ g : Nat → Rat, ∀ q, r ≤ q → q < m → g q ≠ 0 ∧ ∀ c, S q c = g q * R q c
  unit : ∀ q p, q < m → p < r → R q (cs p) = if q = p then 1 else 0
  zl : ∀ q c, q < r → c < cs q → R q c = 0
  zz : ∀ q c, r ≤ q → q < m → c < j → R q c = 0
  same : ∀ P, Sub P → ((∀ i, i < m → P (a i)) ↔ ∀ i, i < m → P (R i))

theorem Beside.start (m : Nat) (a : Nat → Nat → Rat) (M : Nat → Nat → Int) (f : Nat → Rat) (hf : ∀ i, i < m → f i ≠ 0 ∧ ∀ c, (M i c : Rat) = f i * a i c) :
    Beside m 0 0 a (fun i c => (M i c : Rat)) (fun _ => 0) a where
  g := ⟨f, fun q _ hq => hf q hq⟩
  unit := fun q p _ h => by omega
  zl := fun q c h => by omega
  zz := fun q c _ _ h => by omega
  same := fun f _ => Iff.rfl

theorem Beside.step {m j r : Nat} {a S : Nat → Nat → Rat} {cs : Nat → Nat} {R : Nat → Nat → Rat} {M : Nat → Nat → Int} {A : Nat → Nat → Int} {l : Nat → Rat} {co : Nat → Nat → Rat}
    (hI : Inv m j r M S A l co cs) (h : Beside m j r a S cs R) {i : Nat} (hi : r ≤ i) (him : i < m) (hp : swapR S i r r j ≠ 0) :
    Beside m (j + 1) (r + 1) a (stepS (swapR S i r) r j) (fun q => if q < r then cs q else j) (stepR (swapR R r i) r j) := by
  obtain ⟨g, hg⟩ := h.g
  have hrm : r < m := by omega
  have hs : ∀ q, swapR R r i q = swapR R i r q := by
    intro q
    unfold swapR
    by_cases e1 : q = r
    · rw [if_pos e1]
      by_cases e2 : q = i
      · rw [if_pos e2, ← e1, ← e2]
      · rw [if_neg e2, if_pos e1]
    · rw [if_neg e1]
      by_cases e2 : q = i
      · rw [if_pos e2, if_pos e2]
      · rw [if_neg e2, if_neg e2, if_neg e1]
  have hs' : swapR R r i = swapR R i r := funext hs
  rw [hs']
  have hg2 : ∀ q, r ≤ q → q < m → swapR g i r q ≠ 0 ∧ ∀ c, swapR S i r q c = swapR g i r q * swapR R i r q c := by
    intro q h1 h2
    unfold swapR
    split
    · exact hg r (Nat.le_refl _) hrm
    · split
      · exact hg i hi him
      · exact hg q h1 h2
  have hpR : swapR R i r r j ≠ 0 := by
    intro e
    have := (hg2 r (Nat.le_refl _) hrm).2 j
    rw [e] at this
    apply hp
    rw [this]
    grind
  have hun : ∀ q p, q < m → p < r → swapR R i r q (cs p) = if q = p then 1 else 0 := by
    intro q p hq hp
    by_cases hl : q < r
    · rw [swapR_lt R hi hl]; exact h.unit q p hq hp
    · obtain ⟨k, h1, h2, h3⟩ := swapR_ge R hi him (q := q) (by omega) hq
      rw [h3, h.unit k p h2 hp, if_neg (by omega), if_neg (by omega)]
  have hz : ∀ c, c < j → swapR R i r r c = 0 := by
    intro c hc
    obtain ⟨k, h1, h2, h3⟩ := swapR_ge R hi him (q := r) (Nat.le_refl _) hrm
    rw [h3]
    have h4 := hI.zz k c h1 h2 hc
    have h5 := (hg k h1 h2).2 c
    rw [h4] at h5
    exact (Rat.mul_eq_zero.1 h5.symm).resolve_left (hg k h1 h2).1
  refine ⟨⟨swapR g i r, fun q h1 h2 => ⟨(hg2 q (by omega) h2).1, fun c => ?_⟩⟩, ?_, ?_, ?_, ?_⟩
  · simp only [stepS, stepR]
    rw [if_pos (by omega), if_neg (by omega), (hg2 q (by omega) h2).2 c, (hg2 q (by omega) h2).2 j, (hg2 r (Nat.le_refl _) hrm).2 j, (hg2 r (Nat.le_refl _) hrm).2 c]
    have := (hg2 r (Nat.le_refl _) hrm).1
    grind
  · intro q p hq hpr
    by_cases e : p < r
    · have ec : (if p < r then cs p else j) = cs p := if_pos e
      rw [ec]
      have hrp : swapR R i r r (cs p) = 0 := by rw [hun r p hrm e, if_neg (by omega)]
      simp only [stepR]
      by_cases e1 : q = r
      · subst e1
        rw [if_pos rfl, hrp, if_neg (by omega)]
        grind
      · rw [if_neg e1, hrp, hun q p hq e]
        grind
    · have ec : (if p < r then cs p else j) = j := if_neg e
      have : p = r := by omega
      subst this
      rw [ec]
      simp only [stepR]
      by_cases e1 : q = p
      · subst e1
        rw [if_pos rfl, if_pos rfl]
        grind
      · rw [if_neg e1, if_neg e1]
        grind
  · intro q c hq hc
    simp only [stepR]
    by_cases e : q < r
    · rw [if_pos e] at hc
      rw [if_neg (by omega), swapR_lt R hi e, h.zl q c e hc]
      have := hI.lt q e
      rw [hz c (by omega)]
      grind
    · have : q = r := by omega
      subst this
      rw [if_neg (by omega)] at hc
      rw [if_pos rfl, hz c hc]
      grind
  · intro q c h1 h2 h3
    simp only [stepR]
    rw [if_neg (by omega)]
    by_cases e : c = j
    · subst e; grind
    · rw [hz c (by omega)]
      obtain ⟨k, k1, k2, k3⟩ := swapR_ge R hi him (q := q) (by omega) h2
      rw [k3, h.zz k c k1 k2 (by omega)]
      grind
  · intro P hP
    rw [h.same P hP]
    have sw : (∀ q, q < m → P (R q)) ↔ ∀ q, q < m → P (swapR R i r q) := by
      constructor
      · intro h q hq
        unfold swapR
        split
        · exact h r hrm
        · split
          · exact h i him
          · exact h q hq
      · intro h q hq
        have hir := swapR_at R i r
        by_cases e1 : q = i
        · subst e1; rw [← hir]; exact h r hrm
        · by_cases e2 : q = r
          · subst e2
            have := h i him
            unfold swapR at this
            rwa [if_pos rfl] at this
          · have := h q hq
            unfold swapR at this
            rwa [if_neg e1, if_neg e2] at this
    rw [sw]
    have kr : stepR (swapR R i r) r j r = fun c => (1 / swapR R i r r j) * swapR R i r r c := by
      funext c; simp only [stepR]; rw [if_pos trivial]; grind
    constructor
    · intro h q hq
      by_cases e : q = r
      · rw [e, kr]
        exact hP.scale _ _ (h r hrm)
      · have : stepR (swapR R i r) r j q = fun c => swapR R i r q c + (- (swapR R i r q j / swapR R i r r j)) * swapR R i r r c := by
          funext c; simp only [stepR]; rw [if_neg e]; grind
        rw [this]
        exact hP.add _ _ _ (h q hq) (h r hrm)
    · intro h
      have hr0 : P (swapR R i r r) := by
        have := hP.scale (swapR R i r r j) _ (h r hrm)
        rw [kr] at this
        have e : (fun c => swapR R i r r j * ((1 / swapR R i r r j) * swapR R i r r c)) = swapR R i r r := by funext c; grind
        rwa [e] at this
      intro q hq
      by_cases e : q = r
      · rw [e]; exact hr0
      · have := hP.add _ _ (swapR R i r q j / swapR R i r r j) (h q hq) hr0
        have e2 : (fun c => stepR (swapR R i r) r j q c + swapR R i r q j / swapR R i r r j * swapR R i r r c) = swapR R i r q := by
          funext c; simp only [stepR]; rw [if_neg e]; grind
        rwa [e2] at this

/-- Both eliminations, side by side: the same columns. -/
theorem both (m : Nat) (a : Nat → Nat → Rat) (M : Nat → Nat → Int) (f : Nat → Rat) (hf : ∀ i, i < m → f i ≠ 0 ∧ ∀ c, (M i c : Rat) = f i * a i c) (j : Nat) :
    (runR m a j).steps = (runP m M j).steps ∧ ∃ S A l co cs, Fits m j M (runP m M j) S A l co cs ∧ Beside m j (runP m M j).steps.length a S cs (runR m a j).R := by
  induction j with
  | zero => exact ⟨rfl, _, _, _, _, _, Fits.start m M, Beside.start m a M f hf⟩
  | succ j ih =>
    obtain ⟨hst, S, A, l, co, cs, hF, hB⟩ := ih
    obtain ⟨S', A', l', co', cs', hF', hc⟩ := hF.col
    obtain ⟨g, hg⟩ := hB.g
    have hl := hF.inv.ln _ (Nat.le_refl _)
    have hcong : findFrom (fun i => decide ((runR m a j).R i j ≠ 0)) (m - (runP m M j).steps.length) (runP m M j).steps.length = findFrom (fun i => decide ((runP m M j).E i j ≠ 0)) (m - (runP m M j).steps.length) (runP m M j).steps.length := by
      refine findFrom_congr fun x h1 h2 => ?_
      have hx : x < m := by omega
      have e := hF.e x j hx
      rw [Nat.min_eq_right h1, (hg x h1 hx).2 j] at e
      have hg0 := (hg x h1 hx).1
      rw [decide_eq_decide]
      constructor
      · intro h1 h2
        apply h1
        rw [h2] at e
        rcases Rat.mul_eq_zero.1 e.symm with h3 | h3
        · exact absurd h3 hl
        · exact (Rat.mul_eq_zero.1 h3).resolve_left hg0
      · intro h1 h2
        apply h1
        apply ratInt_inj
        rw [e, h2]
        grind
    show (colR m (runR m a j) j).steps = (colP m (runP m M j) j).steps ∧ ∃ S A l co cs, Fits m (j + 1) M (colP m (runP m M j) j) S A l co cs ∧ Beside m (j + 1) (colP m (runP m M j) j).steps.length a S cs (colR m (runR m a j) j).R
    rcases hc with ⟨hn, rfl, rfl⟩ | ⟨i, hs, hi, him, rfl, rfl, hp⟩
    · have e1 : colP m (runP m M j) j = runP m M j := by unfold colP; rw [hn]
      have e2 : colR m (runR m a j) j = runR m a j := by unfold colR; rw [hst, hcong, hn]
      rw [e1, e2]
      rw [e1] at hF'
      refine ⟨hst, _, _, _, _, _, hF', ⟨hB.g, hB.unit, hB.zl, fun q c h1 h2 h3 => ?_, hB.same⟩⟩
      have h4 := hF'.inv.zz q c h1 h2 h3
      rw [(hg q h1 h2).2 c] at h4
      exact (Rat.mul_eq_zero.1 h4).resolve_left (hg q h1 h2).1
    · have e1 : (colP m (runP m M j) j).steps = (runP m M j).steps ++ [j] := by unfold colP; rw [hs]
      have e2 : colR m (runR m a j) j = ⟨stepR (swapR (runR m a j).R (runR m a j).steps.length i) (runR m a j).steps.length j, (runR m a j).steps ++ [j]⟩ := by unfold colR; rw [hst, hcong, hs]
      refine ⟨by rw [e1, e2, hst], _, _, _, _, _, hF', ?_⟩
      rw [e1, e2, hst, List.length_append, List.length_singleton]
      exact hB.step hF.inv hi him hp

end Lin
end
section
/- What the two eliminations say of a square system: the same answer, or both none. Plain Lean. -/
namespace Lin

theorem rsum_split (f : Nat → Rat) (i : Nat) : ∀ k, rsum (i + 1 + k) f = rsum i f + f i + rsum k (fun t => f (i + 1 + t)) := by
  intro k
  induction k with
  | zero => simp only [rsum]; grind
  | succ k ih =>
    show rsum (i + 1 + k) f + f (i + 1 + k) = _
    rw [ih]
    simp only [rsum]
    grind

/-- The equation of a row at x. -/
def eqn (n : Nat) (x : Nat → Rat) (v : Nat → Rat) : Rat := rsum n (fun j => v j * x j) - v n

theorem eqn_linear (n : Nat) (x : Nat → Rat) : Linear (eqn n x) := by
  intro u v c
  unfold eqn
  have : (fun j => (u j + c * v j) * x j) = fun j => u j * x j + c * (v j * x j) := by funext j; grind
  rw [this, rsum_add, rsum_mul]
  grind

/-- A linear function is 0 at all the rows of the one table where it is at all those of the other. -/
theorem Fits.same {m j : Nat} {M : Nat → Nat → Int} {s : PS} {S : Nat → Nat → Rat} {A : Nat → Nat → Int} {l : Nat → Rat} {co : Nat → Nat → Rat} {cs : Nat → Nat} (h : Fits m j M s S A l co cs) {f : (Nat → Rat) → Rat} (hf : Linear f) :
    (∀ i, i < m → f (fun c => (M i c : Rat)) = 0) ↔ ∀ i, i < m → f (fun c => (s.E i c : Rat)) = 0 := by
  have h1 : (∀ i, i < m → f (fun c => (M i c : Rat)) = 0) ↔ ∀ i, i < m → f (fun c => (A i c : Rat)) = 0 := by
    constructor
    · intro k i hi
      obtain ⟨q, hq, e⟩ := h.inv.perm i hi
      rw [e]; exact k q hq
    · intro k i hi
      obtain ⟨q, hq, e⟩ := h.inv.perm' i hi
      rw [← e]; exact k q hq
  have low : ∀ q, q < m → f (S q) = f (fun c => (A q c : Rat)) + rsum (min q s.steps.length) (fun p => co q p * f (S p)) := by
    intro q hq
    have e : S q = fun c => (A q c : Rat) + 1 * rsum (min q s.steps.length) (fun p => co q p * S p c) := by
      funext c; rw [h.inv.low q c hq]; grind
    rw [e, hf, hf.sum]
    grind
  have h2 : (∀ i, i < m → f (fun c => (A i c : Rat)) = 0) ↔ ∀ i, i < m → f (S i) = 0 := by
    constructor
    · intro k i
      induction i using Nat.strongRecOn with
      | ind i ih =>
        intro hi
        rw [low i hi, k i hi, rsum_zero (fun p hp => by rw [ih p (by omega) (by omega)]; grind)]
        grind
    · intro k i hi
      have := low i hi
      rw [k i hi, rsum_zero (fun p hp => by rw [k p (by omega)]; grind)] at this
      grind
  have h3 : (∀ i, i < m → f (S i) = 0) ↔ ∀ i, i < m → f (fun c => (s.E i c : Rat)) = 0 := by
    have e : ∀ i, i < m → f (fun c => (s.E i c : Rat)) = l (min i s.steps.length) * f (S i) := by
      intro i hi
      rw [← hf.scale]
      congr 1
      funext c
      exact h.e i c hi
    constructor
    · intro k i hi
      rw [e i hi, k i hi]; grind
    · intro k i hi
      have := k i hi
      rw [e i hi] at this
      exact (Rat.mul_eq_zero.1 this).resolve_left (h.inv.ln _ (Nat.min_le_right _ _))
  rw [h1, h2, h3]

theorem incr {n : Nat} {cs : Nat → Nat} (up : ∀ p q, p < q → q < n → cs p < cs q) (lt : ∀ p, p < n → cs p < n) : ∀ p, p < n → cs p = p := by
  have lo : ∀ p, p < n → p ≤ cs p := by
    intro p
    induction p with
    | zero => intro _; omega
    | succ p ih => intro h; have := ih (by omega); have := up p (p + 1) (by omega) h; omega
  have hi : ∀ d p, p + d + 1 = n → cs p ≤ p := by
    intro d
    induction d with
    | zero => intro p h; have := lt p (by omega); omega
    | succ d ih => intro p h; have := ih (p + 1) (by omega); have := up p (p + 1) (by omega) (by omega); omega
  intro p hp
  have := lo p hp
  have := hi (n - 1 - p) p (by omega)
  omega

theorem runP_len (m : Nat) (M : Nat → Nat → Int) (j : Nat) : (runP m M j).steps.length ≤ m := by
  obtain ⟨S, A, l, co, cs, h⟩ := Fits.run m M j
  exact h.inv.len

theorem colP_steps (m : Nat) (s : PS) (j : Nat) : (colP m s j).steps = s.steps ∨ (colP m s j).steps = s.steps ++ [j] := by
  unfold colP
  split
  · exact .inl rfl
  · exact .inr rfl

/-- No pivot is left to find where every row bears one. -/
theorem colP_full (m : Nat) (s : PS) (j : Nat) (h : m ≤ s.steps.length) : colP m s j = s := by
  unfold colP
  rw [Nat.sub_eq_zero_of_le h]
  rfl

theorem solve_same (n : Nat) (hn : 0 < n) (a : Nat → Nat → Rat) (M : Nat → Nat → Int) (f : Nat → Rat) (hf : ∀ i, i < n → f i ≠ 0 ∧ ∀ c, (M i c : Rat) = f i * a i c) :
    ((runR n a n).steps.length < n → (runP n M (n + 1)).steps.length < n ∨ (runP n M (n + 1)).steps.getD (n - 1) 0 ≠ n - 1) ∧
    (¬ (runR n a n).steps.length < n → (runR n a n).steps.length = n ∧ ¬ (runP n M (n + 1)).steps.length < n ∧ (runP n M (n + 1)).steps.getD (n - 1) 0 = n - 1 ∧
      (∀ i, i < n → (runP n M (n + 1)).E i i ≠ 0) ∧
      ∀ x : Nat → Rat, (∀ i, i < n → x i = (((runP n M (n + 1)).E i n : Rat) - rsum (n - 1 - i) (fun t => ((runP n M (n + 1)).E i (i + 1 + t) : Rat) * x (i + 1 + t))) / ((runP n M (n + 1)).E i i : Rat)) →
        ∀ i, i < n → x i = (runR n a n).R i n) := by
  obtain ⟨hst, S, A, l, co, cs, hF, hB⟩ := both n a M f hf n
  have hle := runP_len n M n
  constructor
  · intro hlt
    rw [hst] at hlt
    rcases colP_steps n (runP n M n) n with h | h
    · left
      show (colP n (runP n M n) n).steps.length < n
      rw [h]; exact hlt
    · by_cases e : (runP n M n).steps.length + 1 < n
      · left
        show (colP n (runP n M n) n).steps.length < n
        rw [h, List.length_append, List.length_singleton]; exact e
      · right
        show (colP n (runP n M n) n).steps.getD (n - 1) 0 ≠ n - 1
        have e2 : (runP n M n).steps.length = n - 1 := by omega
        rw [h, List.getD_eq_getElem?_getD, List.getElem?_append_right (by omega), e2]
        simp
        omega
  · intro hge
    rw [hst] at hge
    have hlen : (runP n M n).steps.length = n := by omega
    have hE : runP n M (n + 1) = runP n M n := colP_full n (runP n M n) n (by omega)
    rw [hE, hst]
    rw [hlen] at hB
    have hI := hF.inv
    rw [hlen] at hI
    have hcs := incr hI.up hI.lt
    have hst2 := hF.st
    rw [hlen] at hst2
    have hd : ∀ i, i < n → ((runP n M n).E i i : Rat) ≠ 0 := by
      intro i hi
      have := hF.e i i hi
      rw [hlen, Nat.min_eq_left (by omega)] at this
      have h2 := hI.l1 i hi
      rw [hcs i hi] at h2
      rw [this, ← h2]
      exact hI.ln (i + 1) (by omega)
    refine ⟨hlen, by omega, ?_, fun i hi e => hd i hi (by rw [e]; rfl), ?_⟩
    · rw [hst2, List.getD_eq_getElem?_getD, List.getElem?_map, List.getElem?_range (by omega)]
      simp
      exact hcs (n - 1) (by omega)
    · intro x hx i hi
      have hall : ∀ i, i < n → eqn n x (fun c => ((runP n M n).E i c : Rat)) = 0 := by
        intro i hi
        have hlow : ∀ c, c < i → ((runP n M n).E i c : Rat) = 0 := by
          intro c hc
          rw [hF.e i c hi, hI.zl i c hi (by rw [hcs i hi]; exact hc)]
          grind
        unfold eqn
        have e : n = i + 1 + (n - 1 - i) := by omega
        have e2 : rsum n (fun j => ((runP n M n).E i j : Rat) * x j) = rsum (i + 1 + (n - 1 - i)) (fun j => ((runP n M n).E i j : Rat) * x j) := by rw [← e]
        rw [e2, rsum_split, rsum_zero (fun c hc => by rw [hlow c hc]; grind), hx i hi]
        have := hd i hi
        grind
      have h1 := (hF.same (eqn_linear n x)).2 hall
      have h2 : ∀ i, i < n → eqn n x (a i) = 0 := by
        intro i hi
        have h3 := h1 i hi
        have e : (fun c => (M i c : Rat)) = fun c => f i * a i c := by funext c; exact (hf i hi).2 c
        rw [e, (eqn_linear n x).scale] at h3
        exact (Rat.mul_eq_zero.1 h3).resolve_left (hf i hi).1
      have h3 : eqn n x ((runR n a n).R i) = 0 := (hB.same _ (eqn_linear n x).sub).1 h2 i hi
      unfold eqn at h3
      rw [rsum_one (p := i) hi (fun q hq hne => by
        have := hB.unit i q hi hq
        rw [hcs q hq, if_neg (by omega)] at this
        rw [this]; grind)] at h3
      have := hB.unit i i hi hi
      rw [hcs i hi, if_pos rfl] at this
      rw [this] at h3
      grind

end Lin
end
