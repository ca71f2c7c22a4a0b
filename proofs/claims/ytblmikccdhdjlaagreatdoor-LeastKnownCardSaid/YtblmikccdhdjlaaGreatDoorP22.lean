/- A part of the proof: the texts XDet. -/
set_option linter.unusedVariables false
set_option linter.unusedSimpArgs false
section
/- Determinants over the rationals, by expansion along the first column: linear in each row, zero at two equal rows, unchanged when a multiple of another row is added, and the product of the diagonal for a triangular table; whole for whole entries. Plain Lean. -/
namespace Lin

def rsum : Nat → (Nat → Rat) → Rat
  | 0, _ => 0
  | n + 1, f => rsum n f + f n

theorem rsum_congr {n : Nat} {f g : Nat → Rat} (h : ∀ i, i < n → f i = g i) : rsum n f = rsum n g := by
  induction n with
  | zero => rfl
  | succ n ih =>
    simp only [rsum]
    rw [ih (fun i hi => h i (by omega)), h n (by omega)]

theorem rsum_zero {n : Nat} {f : Nat → Rat} (h : ∀ i, i < n → f i = 0) : rsum n f = 0 := by
  induction n with
  | zero => rfl
  | succ n ih =>
    simp only [rsum]
    rw [ih (fun i hi => h i (by omega)), h n (by omega)]
    grind

theorem rsum_add (n : Nat) (f g : Nat → Rat) : rsum n (fun i => f i + g i) = rsum n f + rsum n g := by
  induction n with
  | zero => simp only [rsum]; grind
  | succ n ih => simp only [rsum]; rw [ih]; grind

theorem rsum_mul (n : Nat) (c : Rat) (f : Nat → Rat) : rsum n (fun i => c * f i) = c * rsum n f := by
  induction n with
  | zero => simp [rsum]
  | succ n ih => simp only [rsum]; rw [ih]; grind

/-- Only one term. -/
theorem rsum_one {n p : Nat} {f : Nat → Rat} (hp : p < n) (h : ∀ i, i < n → i ≠ p → f i = 0) : rsum n f = f p := by
  induction n with
  | zero => omega
  | succ n ih =>
    simp only [rsum]
    by_cases e : p = n
    · subst e
      rw [rsum_zero (fun i hi => h i (by omega) (by omega))]
      grind
    · rw [ih (by omega) (fun i hi hne => h i (by omega) hne), h n (by omega) (by omega)]
      grind

/-- Only two terms. -/
theorem rsum_two {n p q : Nat} {f : Nat → Rat} (hpq : p < q) (hq : q < n) (h : ∀ i, i < n → i ≠ p → i ≠ q → f i = 0) : rsum n f = f p + f q := by
  induction n with
  | zero => omega
  | succ n ih =>
    simp only [rsum]
    by_cases e : q = n
    · subst e
      rw [rsum_one (p := p) (by omega) (fun i hi hne => h i (by omega) hne (by omega))]
    · rw [ih (by omega) (fun i hi h1 h2 => h i (by omega) h1 h2), h n (by omega) (by omega) (by omega)]
      grind

def sgn : Nat → Rat
  | 0 => 1
  | n + 1 => - sgn n

/-- The place behind a row left out. -/
def skip (i a : Nat) : Nat := if a < i then a else a + 1

def det : Nat → (Nat → Nat → Rat) → Rat
  | 0, _ => 1
  | n + 1, M => rsum (n + 1) fun i => sgn i * M i 0 * det n (fun a b => M (skip i a) (b + 1))

theorem det_congr : ∀ (n : Nat) (M N : Nat → Nat → Rat), (∀ i j, i < n → j < n → M i j = N i j) → det n M = det n N := by
  intro n
  induction n with
  | zero => intros; rfl
  | succ n ih =>
    intro M N h
    simp only [det]
    refine rsum_congr fun i hi => ?_
    rw [h i 0 hi (by omega), ih (fun a b => M (skip i a) (b + 1)) (fun a b => N (skip i a) (b + 1))]
    intro a b ha hb
    exact h _ _ (by unfold skip; split <;> omega) (by omega)

/-- A table with another row p. -/
def put (M : Nat → Nat → Rat) (p : Nat) (u : Nat → Rat) : Nat → Nat → Rat := fun i j => if i = p then u j else M i j

theorem put_self (M : Nat → Nat → Rat) (p : Nat) : put M p (M p) = M := by
  funext i j
  unfold put
  split
  · rename_i h; rw [h]
  · rfl

theorem put_at (M : Nat → Nat → Rat) (p : Nat) (u : Nat → Rat) : put M p u p = u := by
  funext j
  simp [put]
theorem put_ne (M : Nat → Nat → Rat) {p i : Nat} (u : Nat → Rat) (h : i ≠ p) : put M p u i = M i := by
  funext j
  simp [put, h]

/-- Linear in row p. -/
theorem det_linear : ∀ (n p : Nat) (M : Nat → Nat → Rat) (u v : Nat → Rat) (c : Rat), p < n →
    det n (put M p (fun j => u j + c * v j)) = det n (put M p u) + c * det n (put M p v) := by
  intro n
  induction n with
  | zero => intros; omega
  | succ n ih =>
    intro p M u v c hp
    simp only [det]
    rw [← rsum_mul, ← rsum_add]
    refine rsum_congr fun i hi => ?_
    by_cases e : i = p
    · subst e
      have h1 : ∀ x : Nat → Rat, (fun a b => put M i x (skip i a) (b + 1)) = (fun a b => M (skip i a) (b + 1)) := by
        intro x
        funext a b
        unfold put
        rw [if_neg (by unfold skip; split <;> omega)]
      rw [h1, h1, h1]
      simp only [put, if_pos]
      grind
    · obtain ⟨q, hq, hs⟩ : ∃ q, q < n ∧ ∀ a, (skip i a = p ↔ a = q) := by
        by_cases l : p < i
        · exact ⟨p, by omega, fun a => by unfold skip; split <;> omega⟩
        · exact ⟨p - 1, by omega, fun a => by unfold skip; split <;> omega⟩
      have h1 : ∀ x : Nat → Rat, (fun a b => put M p x (skip i a) (b + 1)) = put (fun a b => M (skip i a) (b + 1)) q (fun b => x (b + 1)) := by
        intro x
        funext a b
        unfold put
        by_cases ha : a = q
        · rw [if_pos ha, if_pos ((hs a).2 ha)]
        · rw [if_neg ha, if_neg (fun h => ha ((hs a).1 h))]
      rw [h1, h1, h1, ih q _ _ _ c hq]
      simp only [put, if_neg e]
      grind

/-- Two neighbouring equal rows. -/
theorem det_near : ∀ (n p : Nat) (M : Nat → Nat → Rat), p + 1 < n → (∀ j, M p j = M (p + 1) j) → det n M = 0 := by
  intro n
  induction n with
  | zero => intros; omega
  | succ n ih =>
    intro p M hp he
    simp only [det]
    rw [rsum_two (p := p) (q := p + 1) (by omega) (by omega)]
    · have h1 : (fun a b => M (skip p a) (b + 1)) = (fun a b => M (skip (p + 1) a) (b + 1)) := by
        funext a b
        unfold skip
        by_cases h : a < p
        · rw [if_pos h, if_pos (by omega)]
        · by_cases h2 : a = p
          · subst h2; rw [if_neg (by omega), if_pos (by omega), he]
          · rw [if_neg h, if_neg (by omega)]
      rw [h1, he 0]
      simp only [sgn]
      grind
    · intro i hi h1 h2
      have : det n (fun a b => M (skip i a) (b + 1)) = 0 := by
        by_cases l : p < i
        · refine ih p _ (by omega) (fun j => ?_)
          simp only [skip]
          rw [if_pos l, if_pos (by omega)]
          exact he _
        · refine ih (p - 1) _ (by omega) (fun j => ?_)
          simp only [skip]
          rw [if_neg (by omega), if_neg (by omega)]
          have : p - 1 + 1 = p := by omega
          rw [this]
          exact he _
      rw [this]
      grind

/-- Two neighbouring rows change places. -/
def flip (p : Nat) (i : Nat) : Nat := if i = p then p + 1 else if i = p + 1 then p else i

theorem det_flip (n p : Nat) (M : Nat → Nat → Rat) (hp : p + 1 < n) : det n (fun i j => M (flip p i) j) = - det n M := by
  have z : ∀ x : Nat → Rat, det n (put (put M (p + 1) x) p x) = 0 := fun x => det_near n p _ hp (fun j => by
    rw [put_at, put_ne _ _ (by omega), put_at])
  have sw : ∀ x y : Nat → Rat, put (put M p x) (p + 1) y = put (put M (p + 1) y) p x := by
    intro x y
    funext i j
    unfold put
    by_cases h : i = p
    · subst h; rw [if_neg (by omega), if_pos rfl, if_pos rfl]
    · rw [if_neg h, if_neg h]
  let s : Nat → Rat := fun j => M p j + 1 * M (p + 1) j
  have e1 := det_linear n (p + 1) (put M p s) (M p) (M (p + 1)) 1 hp
  have e2 := det_linear n p (put M (p + 1) (M p)) (M p) (M (p + 1)) 1 (by omega)
  have e3 := det_linear n p (put M (p + 1) (M (p + 1))) (M p) (M (p + 1)) 1 (by omega)
  have hM : put (put M (p + 1) (M (p + 1))) p (M p) = M := by rw [put_self, put_self]
  have hF : put (put M (p + 1) (M p)) p (M (p + 1)) = fun i j => M (flip p i) j := by
    funext i j
    unfold put flip
    by_cases h : i = p
    · rw [if_pos h, if_pos h]
    · rw [if_neg h, if_neg h]
      by_cases h2 : i = p + 1
      · rw [if_pos h2, if_pos h2]
      · rw [if_neg h2, if_neg h2]
  have h0 : det n (put (put M p s) (p + 1) s) = 0 := by rw [sw]; exact z s
  have f1 : det n (put (put M p s) (p + 1) s) = det n (put (put M p s) (p + 1) (M p)) + 1 * det n (put (put M p s) (p + 1) (M (p + 1))) := e1
  have f2 : det n (put (put M p s) (p + 1) (M p)) = det n (put (put M (p + 1) (M p)) p (M p)) + 1 * det n (put (put M (p + 1) (M p)) p (M (p + 1))) := by rw [sw]; exact e2
  have f3 : det n (put (put M p s) (p + 1) (M (p + 1))) = det n (put (put M (p + 1) (M (p + 1))) p (M p)) + 1 * det n (put (put M (p + 1) (M (p + 1))) p (M (p + 1))) := by rw [sw]; exact e3
  rw [z, hF] at f2
  rw [hM, z] at f3
  rw [h0, f2, f3] at f1
  grind

/-- Two equal rows. -/
theorem det_same (n : Nat) : ∀ (d p : Nat) (M : Nat → Nat → Rat), p + d + 1 < n → (∀ j, M p j = M (p + d + 1) j) → det n M = 0 := by
  intro d
  induction d with
  | zero => intro p M hp he; exact det_near n p M hp he
  | succ d ih =>
    intro p M hp he
    have h := det_flip n (p + d + 1) M (by omega)
    have h2 := ih p (fun i j => M (flip (p + d + 1) i) j) (by omega) (fun j => by
      have f1 : flip (p + d + 1) p = p := by unfold flip; rw [if_neg (by omega), if_neg (by omega)]
      have f2 : flip (p + d + 1) (p + d + 1) = p + (d + 1) + 1 := by unfold flip; rw [if_pos rfl]; omega
      show M (flip (p + d + 1) p) j = M (flip (p + d + 1) (p + d + 1)) j
      rw [f1, f2]
      exact he j)
    grind

/-- A multiple of another row is added. -/
theorem det_add (n p q : Nat) (M : Nat → Nat → Rat) (c : Rat) (hp : p < n) (hq : q < n) (hne : p ≠ q) :
    det n (put M q (fun j => M q j + c * M p j)) = det n M := by
  rw [det_linear n q M _ _ c hq, put_self]
  have : det n (put M q (M p)) = 0 := by
    rcases Nat.lt_or_gt_of_ne hne with h | h
    · refine det_same n (q - p - 1) p _ (by omega) (fun j => ?_)
      rw [show p + (q - p - 1) + 1 = q from by omega, put_at, put_ne _ _ hne]
    · refine det_same n (p - q - 1) q _ (by omega) (fun j => ?_)
      rw [show q + (p - q - 1) + 1 = p from by omega, put_at, put_ne _ _ hne]
  grind

/-- Multiples of the rows ahead are added. -/
theorem det_add_sum (n q : Nat) (c : Nat → Rat) (hq : q < n) (M : Nat → Nat → Rat) : ∀ k, k ≤ q →
    det n (put M q (fun j => M q j + rsum k (fun p => c p * M p j))) = det n M := by
  intro k
  induction k with
  | zero =>
    intro _
    have : (fun j => M q j + rsum 0 (fun p => c p * M p j)) = M q := by funext j; simp only [rsum]; grind
    rw [this, put_self]
  | succ k ih =>
    intro hk
    have h := det_add n k q (put M q (fun j => M q j + rsum k (fun p => c p * M p j))) (c k) (by omega) hq (by omega)
    rw [← ih (by omega), ← h]
    congr 1
    funext i j
    simp only [put]
    by_cases e : i = q
    · subst e
      simp only [if_true]
      rw [if_neg (by omega)]
      simp only [rsum]
      grind
    · simp only [if_neg e]

/-- A lower triangle of changes. -/
theorem det_lower (n : Nat) (M E : Nat → Nat → Rat) (c : Nat → Nat → Rat) (h : ∀ q, q < n → ∀ j, E q j = M q j + rsum q (fun p => c q p * E p j)) : det n M = det n E := by
  have key : ∀ t, t ≤ n → det n (fun i j => if i < t then E i j else M i j) = det n M := by
    intro t
    induction t with
    | zero => intro _; congr 1
    | succ t ih =>
      intro ht
      rw [← ih (by omega)]
      have hs := det_add_sum n t (c t) (by omega) (fun i j => if i < t then E i j else M i j) t (Nat.le_refl _)
      rw [← hs]
      congr 1
      funext i j
      simp only [put]
      by_cases e : i = t
      · subst e
        rw [if_pos (by omega), if_pos rfl, if_neg (by omega), h i (by omega) j]
        congr 1
        exact rsum_congr fun p hp => by rw [if_pos hp]
      · rw [if_neg e]
        by_cases l : i < t
        · rw [if_pos (by omega), if_pos l]
        · rw [if_neg (by omega), if_neg l]
  rw [← key n (Nat.le_refl _)]
  exact det_congr n _ _ fun i j hi _ => by rw [if_pos hi]

def rprod : Nat → (Nat → Rat) → Rat
  | 0, _ => 1
  | n + 1, f => rprod n f * f n

theorem rprod_succ_left (n : Nat) (f : Nat → Rat) : rprod (n + 1) f = f 0 * rprod n (fun i => f (i + 1)) := by
  induction n with
  | zero => simp only [rprod]; grind
  | succ n ih =>
    have e1 : rprod (n + 1 + 1) f = rprod (n + 1) f * f (n + 1) := rfl
    have e2 : rprod (n + 1) (fun i => f (i + 1)) = rprod n (fun i => f (i + 1)) * f (n + 1) := rfl
    rw [e1, ih, e2]
    grind

theorem det_triangle : ∀ (n : Nat) (M : Nat → Nat → Rat), (∀ i j, i < n → j < i → M i j = 0) → det n M = rprod n (fun i => M i i) := by
  intro n
  induction n with
  | zero => intros; rfl
  | succ n ih =>
    intro M h
    simp only [det]
    rw [rsum_one (p := 0) (by omega) (fun i hi hne => by rw [h i 0 hi (by omega)]; grind), ih _ (fun i j hi hj => ?_), rprod_succ_left]
    · simp only [skip, sgn]
      simp only [Nat.not_lt_zero, if_false]
      grind
    · simp only [skip, Nat.not_lt_zero, if_false]
      exact h _ _ (by omega) (by omega)

def Whole (x : Rat) : Prop := ∃ n : Int, x = (n : Rat)
theorem Whole.zero : Whole 0 := ⟨0, by simp⟩
theorem Whole.one : Whole 1 := ⟨1, by simp⟩
theorem Whole.add {x y : Rat} : Whole x → Whole y → Whole (x + y) := fun ⟨a, ha⟩ ⟨b, hb⟩ => ⟨a + b, by rw [ha, hb]; simp⟩
theorem Whole.mul {x y : Rat} : Whole x → Whole y → Whole (x * y) := fun ⟨a, ha⟩ ⟨b, hb⟩ => ⟨a * b, by rw [ha, hb]; simp⟩
theorem Whole.neg {x : Rat} : Whole x → Whole (-x) := fun ⟨a, ha⟩ => ⟨-a, by rw [ha]; simp⟩
theorem Whole.sgn (i : Nat) : Whole (sgn i) := by
  induction i with
  | zero => exact Whole.one
  | succ i ih => exact ih.neg
theorem Whole.rsum {n : Nat} {f : Nat → Rat} (h : ∀ i, i < n → Whole (f i)) : Whole (rsum n f) := by
  induction n with
  | zero => exact Whole.zero
  | succ n ih => exact (ih fun i hi => h i (by omega)).add (h n (by omega))
theorem Whole.det : ∀ (n : Nat) (M : Nat → Nat → Rat), (∀ i j, i < n → j < n → Whole (M i j)) → Whole (det n M) := by
  intro n
  induction n with
  | zero => intro _ _; exact Whole.one
  | succ n ih =>
    intro M h
    refine Whole.rsum fun i hi => ((Whole.sgn i).mul (h i 0 hi (by omega))).mul (ih _ fun a b ha hb => h _ _ ?_ (by omega))
    unfold skip; split <;> omega

end Lin
end
