/- A part of the proof: the texts XGrow. -/
import Derived.Orders
import Derived.Tactics
set_option linter.unusedVariables false
set_option linter.unusedSimpArgs false
section
/- A region that draws its order and whose operations leave all that was there as it was: each operation is asked once, in whatever later world; what is known of its value stays true. Then the order is of no matter. -/
namespace Go.Grow

/-- Facts that stay. -/
def Stable (E : World → World → Prop) (S : World → Prop) : Prop := ∀ w w', E w w' → S w → S w'

/-- Where one operation, taken in the frame a, may end. -/
def endAt (E : World → World → Prop) (a : Act) (dst : Option Tmp) (w : World) (S : Value → World → Prop) (Q : Exit → Act → World → Prop) : Exit → Act → World → Prop
  | .normal, a', w' => ∃ v, a' = a.put dst v ∧ E w w' ∧ S v w'
  | .outgrown, a', w' => Q .outgrown a' w'
  | _, _, _ => False

/-- What the operations that this one waits for have left. -/
def depsHold (o : Oper) (fs : List (World → Prop)) (w : World) : Prop := ∀ e ∈ o.after, Region.binds .any e = true → (fs.getD e.on fun _ => True) w

section
variable (P : Program) (ops : Array Oper) (E : World → World → Prop) (w0 : World) (Q : Exit → Act → World → Prop) (Tail : Act → World → Prop)

/-- The operations in the text's order: one marked 'none' yields one value, in whatever world; one marked 'some S' yields some value of which S holds. -/
def Rounds : List (Option (Value → World → Prop)) → List Oper → List (World → Prop) → Act → Prop
  | _, [], fs, a => ∀ w : World, E w0 w → (∀ f ∈ fs, f w) → Tail a w
  | ms, o :: rest, fs, a =>
    if Region.wanted o (yielded ops a.tmps) then
      match ms.headD (none : Option (Value → World → Prop)) with
      | none => ∃ u : Value, (∀ w : World, E w0 w → depsHold o fs w → (execOp a.eval o).run P w = .ok (.value u) w) ∧ Rounds ms.tail rest (fs ++ [fun _ : World => True]) (a.put o.dst u)
      | some S => (∀ w : World, E w0 w → depsHold o fs w → wpList P ops (endAt E a o.dst w S Q) [o] a w) ∧ ∀ v : Value, Rounds ms.tail rest (fs ++ [S v]) (a.put o.dst v)
    else Rounds ms.tail rest (fs ++ [fun _ : World => True]) (a.put o.dst undef)
end

/-- All that an operation waits for. -/
def masks (ops : List Oper) : List Nat :=
  ops.foldl (init := []) fun acc o => acc ++ [o.after.foldl (fun s e => if Region.binds .any e then s ||| 2 ^ e.on ||| acc.getD e.on 0 else s) 0]

/-- The first k operations in any order, then the others in the text's order; each operand comes from ahead or from what is waited for. -/
def okB (k : Nat) (ops : Array Oper) : Bool :=
  Region.noSelect ops && decide (k ≤ ops.size) &&
  ((List.range ops.size).all fun i =>
    match ops[i]? with
    | none => false
    | some o =>
      (o.after.all fun e => !Region.binds .any e || decide (e.on < i)) &&
      ((o.looksAt ops).all fun t => (List.range k).all fun j =>
        match ops[j]? with
        | none => true
        | some oj => oj.dst != some t || (o.after.any fun e => Region.binds .any e && e.on == j) || decide (k ≤ i)) &&
      ((List.range k).all fun j =>
        match ops[j]? with
        | none => true
        | some oj => decide (j = i) || o.dst.isNone || oj.dst != o.dst || decide (k ≤ i)) &&
      (decide (i < k) || (List.range i).all fun j => ((masks ops.toList).getD i 0).testBit j))

end Go.Grow

namespace Go.Grow
section
variable {P : Program} {ops : Array Oper} {E : World → World → Prop} {w0 : World} {Q : Exit → Act → World → Prop} {Tail : Act → World → Prop}

/-- One way through the rounds: the values, and what is known of them. -/
def Tr (P : Program) (ops : Array Oper) (E : World → World → Prop) (w0 : World) (Q : Exit → Act → World → Prop) (Tail : Act → World → Prop) (vs val : Nat → Value) (F : Nat → World → Prop) :
    List (Option (Value → World → Prop)) → List Oper → Nat → List (World → Prop) → Act → Prop
  | _, [], _, fs, a => ∀ w : World, E w0 w → (∀ f ∈ fs, f w) → Tail a w
  | ms, o :: rest, i, fs, a =>
    (if Region.wanted o (yielded ops a.tmps) then
      match ms.headD (none : Option (Value → World → Prop)) with
      | none => F i = (fun _ => True) ∧ ∀ w : World, E w0 w → depsHold o fs w → (execOp a.eval o).run P w = .ok (.value (val i)) w
      | some S => val i = vs i ∧ F i = S (vs i) ∧ ∀ w : World, E w0 w → depsHold o fs w → wpList P ops (endAt E a o.dst w S Q) [o] a w
    else val i = undef ∧ F i = (fun _ => True)) ∧ Tr P ops E w0 Q Tail vs val F ms.tail rest (i + 1) (fs ++ [F i]) (a.put o.dst (val i))

theorem Tr.congr {vs val val' : Nat → Value} {F F' : Nat → World → Prop} : ∀ (l : List Oper) (ms : List (Option (Value → World → Prop))) (i : Nat) (fs : List (World → Prop)) (a : Act),
    (∀ j, i ≤ j → val j = val' j ∧ F j = F' j) → Tr P ops E w0 Q Tail vs val F ms l i fs a → Tr P ops E w0 Q Tail vs val' F' ms l i fs a := by
  intro l
  induction l with
  | nil => intro ms i fs a _ h; exact h
  | cons o rest ih =>
    intro ms i fs a he h
    unfold Tr at h ⊢
    obtain ⟨e1, e2⟩ := he i (Nat.le_refl _)
    rw [← e1, ← e2]
    exact ⟨h.1, ih _ _ _ _ (fun j hj => he j (by omega)) h.2⟩

theorem tr_of_rounds (vs : Nat → Value) : ∀ (l : List Oper) (ms : List (Option (Value → World → Prop))) (i : Nat) (fs : List (World → Prop)) (a : Act),
    Rounds P ops E w0 Q Tail ms l fs a → ∃ val F, Tr P ops E w0 Q Tail vs val F ms l i fs a := by
  intro l
  induction l with
  | nil => intro ms i fs a h; exact ⟨fun _ => undef, fun _ _ => True, h⟩
  | cons o rest ih =>
    intro ms i fs a h
    unfold Rounds at h
    have fin : ∀ (u : Value) (f : World → Prop), (if Region.wanted o (yielded ops a.tmps) then
        match ms.headD (none : Option (Value → World → Prop)) with
        | none => f = (fun _ => True) ∧ ∀ w : World, E w0 w → depsHold o fs w → (execOp a.eval o).run P w = .ok (.value u) w
        | some S => u = vs i ∧ f = S (vs i) ∧ ∀ w : World, E w0 w → depsHold o fs w → wpList P ops (endAt E a o.dst w S Q) [o] a w
      else u = undef ∧ f = (fun _ => True)) → Rounds P ops E w0 Q Tail ms.tail rest (fs ++ [f]) (a.put o.dst u) → ∃ val F, Tr P ops E w0 Q Tail vs val F ms (o :: rest) i fs a := by
      intro u f h1 h2
      obtain ⟨val, F, h3⟩ := ih ms.tail (i + 1) _ _ h2
      refine ⟨fun j => if j = i then u else val j, fun j => if j = i then f else F j, ?_⟩
      unfold Tr
      simp only [if_true]
      exact ⟨h1, Tr.congr _ _ _ _ _ (fun j hj => by rw [if_neg (by omega), if_neg (by omega)]; exact ⟨rfl, rfl⟩) h3⟩
    by_cases hw : Region.wanted o (yielded ops a.tmps) = true
    · rw [if_pos hw] at h
      cases hm : ms.headD (none : Option (Value → World → Prop)) with
      | none =>
        rw [hm] at h
        obtain ⟨u, h1, h2⟩ := h
        exact fin u (fun _ => True) (by rw [if_pos hw, hm]; exact ⟨rfl, h1⟩) h2
      | some S =>
        rw [hm] at h
        exact fin (vs i) (S (vs i)) (by rw [if_pos hw, hm]; exact ⟨rfl, rfl, h.1⟩) (h.2 (vs i))
    · rw [if_neg hw] at h
      exact fin undef (fun _ => True) (by rw [if_neg hw]; exact ⟨rfl, rfl⟩) h

/-- The frame behind the first j operations. -/
def fr (dst : Nat → Option Tmp) (val : Nat → Value) (a : Act) : Nat → Act
  | 0 => a
  | j + 1 => (fr dst val a j).put (dst j) (val j)

def dsts (ops : Array Oper) (i : Nat) : Option Tmp := (ops[i]?).bind (·.dst)

/-- What a way says of operation j. -/
def Spec (P : Program) (ops : Array Oper) (E : World → World → Prop) (w0 : World) (Q : Exit → Act → World → Prop) (vs val : Nat → Value) (F : Nat → World → Prop) (m : Option (Value → World → Prop)) (o : Oper) (i : Nat) (a : Act) : Prop :=
  if Region.wanted o (yielded ops a.tmps) then
      match m with
      | none => F i = (fun _ => True) ∧ ∀ w : World, E w0 w → depsHold o ((List.range i).map F) w → (execOp a.eval o).run P w = .ok (.value (val i)) w
      | some S => val i = vs i ∧ F i = S (vs i) ∧ ∀ w : World, E w0 w → depsHold o ((List.range i).map F) w → wpList P ops (endAt E a o.dst w S Q) [o] a w
    else val i = undef ∧ F i = (fun _ => True)

theorem Tr.spec {vs val : Nat → Value} {F : Nat → World → Prop} (a0 : Act) : ∀ (l : List Oper) (ms : List (Option (Value → World → Prop))) (i : Nat),
    (∀ j, j < l.length → l[j]? = ops[i + j]?) → Tr P ops E w0 Q Tail vs val F ms l i ((List.range i).map F) (fr (dsts ops) val a0 i) →
    (∀ j o, j < l.length → ops[i + j]? = some o → Spec P ops E w0 Q vs val F (ms.getD j none) o (i + j) (fr (dsts ops) val a0 (i + j))) ∧
    (∀ w, E w0 w → (∀ j, j < i + l.length → F j w) → Tail (fr (dsts ops) val a0 (i + l.length)) w) := by
  intro l
  induction l with
  | nil =>
    intro ms i _ h
    unfold Tr at h
    refine ⟨fun j o hj => by simp at hj, fun w hw hf => h w hw fun f hm => ?_⟩
    obtain ⟨j, hj, rfl⟩ := List.mem_map.1 hm
    exact hf j (by simpa using List.mem_range.1 hj)
  | cons o rest ih =>
    intro ms i hl h
    have h0 : ops[i]? = some o := by simpa using (hl 0 (by simp)).symm
    unfold Tr at h
    have hfs : (List.range i).map F ++ [F i] = (List.range (i + 1)).map F := by rw [List.range_succ, List.map_append]; rfl
    have hfr : (fr (dsts ops) val a0 i).put o.dst (val i) = fr (dsts ops) val a0 (i + 1) := by simp [fr, dsts, h0]
    rw [hfs, hfr] at h
    obtain ⟨ih1, ih2⟩ := ih ms.tail (i + 1) (fun j hj => by
      have := hl (j + 1) (by simpa using hj)
      rw [show i + 1 + j = i + (j + 1) from by omega]
      simpa using this) h.2
    constructor
    · intro j o' hj ho
      cases j with
      | zero =>
        obtain rfl : o = o' := by
          rw [Nat.add_zero, h0] at ho
          exact Option.some.inj ho
        have hm : ms.getD 0 none = ms.headD (none : Option (Value → World → Prop)) := by cases ms <;> rfl
        rw [hm]
        exact h.1
      | succ j =>
        have := ih1 j o' (by simpa using hj) (by rw [show i + 1 + j = i + (j + 1) from by omega]; exact ho)
        rw [show i + 1 + j = i + (j + 1) from by omega] at this
        have hm : ms.getD (j + 1) none = ms.tail.getD j (none : Option (Value → World → Prop)) := by cases ms <;> simp
        rw [hm]
        exact this
    · intro w hw hf
      have := ih2 w hw (fun j hj => hf j (by simp; omega))
      rw [show i + 1 + rest.length = i + (o :: rest).length from by simp; omega] at this
      exact this
end
end Go.Grow

namespace Go.Grow
/-- The frame in which the first j operations have come up as far as D says. -/
def fd (dst : Nat → Option Tmp) (val : Nat → Value) (D : Nat → Bool) (a : Act) : Nat → Act
  | 0 => a
  | j + 1 => if D j then (fd dst val D a j).put (dst j) (val j) else fd dst val D a j

theorem put_tmps (a : Act) (d : Option Tmp) (v : Value) (t : Tmp) (h : d ≠ some t) : (a.put d v).tmps[t]? = a.tmps[t]? := by
  cases d with
  | none => rfl
  | some d =>
    have hne : d ≠ t := fun e => h (by rw [e])
    simp [Act.put, Array.getElem?_setIfInBounds_ne hne]
theorem put_tmps_at (a : Act) (v : Value) (t : Tmp) : (a.put (some t) v).tmps[t]? = (a.tmps[t]?).map fun _ => v := by
  simp only [Act.put]
  rw [Array.getElem?_setIfInBounds]
  by_cases h : t < a.tmps.size
  · simp [h]
  · simp [h]

section
variable {dst : Nat → Option Tmp} {val val' : Nat → Value} {D D' : Nat → Bool} {a : Act}

theorem fd_none (t : Tmp) : ∀ j, (∀ i, i < j → D i = true → dst i ≠ some t) → (fd dst val D a j).tmps[t]? = a.tmps[t]? := by
  intro j
  induction j with
  | zero => intro _; rfl
  | succ j ih =>
    intro h
    simp only [fd]
    split
    · rename_i hd
      rw [put_tmps _ _ _ _ (h j (by omega) hd)]
      exact ih fun i hi => h i (by omega)
    · exact ih fun i hi => h i (by omega)

theorem fd_one (t : Tmp) (i : Nat) (hd : dst i = some t) (hD : D i = true) : ∀ j, i < j → (∀ k, k < j → dst k = some t → k = i) → (fd dst val D a j).tmps[t]? = (a.tmps[t]?).map fun _ => val i := by
  intro j
  induction j with
  | zero => intro h; omega
  | succ j ih =>
    intro hij hu
    simp only [fd]
    by_cases e : i = j
    · subst e
      rw [if_pos hD, hd, put_tmps_at, fd_none t i fun k hk _ h2 => by have := hu k (by omega) h2; omega]
    · have hn : dst j ≠ some t := fun h2 => e (hu j (by omega) h2).symm
      split
      · rw [put_tmps _ _ _ _ hn]; exact ih (by omega) fun k hk => hu k (by omega)
      · exact ih (by omega) fun k hk => hu k (by omega)

theorem fr_eq_fd (val : Nat → Value) (a : Act) : ∀ j, fr dst val a j = fd dst val (fun _ => true) a j := by
  intro j
  induction j with
  | zero => rfl
  | succ j ih => simp only [fr, fd, if_true, ih]

theorem fd_congr : ∀ j, (∀ i, i < j → D i = D' i) → (∀ i, i < j → D i = true → val i = val' i) → fd dst val D a j = fd dst val' D' a j := by
  intro j
  induction j with
  | zero => intro _ _; rfl
  | succ j ih =>
    intro h1 h2
    simp only [fd]
    rw [← h1 j (by omega), ih (fun i hi => h1 i (by omega)) (fun i hi => h2 i (by omega))]
    split
    · rename_i hd; rw [h2 j (by omega) hd]
    · rfl

theorem fd_defers : ∀ j, (fd dst val D a j).defers = a.defers := by
  intro j
  induction j with
  | zero => rfl
  | succ j ih =>
    simp only [fd]
    split
    · cases dst j <;> simpa [Act.put] using ih
    · exact ih
theorem fd_size : ∀ j, (fd dst val D a j).tmps.size = a.tmps.size := by
  intro j
  induction j with
  | zero => rfl
  | succ j ih =>
    simp only [fd]
    split
    · cases dst j <;> simp [Act.put, ih]
    · exact ih

theorem fd_put (x : Option Tmp) (v : Value) : ∀ j, (∀ i t, i < j → x = some t → dst i ≠ some t) → fd dst val D (a.put x v) j = (fd dst val D a j).put x v := by
  intro j
  induction j with
  | zero => intro _; rfl
  | succ j ih =>
    intro h
    simp only [fd]
    rw [ih fun i t hi => h i t (by omega)]
    split
    · exact Act.put_comm _ _ _ fun d hd => h j d (by omega) hd
    · rfl

/-- One operation more has come up. -/
theorem fd_set {i k : Nat} (hi : i < k) (hD : D i = false) (hu : ∀ j t, j < k → j ≠ i → dst i = some t → dst j ≠ some t) :
    fd dst val (fun j => if j = i then true else D j) a k = (fd dst val D a k).put (dst i) (val i) := by
  have key : ∀ j, j ≤ k → fd dst val (fun j => if j = i then true else D j) a j = if i < j then (fd dst val D a j).put (dst i) (val i) else fd dst val D a j := by
    intro j
    induction j with
    | zero => intro _; rfl
    | succ j ih =>
      intro hj
      by_cases e : j = i
      · subst e
        simp only [fd]
        rw [ih (by omega)]
        simp [hD]
      · have e1 : (if j = i then true else D j) = D j := if_neg e
        simp only [fd]
        simp only [e1]
        rw [ih (by omega)]
        by_cases l : i < j
        · have e2 : i < j + 1 := by omega
          simp only [if_pos l, if_pos e2]
          by_cases hd : D j = true
          · simp only [if_pos hd]
            exact Act.put_comm _ _ _ fun d hd => hu j d (by omega) e hd
          · simp only [if_neg hd]
        · have e2 : ¬ i < j + 1 := by omega
          simp only [if_neg l, if_neg e2]
  have := key k (Nat.le_refl _)
  rwa [if_pos hi] at this
end

section
variable {ops : Array Oper}
/-- What an operation does hangs on the slots that it looks at. -/
theorem same_of_looks {o : Oper} {a b : Act} (hs : ∀ cs b, o.op ≠ .select cs b) (h : ∀ t, t ∈ o.looksAt ops → a.tmps[t]? = b.tmps[t]?) :
    execOp a.eval o = execOp b.eval o ∧ Region.wanted o (yielded ops a.tmps) = Region.wanted o (yielded ops b.tmps) := by
  constructor
  · refine execOp_congr o hs fun x hx => ?_
    cases x with
    | tmp t =>
      have := h t (List.mem_append_left _ (List.mem_filterMap.2 ⟨.tmp t, by simpa using hx, rfl⟩))
      simp only [Act.eval]
      rw [Array.getD_eq_getD_getElem?, Array.getD_eq_getD_getElem?, this]
    | _ => rfl
  · unfold Region.wanted
    cases hg : o.guard with
    | none => rfl
    | some gw =>
      obtain ⟨g, want⟩ := gw
      have : yielded ops a.tmps g = yielded ops b.tmps g := by
        unfold yielded
        cases ht : (ops[g]?).bind (·.dst) with
        | none => rfl
        | some t =>
          have := h t (by simp [Oper.looksAt, hg, ht])
          simp only [Option.bind_some, this]
      simp only [this]
end
end Go.Grow

namespace Go.Grow
/-! ### what is asked of the region's text -/
theorem foldl_bits (f : Edge → Nat) (c : Edge → Bool) (j : Nat) : ∀ (l : List Edge) (s : Nat), (l.foldl (fun s e => if c e then s ||| f e else s) s).testBit j = true → s.testBit j = true ∨ ∃ e ∈ l, c e = true ∧ (f e).testBit j = true := by
  intro l
  induction l with
  | nil => intro s h; exact .inl h
  | cons e l ih =>
    intro s h
    rw [List.foldl_cons] at h
    rcases ih _ h with h1 | ⟨e', h1, h2, h3⟩
    · by_cases hc : c e = true
      · rw [if_pos hc, Nat.testBit_or, Bool.or_eq_true] at h1
        rcases h1 with h1 | h1
        · exact .inl h1
        · exact .inr ⟨e, List.mem_cons_self, hc, h1⟩
      · rw [if_neg hc] at h1
        exact .inl h1
    · exact .inr ⟨e', List.mem_cons_of_mem _ h1, h2, h3⟩

theorem masks_snoc (l : List Oper) (o : Oper) : masks (l ++ [o]) = masks l ++ [o.after.foldl (fun s e => if Region.binds .any e then s ||| 2 ^ e.on ||| (masks l).getD e.on 0 else s) 0] := by
  simp [masks, List.foldl_append]
theorem masks_length (l : List Oper) : (masks l).length = l.length := by
  have key : ∀ k : List Oper, (masks k.reverse).length = k.length := by
    intro k
    induction k with
    | nil => rfl
    | cons o k ih => rw [List.reverse_cons, masks_snoc]; simp [ih]
  have := key l.reverse
  simpa using this

theorem masks_spec (l : List Oper) : ∀ i o, l[i]? = some o → ∀ j, ((masks l).getD i 0).testBit j = true → ∃ e ∈ o.after, Region.binds .any e = true ∧ (e.on = j ∨ ((masks l).getD e.on 0).testBit j = true) := by
  have key : ∀ k : List Oper, ∀ i o, k.reverse[i]? = some o → ∀ j, ((masks k.reverse).getD i 0).testBit j = true → ∃ e ∈ o.after, Region.binds .any e = true ∧ (e.on = j ∨ ((masks k.reverse).getD e.on 0).testBit j = true) := by
    intro k
    induction k with
    | nil => intro i o h; simp at h
    | cons o k ih =>
      intro i o' ho j hj
      rw [List.reverse_cons] at ho hj ⊢
      rw [masks_snoc] at hj ⊢
      have hml := masks_length k.reverse
      have up : ∀ n, ((masks k.reverse).getD n 0).testBit j = true → ((masks k.reverse ++ [o.after.foldl (fun s e => if Region.binds .any e then s ||| 2 ^ e.on ||| (masks k.reverse).getD e.on 0 else s) 0]).getD n 0).testBit j = true := by
        intro n hn
        rcases Nat.lt_or_ge n (masks k.reverse).length with h | h
        · rwa [List.getD_eq_getElem?_getD, List.getElem?_append_left h, ← List.getD_eq_getElem?_getD]
        · rw [List.getD_eq_getElem?_getD, List.getElem?_eq_none h] at hn
          simp at hn
      rcases Nat.lt_trichotomy i k.reverse.length with h | h | h
      · rw [List.getElem?_append_left h] at ho
        rw [List.getD_eq_getElem?_getD, List.getElem?_append_left (by omega), ← List.getD_eq_getElem?_getD] at hj
        obtain ⟨e, h1, h2, h3⟩ := ih i o' ho j hj
        exact ⟨e, h1, h2, h3.imp id (up _)⟩
      · subst h
        simp at ho
        subst ho
        rw [List.getD_eq_getElem?_getD, List.getElem?_append_right (by omega), hml] at hj
        simp only [Nat.sub_self, List.getElem?_cons_zero, Option.getD_some] at hj
        rw [← Array.foldl_toList] at hj
        have hj' : (o.after.toList.foldl (fun s e => if Region.binds .any e then s ||| (2 ^ e.on ||| (masks k.reverse).getD e.on 0) else s) 0).testBit j = true := by
          have : (fun (s : Nat) (e : Edge) => if Region.binds .any e then s ||| (2 ^ e.on ||| (masks k.reverse).getD e.on 0) else s) = fun s e => if Region.binds .any e then s ||| 2 ^ e.on ||| (masks k.reverse).getD e.on 0 else s := by
            funext s e
            rw [Nat.or_assoc]
          rw [this]; exact hj
        rcases foldl_bits _ _ _ _ _ hj' with h1 | ⟨e, h1, h2, h3⟩
        · simp at h1
        · rw [Nat.testBit_or, Bool.or_eq_true] at h3
          refine ⟨e, by simpa using h1, h2, h3.imp (fun h4 => ?_) (up _)⟩
          rw [Nat.testBit_two_pow] at h4
          simpa using h4
      · rw [List.getElem?_eq_none (by simp at h ⊢; omega)] at ho
        cases ho
  have := key l.reverse
  rwa [List.reverse_reverse] at this

section
variable {ops : Array Oper} {k : Nat}
/-- The text's facts, as they are used. -/
structure Ok (k : Nat) (ops : Array Oper) : Prop where
  sel : ∀ (j : Nat) (o : Oper) cs b, ops[j]? = some o → o.op ≠ .select cs b
  le : k ≤ ops.size
  back : ∀ i o, ops[i]? = some o → ∀ e ∈ o.after, Region.binds .any e = true → e.on < i
  looks : ∀ i o, i < k → ops[i]? = some o → ∀ t ∈ o.looksAt ops, ∀ j, j < k → dsts ops j = some t → ∃ e ∈ o.after, Region.binds .any e = true ∧ e.on = j
  one : ∀ i j t, i < k → j < k → j ≠ i → dsts ops i = some t → dsts ops j ≠ some t
  tail : ∀ i, k ≤ i → i < ops.size → ∀ j, j < i → ((masks ops.toList).getD i 0).testBit j = true

theorem ok_of (h : okB k ops = true) : Ok k ops := by
  unfold okB at h
  simp only [Bool.and_eq_true, decide_eq_true_eq] at h
  obtain ⟨⟨hs, hk⟩, hall⟩ := h
  rw [List.all_eq_true] at hall
  have get : ∀ i o, ops[i]? = some o → _ := fun i o ho => by
    have := hall i (List.mem_range.2 (Array.getElem?_eq_some_iff.1 ho).1)
    rw [ho] at this
    simp only [Bool.and_eq_true] at this
    exact this
  refine ⟨Region.noSelect_spec hs, hk, ?_, ?_, ?_, ?_⟩
  · intro i o ho e he hb
    have := (get i o ho).1.1.1
    rw [Array.all_eq_true_iff_forall_mem] at this
    have := this e he
    rw [hb] at this
    simpa using this
  · intro i o hi ho t ht j hj hd
    have := (get i o ho).1.1.2
    rw [List.all_eq_true] at this
    have := this t ht
    rw [List.all_eq_true] at this
    have := this j (List.mem_range.2 hj)
    unfold dsts at hd
    cases hoj : ops[j]? with
    | none => rw [hoj] at hd; cases hd
    | some oj =>
      rw [hoj] at hd this
      have hd' : oj.dst = some t := hd
      simp only [Bool.or_eq_true, bne_iff_ne, ne_eq, hd', not_true_eq_false, false_or, decide_eq_true_eq] at this
      rcases this with h | h
      · rw [Array.any_eq_true'] at h
        obtain ⟨e, he, h2⟩ := h
        simp only [Bool.and_eq_true, beq_iff_eq] at h2
        exact ⟨e, he, h2.1, h2.2⟩
      · omega
  · intro i j t hi hj hne hd hd2
    unfold dsts at hd hd2
    cases ho : ops[i]? with
    | none => rw [ho] at hd; cases hd
    | some o =>
      cases hoj : ops[j]? with
      | none => rw [hoj] at hd2; cases hd2
      | some oj =>
        rw [ho] at hd; rw [hoj] at hd2
        have hd : o.dst = some t := hd
        have hd2 : oj.dst = some t := hd2
        have := (get i o ho).1.2
        rw [List.all_eq_true] at this
        have := this j (List.mem_range.2 hj)
        rw [hoj] at this
        simp [hd, hd2, hne] at this
        omega
  · intro i hk hi j hj
    have := hall i (List.mem_range.2 hi)
    obtain ⟨o, ho⟩ : ∃ o, ops[i]? = some o := ⟨ops[i], by simp [hi]⟩
    have := (get i o ho).2
    simp only [Bool.or_eq_true, decide_eq_true_eq] at this
    rcases this with h | h
    · omega
    · rw [List.all_eq_true] at h
      exact h j (List.mem_range.2 hj)

/-- All that an operation waits for has come up, if what it waits for directly has. -/
theorem Ok.waits (hk : Ok k ops) {D : Nat → Bool} (hD : ∀ i o, ops[i]? = some o → D i = true → ∀ e ∈ o.after, Region.binds .any e = true → D e.on = true) :
    ∀ i o, ops[i]? = some o → (∀ e ∈ o.after, Region.binds .any e = true → D e.on = true) → ∀ j, ((masks ops.toList).getD i 0).testBit j = true → D j = true := by
  intro i
  induction i using Nat.strongRecOn with
  | ind i ih =>
    intro o ho hd j hj
    obtain ⟨e, h1, h2, h3⟩ := masks_spec ops.toList i o (by simpa using ho) j hj
    have hon := hd e h1 h2
    rcases h3 with h3 | h3
    · rw [← h3]; exact hon
    · have hlt := hk.back i o ho e h1 h2
      obtain ⟨o', ho'⟩ : ∃ o', ops[e.on]? = some o' := by
        have : e.on < ops.size := by have := (Array.getElem?_eq_some_iff.1 ho).1; omega
        exact ⟨ops[e.on], by simp [this]⟩
      exact ih e.on hlt o' ho' (hD e.on o' ho' hon) j h3
end
end Go.Grow

namespace Go.Grow
section
variable {P : Program} {ops : Array Oper} {E : World → World → Prop} {w0 : World} {Q : Exit → Act → World → Prop} {Tail : Act → World → Prop} {k : Nat} {ms : List (Option (Value → World → Prop))} {a0 : Act}

/-- A whole way. -/
structure Way (P : Program) (ops : Array Oper) (E : World → World → Prop) (w0 : World) (Q : Exit → Act → World → Prop) (Tail : Act → World → Prop) (k : Nat) (ms : List (Option (Value → World → Prop))) (a0 : Act) (vs val : Nat → Value) (F : Nat → World → Prop) : Prop where
  spec : ∀ j o, j < k → ops[j]? = some o → Spec P ops E w0 Q vs val F (ms.getD j none) o j (fr (dsts ops) val a0 j)
  tail : ∀ w, E w0 w → (∀ j, j < k → F j w) → Tail (fr (dsts ops) val a0 k) w

theorem way_of (hk : k ≤ ops.size) (h : Rounds P ops E w0 Q Tail ms (ops.toList.take k) [] a0) (vs : Nat → Value) : ∃ val F, Way P ops E w0 Q Tail k ms a0 vs val F := by
  obtain ⟨val, F, ht⟩ := tr_of_rounds vs _ ms 0 [] a0 h
  have hl : (ops.toList.take k).length = k := by simp; omega
  have h1 : ∀ j, j < (ops.toList.take k).length → (ops.toList.take k)[j]? = ops[0 + j]? := by
    intro j hj
    rw [hl] at hj
    rw [List.getElem?_take, if_pos hj, Nat.zero_add]
    simp
  obtain ⟨h2, h3⟩ := Tr.spec a0 (ops.toList.take k) ms 0 h1 ht
  rw [hl] at h2 h3
  exact ⟨val, F, fun j o hj ho => by have := h2 j o hj (by rwa [Nat.zero_add]); rwa [Nat.zero_add] at this, fun w hw hf => by
    have := h3 w hw (by rwa [Nat.zero_add]); rwa [Nat.zero_add] at this⟩

/-- D: what has come up; what it waits for is in it. -/
def Closed (ops : Array Oper) (D : Nat → Bool) : Prop := ∀ i o, ops[i]? = some o → D i = true → ∀ e ∈ o.after, Region.binds .any e = true → D e.on = true

theorem looks_same (hO : Ok k ops) {val : Nat → Value} {D : Nat → Bool} {i : Nat} {o : Oper} (hi : i < k) (ho : ops[i]? = some o)
    (hd : ∀ e ∈ o.after, Region.binds .any e = true → D e.on = true) (t : Tmp) (ht : t ∈ o.looksAt ops) :
    (fr (dsts ops) val a0 i).tmps[t]? = (fd (dsts ops) val D a0 k).tmps[t]? := by
  rw [fr_eq_fd]
  by_cases hex : ∃ j, j < k ∧ dsts ops j = some t
  · obtain ⟨j, hj, hjt⟩ := hex
    obtain ⟨e, h1, h2, h3⟩ := hO.looks i o hi ho t ht j hj hjt
    have hlt := hO.back i o ho e h1 h2
    have hu : ∀ q, q < k → dsts ops q = some t → q = j := fun q hq hqt => Classical.byContradiction fun hne => hO.one j q t hj hq hne hjt hqt
    rw [fd_one t j hjt rfl i (by omega) (fun q hq => hu q (by omega)), fd_one t j hjt (by rw [← h3]; exact hd e h1 h2) k hj hu]
  · rw [fd_none t i (fun q hq _ h => hex ⟨q, by omega, h⟩), fd_none t k (fun q hq _ h => hex ⟨q, hq, h⟩)]

theorem deps_range {F : Nat → World → Prop} {i : Nat} {o : Oper} (hb : ∀ e ∈ o.after, Region.binds .any e = true → e.on < i) (w : World) :
    depsHold o ((List.range i).map F) w ↔ ∀ e ∈ o.after, Region.binds .any e = true → F e.on w := by
  have key : ∀ n, n < i → (((List.range i).map F).getD n fun _ => True) = F n := by
    intro n hn
    rw [List.getD_eq_getElem?_getD, List.getElem?_map, List.getElem?_range hn]
    rfl
  unfold depsHold
  constructor <;> intro h e he hbe <;> have := h e he hbe
  · rwa [key _ (hb e he hbe)] at this
  · rwa [key _ (hb e he hbe)]

/-- Two ways that agree on the values of what has come up. -/
theorem agree (hO : Ok k ops) {vs vs' val val' : Nat → Value} {F F' : Nat → World → Prop} (h : Way P ops E w0 Q Tail k ms a0 vs val F) (h' : Way P ops E w0 Q Tail k ms a0 vs' val' F') {D : Nat → Bool} (hD : Closed ops D)
    (hv : ∀ i, D i = true → vs i = vs' i) {w : World} (hw : E w0 w) (hF : ∀ i, i < k → D i = true → F i w) : ∀ i, i < k → D i = true → val i = val' i ∧ F i = F' i := by
  intro i
  induction i using Nat.strongRecOn with
  | ind i ih =>
    intro hi hDi
    have hsz : i < ops.size := by have := hO.le; omega
    obtain ⟨o, ho⟩ : ∃ o, ops[i]? = some o := ⟨ops[i], by simp [hsz]⟩
    have hd := hD i o ho hDi
    have hb := hO.back i o ho
    have s1 := h.spec i o hi ho
    have s2 := h'.spec i o hi ho
    -- the frames as far as they are looked at
    let D' : Nat → Bool := fun j => decide (j < i) && D j
    have hd' : ∀ e ∈ o.after, Region.binds .any e = true → D' e.on = true := fun e he hbe => by
      simp only [D', Bool.and_eq_true, decide_eq_true_eq]
      exact ⟨hb e he hbe, hd e he hbe⟩
    have hfd : fd (dsts ops) val D' a0 k = fd (dsts ops) val' D' a0 k := fd_congr k (fun _ _ => rfl) fun j hj hDj => by
      simp only [D', Bool.and_eq_true, decide_eq_true_eq] at hDj
      exact (ih j hDj.1 hj hDj.2).1
    obtain ⟨e1, e2⟩ := same_of_looks (ops := ops) (a := fr (dsts ops) val a0 i) (b := fr (dsts ops) val' a0 i) (hO.sel i o · · ho) fun t ht => by
      rw [looks_same hO hi ho hd' t ht, looks_same hO hi ho hd' t ht, hfd]
    have dep1 : depsHold o ((List.range i).map F) w := (deps_range hb w).2 fun e he hbe => hF e.on (by have := hb e he hbe; omega) (hd e he hbe)
    have dep2 : depsHold o ((List.range i).map F') w := (deps_range hb w).2 fun e he hbe => by
      have hlt := hb e he hbe
      rw [← (ih e.on hlt (by omega) (hd e he hbe)).2]
      exact hF e.on (by omega) (hd e he hbe)
    unfold Spec at s1 s2
    rw [← e2] at s2
    by_cases hw' : Region.wanted o (yielded ops (fr (dsts ops) val a0 i).tmps) = true
    · rw [if_pos hw'] at s1 s2
      cases hm : ms.getD i none with
      | none =>
        rw [hm] at s1 s2
        have r1 := s1.2 w hw dep1
        have r2 := s2.2 w hw dep2
        rw [e1] at r1
        rw [r1] at r2
        injection r2 with r2
        injection r2 with r2
        exact ⟨r2, by rw [s1.1, s2.1]⟩
      | some S =>
        rw [hm] at s1 s2
        exact ⟨by rw [s1.1, s2.1, hv i hDi], by rw [s1.2.1, s2.2.1, hv i hDi]⟩
    · rw [if_neg hw'] at s1 s2
      exact ⟨by rw [s1.1, s2.1], by rw [s1.2, s2.2]⟩

/-- Where things stand: some operations have come up, in whatever order. -/
structure At (P : Program) (ops : Array Oper) (E : World → World → Prop) (w0 : World) (Q : Exit → Act → World → Prop) (Tail : Act → World → Prop) (k : Nat) (ms : List (Option (Value → World → Prop))) (a0 : Act) (D : Nat → Bool) (a : Act) (w : World) : Prop where
  way : ∃ vs val F, Way P ops E w0 Q Tail k ms a0 vs val F ∧ a = fd (dsts ops) val D a0 k ∧ ∀ i, i < k → D i = true → F i w
  ew : E w0 w
  closed : Closed ops D

theorem put_same {A a : Act} {d : Option Tmp} {v v' : Value} (hs : A.tmps.size = a.tmps.size) (h : A.put d v = A.put d v') : a.put d v = a.put d v' := by
  cases d with
  | none => rfl
  | some t =>
    by_cases ht : t < A.tmps.size
    · have h1 := congrArg (fun x : Act => x.tmps[t]?) h
      simp only [put_tmps_at] at h1
      rw [Array.getElem?_eq_getElem ht] at h1
      simp at h1
      rw [h1]
    · have ht' : a.tmps.size ≤ t := by rw [← hs]; exact Nat.le_of_not_lt ht
      simp only [Act.put]
      rw [Array.setIfInBounds_eq_of_size_le ht', Array.setIfInBounds_eq_of_size_le ht']

/-- An operation that was asked in one frame, in another that agrees in all that it looks at. -/
theorem run_one {A a : Act} {o : Oper} {S : Value → World → Prop} {w : World} {K : Act → World → Prop} (hs : A.tmps.size = a.tmps.size) (he : execOp A.eval o = execOp a.eval o)
    (hw : Region.wanted o (yielded ops A.tmps) = true) (h : wpList P ops (endAt E A o.dst w S Q) [o] A w) (hK : ∀ v w', E w w' → S v w' → (∀ x w1, (execOp a.eval o).run P w = .ok (.value x) w1 → a.put o.dst v = a.put o.dst x ∧ w' = w1) → K (a.put o.dst v) w') :
    o.wp P a w K Q ∨ (o.asks P a w ∧ LetsOut Q) := by
  unfold wpList at h
  rw [if_pos hw] at h
  rcases h with h | ⟨h1, h2⟩
  · left
    unfold Oper.wp at h ⊢
    rw [he] at h
    generalize (execOp a.eval o).run P w = r at h hK ⊢
    cases r with
    | ok n w' =>
      have key : ∀ v w1, (∀ x w2, Result.ok n w' = .ok (.value x) w2 → v = x ∧ w1 = w2) → wpList P ops (endAt E A o.dst w S Q) [] (A.put o.dst v) w1 → K (a.put o.dst v) w1 := by
        rintro v w1 hx ⟨v', h1, h2, h3⟩
        have e := put_same hs h1
        rw [e]
        exact hK v' w1 h2 h3 (fun x w2 hr => by
          obtain ⟨rfl, rfl⟩ := hx x w2 hr
          exact ⟨e.symm, rfl⟩)
      cases n <;> simp only [Oper.upon] at h ⊢
      case value v => exact key _ _ (fun x w2 e => by injection e with e1 e2; injection e1 with e1; exact ⟨e1, e2⟩) h
      case skip => exact key _ _ (fun x w2 e => by injection e with e1 e2; cases e1) h
      case defer d =>
        obtain ⟨v', h1, _⟩ := h
        exfalso
        have := congrArg (fun x : Act => x.defers.length) h1
        cases hd : o.dst <;> rw [hd] at this <;> simp [Act.put] at this
      case enter f args =>
        refine Calls.mono h fun e w'' he => ?_
        cases e with
        | returned v => exact key _ _ (fun x w2 e => by injection e with e1 e2; cases e1) he
        | panicked c => exact he.elim
        | outgrown => obtain ⟨x, y, hx⟩ := he; exact ⟨x, y, hx⟩
      case row row args => exact Rows.mono h fun v w'' he => key _ _ (fun x w2 e => by injection e with e1 e2; cases e1) he
    | halt x w' =>
      cases x <;> simp only [Oper.upon] at h ⊢
      case panic v => exact h.elim
  · right
    refine ⟨?_, ?_⟩
    · unfold Oper.asks at h1 ⊢
      rw [he] at h1
      exact h1
    · obtain ⟨x, y, hx⟩ := h2
      exact ⟨x, y, hx⟩

theorem At.step (hO : Ok k ops) (htr : ∀ a b c, E a b → E b c → E a c) (hst : ∀ S, some S ∈ ms → ∀ v, Stable E (S v)) (hR : Rounds P ops E w0 Q Tail ms (ops.toList.take k) [] a0) {D : Nat → Bool} {a : Act} {w : World} (h : At P ops E w0 Q Tail k ms a0 D a w) {i : Nat} {o : Oper} (hi : i < k) (ho : ops[i]? = some o) (hDi : D i = false)
    (hd : ∀ e ∈ o.after, Region.binds .any e = true → D e.on = true) {K : Act → World → Prop}
    (hK : ∀ v w', (w' = w ∨ E w w') → (o.guard = none → ∀ x w1, (execOp a.eval o).run P w = .ok (.value x) w1 → a.put o.dst v = a.put o.dst x ∧ w' = w1) → At P ops E w0 Q Tail k ms a0 (fun j => if j = i then true else D j) (a.put o.dst v) w' → K (a.put o.dst v) w') : wpOp P ops Q i K a w := by
  obtain ⟨⟨vs, val, F, hW, ha, hF⟩, ew, hD⟩ := h
  have hb := hO.back i o ho
  have s1 := hW.spec i o hi ho
  obtain ⟨e1, e2⟩ := same_of_looks (ops := ops) (a := fr (dsts ops) val a0 i) (b := a) (hO.sel i o · · ho) fun t ht => by
    rw [ha]; exact looks_same hO hi ho hd t ht
  have dep : depsHold o ((List.range i).map F) w := (deps_range hb w).2 fun e he hbe => hF e.on (by have := hb e he hbe; omega) (hd e he hbe)
  have hD' : Closed ops (fun j => if j = i then true else D j) := by
    intro q oq hoq hq e he hbe
    by_cases hqi : q = i
    · subst hqi
      rw [ho] at hoq
      cases hoq
      show (if e.on = q then true else D e.on) = true
      split
      · rfl
      · exact hd e he hbe
    · simp only [if_neg hqi] at hq
      show (if e.on = i then true else D e.on) = true
      split
      · rfl
      · exact hD q oq hoq hq e he hbe
  have hset : ∀ val : Nat → Value, fd (dsts ops) val (fun j => if j = i then true else D j) a0 k = (fd (dsts ops) val D a0 k).put o.dst (val i) := fun val => by
    rw [fd_set hi hDi fun j t hj hne hit => hO.one i j t hi hj hne hit]
    simp [dsts, ho]
  have hsz : (fr (dsts ops) val a0 i).tmps.size = a.tmps.size := by rw [ha, fr_eq_fd, fd_size, fd_size]
  unfold wpOp
  simp only [ho]
  unfold Spec at s1
  rw [← e2]
  by_cases hw : Region.wanted o (yielded ops (fr (dsts ops) val a0 i).tmps) = true
  · rw [if_pos hw] at s1 ⊢
    cases hm : ms.getD i none with
    | none =>
      rw [hm] at s1
      left
      have r := s1.2 w ew dep
      rw [e1] at r
      unfold Oper.wp
      rw [r, Oper.upon_value]
      refine hK _ _ (.inl rfl) (fun _ x w1 hx => ?_) ⟨⟨vs, val, F, hW, by rw [hset, ha], fun j hj hDj => ?_⟩, ew, hD'⟩
      · rw [r] at hx
        injection hx with h1 h2
        injection h1 with h1
        rw [h1]
        exact ⟨rfl, h2⟩
      by_cases hji : j = i
      · subst hji; rw [s1.1]; trivial
      · exact hF j hj (by simpa [hji] using hDj)
    | some S =>
      rw [hm] at s1
      refine run_one hsz e1 hw (s1.2.2 w ew dep) fun v w' hE hS hrx => ?_
      obtain ⟨val', F', hW'⟩ := way_of hO.le hR (fun j => if j = i then v else vs j)
      have hag := agree hO hW hW' hD (fun j hj => by
        have : j ≠ i := fun e => by rw [e, hDi] at hj; cases hj
        rw [if_neg this]) ew hF
      have hfd : fd (dsts ops) val D a0 k = fd (dsts ops) val' D a0 k := fd_congr k (fun _ _ => rfl) fun j hj hDj => (hag j hj hDj).1
      have s2 := hW'.spec i o hi ho
      obtain ⟨_, f2⟩ := same_of_looks (ops := ops) (a := fr (dsts ops) val' a0 i) (b := a) (hO.sel i o · · ho) fun t ht => by
        rw [ha, hfd]; exact looks_same hO hi ho hd t ht
      unfold Spec at s2
      rw [f2, ← e2, if_pos hw, hm] at s2
      have hvi : val' i = v := by rw [s2.1]; simp
      have hFi : F' i = S v := by rw [s2.2.1]; simp
      have hmem : some S ∈ ms := by
        rw [List.getD_eq_getElem?_getD] at hm
        cases hg : ms[i]? with
        | none => rw [hg] at hm; cases hm
        | some x => rw [hg] at hm; cases hm; exact List.mem_of_getElem? hg
      refine hK _ _ (.inr hE) (fun _ => hrx) ⟨⟨_, val', F', hW', by rw [hset, hvi, ← hfd, ha], fun j hj hDj => ?_⟩, htr _ _ _ ew hE, hD'⟩
      by_cases hji : j = i
      · subst hji; rw [hFi]; exact hS
      · have hDj' : D j = true := by simpa [hji] using hDj
        rw [← (hag j hj hDj').2]
        -- what is known stays true
        have hfj := hF j hj hDj'
        have hsz : j < ops.size := by have := hO.le; omega
        obtain ⟨oj, hoj⟩ : ∃ o, ops[j]? = some o := ⟨ops[j], by simp [hsz]⟩
        have sj := hW.spec j oj hj hoj
        unfold Spec at sj
        by_cases hwj : Region.wanted oj (yielded ops (fr (dsts ops) val a0 j).tmps) = true
        · rw [if_pos hwj] at sj
          cases hmj : ms.getD j none with
          | none => rw [hmj] at sj; rw [sj.1]; trivial
          | some Sj =>
            rw [hmj] at sj
            have hmemj : some Sj ∈ ms := by
              rw [List.getD_eq_getElem?_getD] at hmj
              cases hg : ms[j]? with
              | none => rw [hg] at hmj; cases hmj
              | some x => rw [hg] at hmj; cases hmj; exact List.mem_of_getElem? hg
            rw [sj.2.1] at hfj ⊢
            exact hst Sj hmemj (vs j) _ _ hE hfj
        · rw [if_neg hwj] at sj
          rw [sj.2]; trivial
  · rw [if_neg hw] at s1 ⊢
    refine hK _ _ (.inl rfl) (fun hg => absurd (by simp [Region.wanted, hg]) hw) ⟨⟨vs, val, F, hW, by rw [hset, ha, s1.1], fun j hj hDj => ?_⟩, ew, hD'⟩
    by_cases hji : j = i
    · subst hji; rw [s1.2]; trivial
    · exact hF j hj (by simpa [hji] using hDj)
end
end Go.Grow

namespace Go.Grow
/-! ### the region -/
section
variable {P : Program} {ops : Array Oper} {E : World → World → Prop} {w0 : World} {Q : Exit → Act → World → Prop} {k : Nat} {ms : List (Option (Value → World → Prop))} {a0 : Act}

/-- Behind the first operations the others come up in the text's order. -/
theorem any_tail (hO : Ok k ops) : ∀ (fuel t : Nat) (listed : Array Bool) (a : Act) (w : World), k ≤ t → t ≤ ops.size → ops.size - t ≤ fuel → listed.size = ops.size → (∀ i, i < ops.size → listed.getD i false = decide (i < t)) →
    wpOps P ops Q (List.range' t (ops.size - t)) a w → wpAny P .any ops Q fuel listed a w := by
  intro fuel
  have hgt : ∀ (listed : Array Bool) (i : Nat), i < listed.size → listed.getD i true = listed.getD i false := fun listed i hi => by simp [hi]
  induction fuel with
  | zero =>
    intro t listed a w hkt ht hf hs hl h
    have : t = ops.size := by omega
    subst this
    refine ⟨?_, ?_⟩
    · refine List.eq_nil_iff_forall_not_mem.2 fun i hi => ?_
      obtain ⟨h1, o, ho, _⟩ := mem_ready.1 hi
      have hlt := (Array.getElem?_eq_some_iff.1 ho).1
      rw [hgt _ _ (by omega), hl i hlt] at h1
      simp at h1
      omega
    · rw [Nat.sub_self] at h
      exact h
  | succ fuel ih =>
    intro t listed a w hkt ht hf hs hl h
    by_cases e : t = ops.size
    · subst e
      have hnil : Region.ready .any ops listed = [] := by
        refine List.eq_nil_iff_forall_not_mem.2 fun i hi => ?_
        obtain ⟨h1, o, ho, _⟩ := mem_ready.1 hi
        have hlt := (Array.getElem?_eq_some_iff.1 ho).1
        rw [hgt _ _ (by omega), hl i hlt] at h1
        simp at h1
        omega
      refine ⟨fun _ => ?_, fun i hi => by rw [hnil] at hi; cases hi⟩
      rw [Nat.sub_self] at h
      exact h
    · have htl : t < ops.size := by omega
      have hcl : ∀ (n : Nat), n ≤ ops.size → Closed ops fun i => decide (i < n) := by
        intro n hn i o ho hi e he hb
        have := hO.back i o ho e he hb
        simp only [decide_eq_true_eq] at hi ⊢
        omega
      have hready : ∀ i, i ∈ Region.ready .any ops listed → i = t := by
        intro i hi
        obtain ⟨h1, o, ho, hall⟩ := mem_ready.1 hi
        have hlt := (Array.getElem?_eq_some_iff.1 ho).1
        rw [hgt _ _ (by omega), hl i hlt] at h1
        have hge : t ≤ i := by simpa using h1
        by_cases hit : i = t
        · exact hit
        · exfalso
          have := hO.waits (hcl t ht) i o ho (fun e he hb => by
            have h3 := hall e he hb
            have h4 := hO.back i o ho e he hb
            rw [hl e.on (by omega)] at h3
            exact h3) t (hO.tail i (by omega) hlt t (by omega))
          simp at this
      have htr : t ∈ Region.ready .any ops listed := by
        rw [mem_ready]
        obtain ⟨o, ho⟩ : ∃ o, ops[t]? = some o := ⟨ops[t], by simp [htl]⟩
        refine ⟨by rw [hgt _ _ (by omega), hl t htl]; simp, o, ho, fun e he hb => ?_⟩
        have := hO.back t o ho e he hb
        rw [hl e.on (by omega)]
        simpa using this
      refine ⟨fun h0 => (by rw [h0] at htr; cases htr), fun i hi => ?_⟩
      obtain rfl := hready i hi
      have e1 : ops.size - i = (ops.size - (i + 1)) + 1 := by omega
      rw [e1, List.range'_succ, wpOps_cons] at h
      refine wpOp_mono (fun a' w' h' => ih (i + 1) _ a' w' (by omega) (by omega) (by omega) (by simpa using hs) (fun j hj => ?_) h') h
      by_cases hji : i = j
      · subst hji
        simp [hs, hj]
      · rw [getD_set_ne false hji, hl j hj, decide_eq_decide]
        omega

theorem any_grow (I : (Nat → Bool) → Act → World → Prop) (hI : ∀ D a w i o v w', I D a w → i < k → ops[i]? = some o → D i = false → (w' = w ∨ E w w') → (o.guard = none → ∀ x w1, (execOp a.eval o).run P w = .ok (.value x) w1 → a.put o.dst v = a.put o.dst x ∧ w' = w1) → I (fun j => if j = i then true else D j) (a.put o.dst v) w')
    (hO : Ok k ops) (htr : ∀ a b c, E a b → E b c → E a c) (hst : ∀ S, some S ∈ ms → ∀ v, Stable E (S v)) (hR : Rounds P ops E w0 Q (fun a w => I (fun i => decide (i < k)) a w → wpOps P ops Q (List.range' k (ops.size - k)) a w) ms (ops.toList.take k) [] a0) :
    ∀ (fuel : Nat) (listed : Array Bool) (a : Act) (w : World), ops.size - k + ((List.range k).filter fun i => !listed.getD i false).length ≤ fuel → listed.size = ops.size → (∀ i, k ≤ i → i < ops.size → listed.getD i false = false) →
      At P ops E w0 Q (fun a w => I (fun i => decide (i < k)) a w → wpOps P ops Q (List.range' k (ops.size - k)) a w) k ms a0 (fun i => listed.getD i false) a w → I (fun i => listed.getD i false) a w → wpAny P .any ops Q fuel listed a w := by
  have hle := hO.le
  have hgt : ∀ (listed : Array Bool) (i : Nat), i < listed.size → listed.getD i true = listed.getD i false := fun listed i hi => by simp [hi]
  have done : ∀ (fuel : Nat) (listed : Array Bool) (a : Act) (w : World), ops.size - k ≤ fuel → listed.size = ops.size → (∀ i, k ≤ i → i < ops.size → listed.getD i false = false) → (∀ i, i < k → listed.getD i false = true) →
      At P ops E w0 Q (fun a w => I (fun i => decide (i < k)) a w → wpOps P ops Q (List.range' k (ops.size - k)) a w) k ms a0 (fun i => listed.getD i false) a w → I (fun i => listed.getD i false) a w → wpAny P .any ops Q fuel listed a w := by
    intro fuel listed a w hf hs hrest hall hA hIa
    obtain ⟨⟨vs, val, F, hW, ha, hF⟩, ew, _⟩ := hA
    refine any_tail hO fuel k listed a w (Nat.le_refl _) hle hf hs (fun i hi => ?_) ?_
    · by_cases h : i < k
      · rw [hall i h]; simp [h]
      · rw [hrest i (by omega) hi]; simp [h]
    · have h1 := hW.tail w ew fun i hi => hF i hi (hall i hi)
      have h2 : fr (dsts ops) val a0 k = a := by
        rw [ha, fr_eq_fd]
        exact fd_congr k (fun i hi => (hall i hi).symm) fun _ _ _ => rfl
      rw [h2] at h1
      have e : (fun i => listed.getD i false) = fun i => decide (i < k) := by
        funext i
        by_cases h : i < k
        · rw [hall i h]; simp [h]
        · by_cases h3 : i < ops.size
          · rw [hrest i (by omega) h3]; simp [h]
          · have : listed.getD i false = false := by simp [hs, h3]
            rw [this]; simp [h]
      rw [e] at hIa
      exact h1 hIa
  intro fuel
  induction fuel with
  | zero =>
    intro listed a w hf hs hrest hA hIa
    refine done 0 listed a w (by omega) hs hrest (fun i hi => ?_) hA hIa
    have h0 : ((List.range k).filter fun i => !listed.getD i false) = [] := List.eq_nil_of_length_eq_zero (by omega)
    rw [List.filter_eq_nil_iff] at h0
    have := h0 i (List.mem_range.2 hi)
    simpa using this
  | succ fuel ih =>
    intro listed a w hf hs hrest hA hIa
    by_cases hall : ∀ i, i < k → listed.getD i false = true
    · exact done (fuel + 1) listed a w (by omega) hs hrest hall hA hIa
    · obtain ⟨i0, hi0, hl0⟩ : ∃ i, i < k ∧ listed.getD i false = false := by
        refine Classical.byContradiction fun hn => hall fun i hi => ?_
        cases h : listed.getD i false
        · exact absurd ⟨i, hi, h⟩ hn
        · rfl
      -- the least one that has not come up may come up
      have least : ∃ i, i < k ∧ listed.getD i false = false ∧ ∀ j, j < i → listed.getD j false = true := by
        have : ∀ n, n < k → listed.getD n false = false → ∃ i, i < k ∧ listed.getD i false = false ∧ ∀ j, j < i → listed.getD j false = true := by
          intro n
          induction n using Nat.strongRecOn with
          | ind n ihn =>
            intro hn h
            by_cases hex : ∃ j, j < n ∧ listed.getD j false = false
            · obtain ⟨j, hj, hjl⟩ := hex
              exact ihn j hj (by omega) hjl
            · refine ⟨n, hn, h, fun j hj => ?_⟩
              cases h2 : listed.getD j false
              · exact absurd ⟨j, hj, h2⟩ hex
              · rfl
        exact this i0 hi0 hl0
      obtain ⟨m, hm, hml, hmj⟩ := least
      have hrm : m ∈ Region.ready .any ops listed := by
        rw [mem_ready]
        obtain ⟨o, ho⟩ : ∃ o, ops[m]? = some o := ⟨ops[m]'(by omega), by simp⟩
        exact ⟨by rw [hgt _ _ (by omega), hml], o, ho, fun e he hb => hmj _ (hO.back m o ho e he hb)⟩
      refine ⟨fun h0 => (by rw [h0] at hrm; cases hrm), fun i hi => ?_⟩
      obtain ⟨h1, o, ho, hdep⟩ := mem_ready.1 hi
      have hlt := (Array.getElem?_eq_some_iff.1 ho).1
      have hil : listed.getD i false = false := by rw [← hgt _ _ (by omega)]; exact h1
      have hik : i < k := by
        refine Nat.lt_of_not_le fun hki => ?_
        have := hO.waits hA.closed i o ho hdep i0 (hO.tail i hki hlt i0 (by omega))
        rw [hl0] at this
        cases this
      refine At.step hO htr hst hR hA hik ho hil hdep fun v w' hww hrx hA' => ?_
      have hset : ∀ j, (listed.setIfInBounds i true).getD j false = if j = i then true else listed.getD j false := by
        intro j
        by_cases hji : j = i
        · subst hji
          simp [hs, hlt]
        · rw [getD_set_ne false (Ne.symm hji), if_neg hji]
      have hIn := hI _ _ _ i o v w' hIa hik ho hil hww hrx
      refine ih _ _ w' ?_ (by simpa using hs) (fun j hj hj2 => by rw [hset, if_neg (by omega)]; exact hrest j hj hj2) ?_ ?_
      · have hfun : (fun j => !(listed.setIfInBounds i true).getD j false) = fun j => decide (j ≠ i) && !listed.getD j false := by
          funext j
          rw [hset]
          by_cases hji : j = i <;> simp [hji]
        rw [hfun, ← List.filter_filter]
        have hlen : (((List.range k).filter fun j => !listed.getD j false).filter fun j => decide (j ≠ i)).length + 1 ≤ ((List.range k).filter fun j => !listed.getD j false).length := by
          have hmem : i ∈ (List.range k).filter fun j => !listed.getD j false := List.mem_filter.2 ⟨List.mem_range.2 hik, by rw [hil]; rfl⟩
          have : ∀ l : List Nat, i ∈ l → (l.filter fun j => decide (j ≠ i)).length + 1 ≤ l.length := by
            intro l
            induction l with
            | nil => intro h; cases h
            | cons x l ihl =>
              intro h
              by_cases hx : x = i
              · subst hx
                have := List.length_filter_le (fun j => decide (j ≠ x)) l
                have hx : (x :: l).filter (fun j => decide (j ≠ x)) = l.filter (fun j => decide (j ≠ x)) := by simp
                rw [hx, List.length_cons]
                omega
              · have h' : i ∈ l := by
                  rcases List.mem_cons.1 h with h | h
                  · exact absurd h.symm hx
                  · exact h
                have := ihl h'
                have hx2 : (x :: l).filter (fun j => decide (j ≠ i)) = x :: l.filter (fun j => decide (j ≠ i)) := by simp [hx]
                rw [hx2, List.length_cons, List.length_cons]
                omega
          exact this _ hmem
        omega
      · have hfun : (fun j => if j = i then true else listed.getD j false) = fun j => (listed.setIfInBounds i true).getD j false := funext fun j => (hset j).symm
        rw [hfun] at hA'
        exact hA'
      · have hfun : (fun j => if j = i then true else listed.getD j false) = fun j => (listed.setIfInBounds i true).getD j false := funext fun j => (hset j).symm
        rw [hfun] at hIn
        exact hIn

/-- **A region that draws its order**: the first k operations, each asked once in whatever later world, then the others. -/
theorem regionI {id : Nat} {a : Act} {w : World} (k : Nat) (ms : List (Option (Value → World → Prop))) (E : World → World → Prop) (I : (Nat → Bool) → Act → World → Prop) (hI : ∀ D a w i o v w', I D a w → i < k → ops[i]? = some o → D i = false → (w' = w ∨ E w w') → (o.guard = none → ∀ x w1, (execOp a.eval o).run P w = .ok (.value x) w1 → a.put o.dst v = a.put o.dst x ∧ w' = w1) → I (fun j => if j = i then true else D j) (a.put o.dst v) w') (hI0 : I (fun _ => false) a w.drew)
    (hm : P.follows .mixedOrders = true) (hB : okB k ops = true)
    (hrefl : ∀ w, E w w) (htr : ∀ a b c, E a b → E b c → E a c) (hst : ∀ S, some S ∈ ms → ∀ v, Stable E (S v))
    (h : Rounds P ops E w.drew Q (fun a w => I (fun i => decide (i < k)) a w → wpOps P ops Q (List.range' k (ops.size - k)) a w) ms (ops.toList.take k) [] a) : (Code.region id ops true).wp P Q a w := by
  have hO := ok_of hB
  refine wp_region_any hm (any_grow I hI hO htr hst h ops.size (Array.replicate ops.size false) a w.drew ?_ (by simp) (fun i _ hi => by simp [hi]) ?_ ?_)
  · have : ((List.range k).filter fun i => !(Array.replicate ops.size false).getD i false).length ≤ k := by
      have := List.length_filter_le (fun i => !(Array.replicate ops.size false).getD i false) (List.range k)
      simpa using this
    have := hO.le
    omega
  · have hD : (fun i => (Array.replicate ops.size false).getD i false) = fun _ => false := by
      funext i
      by_cases hi : i < ops.size <;> simp [hi]
    rw [hD]
    obtain ⟨val, F, hW⟩ := way_of hO.le h (fun _ => undef)
    refine ⟨⟨_, val, F, hW, ?_, fun i _ hi => by cases hi⟩, hrefl _, fun i o _ hi => by cases hi⟩
    have : ∀ j, fd (dsts ops) val (fun _ => false) a j = a := by
      intro j
      induction j with
      | zero => rfl
      | succ j ih => simp [fd, ih]
    rw [this]
  · have hD : (fun i => (Array.replicate ops.size false).getD i false) = fun _ => false := by
      funext i
      by_cases hi : i < ops.size <;> simp [hi]
    rw [hD]
    exact hI0

/-- **A region that draws its order**: the first k operations, each asked once in whatever later world, then the others. -/
theorem region {id : Nat} {a : Act} {w : World} (k : Nat) (ms : List (Option (Value → World → Prop))) (E : World → World → Prop) (hm : P.follows .mixedOrders = true) (hB : okB k ops = true)
    (hrefl : ∀ w, E w w) (htr : ∀ a b c, E a b → E b c → E a c) (hst : ∀ S, some S ∈ ms → ∀ v, Stable E (S v))
    (h : Rounds P ops E w.drew Q (fun a w => wpOps P ops Q (List.range' k (ops.size - k)) a w) ms (ops.toList.take k) [] a) : (Code.region id ops true).wp P Q a w :=
  regionI k ms E (fun _ _ _ => True) (fun _ _ _ _ _ _ _ _ _ _ _ _ _ => trivial) trivial hm hB hrefl htr hst (by
    have e : (fun (a : Act) (w : World) => (fun (_ : Nat → Bool) (_ : Act) (_ : World) => True) (fun i => decide (i < k)) a w → wpOps P ops Q (List.range' k (ops.size - k)) a w) = fun a w => wpOps P ops Q (List.range' k (ops.size - k)) a w := by
      funext a w
      exact propext ⟨fun h => h trivial, fun h _ => h⟩
    rw [e]
    exact h)
/-- A weaker end. -/
theorem Rounds.tail {T T' : Act → World → Prop} (hT : ∀ a w, T a w → T' a w) : ∀ {l : List Oper} {ms : List (Option (Value → World → Prop))} {fs : List (World → Prop)} {a : Act}, Rounds P ops E w0 Q T ms l fs a → Rounds P ops E w0 Q T' ms l fs a
  | [], _, _, _, h => fun w h1 h2 => hT _ _ (h w h1 h2)
  | o :: rest, ms, fs, a, h => by
    unfold Rounds at h ⊢
    by_cases hw : Region.wanted o (yielded ops a.tmps) = true
    · rw [if_pos hw] at h ⊢
      cases hm : ms.headD (none : Option (Value → World → Prop)) with
      | none =>
        rw [hm] at h
        obtain ⟨u, h1, h2⟩ := h
        exact ⟨u, h1, Rounds.tail hT h2⟩
      | some S =>
        rw [hm] at h
        exact ⟨h.1, fun v => Rounds.tail hT (h.2 v)⟩
    · rw [if_neg hw] at h ⊢
      exact Rounds.tail hT h
end
end Go.Grow
end
