/- A part of the proof: the texts XBase. -/
import Derived.WalkKit
import Derived.Lib.Hide
import Derived.Test.YtblmikccdhdjlaaGreatDoorP01
import Derived.Test.YtblmikccdhdjlaaGreatDoorP02
set_option linter.unusedVariables false
set_option linter.unusedSimpArgs false
section
namespace Go.V
open Go.RowKit

/-- What was there is as it was. -/
def Ext (w w' : World) : Prop := Below w.heap.size w w'
theorem Ext.refl (w : World) : Ext w w := Below.refl _ _
theorem Ext.trans (a b c : World) (h : Ext a b) (k : Ext b c) : Ext a c :=
  Below.trans h ⟨k.os, k.tape, k.output, k.size, fun i hi => k.block i (Nat.lt_of_lt_of_le hi h.size)⟩
theorem Ext.drew (w : World) : Ext w w.drew := (Below.refl _ _).drew
theorem Ext.alloc (w : World) (o : Obj) : Ext w (w.alloc o) := (Below.refl _ _).alloc (Nat.le_refl _) o
theorem Ext.cell {w w' : World} (h : Ext w w') {a : Addr} {v : Value} (hc : w.cell? a = some v) : w'.cell? a = some v :=
  (Below.cell h (World.block_lt_of_cell? w a hc)).trans hc

/-- A row of cells, one behind the other. -/
def Row (w : World) (A : Option Addr) (xs : List Value) : Prop :=
  xs = [] ∨ ∃ b o, A = some ⟨b, o, none⟩ ∧ ∀ i v, xs[i]? = some v → w.cell? ⟨b, o + i, none⟩ = some v
theorem Row.mono {w w' : World} {A : Option Addr} {xs : List Value} (h : Row w A xs) (hE : Ext w w') : Row w' A xs := by
  rcases h with h | ⟨b, o, h1, h2⟩
  · exact .inl h
  · exact .inr ⟨b, o, h1, fun i v hv => hE.cell (h2 i v hv)⟩

/-- 10 ^ 18 -/
def G : Nat := 1000000000000000000
def mass (n : Nat) : List Nat := Dig.digs G n
def u64s (xs : List Nat) : List Value := xs.map fun (x : Nat) => Value.int .u64 (x : Int)

def IsMass (w : World) (v : Value) (n : Nat) : Prop := ∃ A c, v = .slice A (mass n).length c ∧ (mass n).length ≤ c ∧ c ≤ maxLen ∧ Row w A (u64s (mass n))
theorem IsMass.mono {w w' : World} {v : Value} {n : Nat} (h : IsMass w v n) (hE : Ext w w') : IsMass w' v n := by
  obtain ⟨A, c, h1, h2, h3, h4⟩ := h
  exact ⟨A, c, h1, h2, h3, h4.mono hE⟩
def IsNum (w : World) (v : Value) (z : Int) : Prop := ∃ m, v = .agg #[.bool (decide (z < 0)), m] ∧ IsMass w m z.natAbs
theorem IsNum.mono {w w' : World} {v : Value} {z : Int} (h : IsNum w v z) (hE : Ext w w') : IsNum w' v z := by
  obtain ⟨m, h1, h2⟩ := h
  exact ⟨m, h1, h2.mono hE⟩
def IsRat (w : World) (v : Value) (q : Rat) : Prop := ∃ m d, v = .agg #[.bool (decide (q.num < 0)), m, d] ∧ IsMass w m q.num.natAbs ∧ IsMass w d q.den
theorem IsRat.mono {w w' : World} {v : Value} {q : Rat} (h : IsRat w v q) (hE : Ext w w') : IsRat w' v q := by
  obtain ⟨m, d, h1, h2, h3⟩ := h
  exact ⟨m, d, h1, h2.mono hE, h3.mono hE⟩
end Go.V

namespace Go.V
open Go.RowKit
theorem Ext.old {W w1 : World} (h : Ext W w1) : (∀ b o, b < W.heap.size → w1.cell? ⟨b, o, none⟩ = W.cell? ⟨b, o, none⟩) ∧ (∀ b o, b < W.heap.size → w1.frozen? ⟨b, o, none⟩ = W.frozen? ⟨b, o, none⟩) :=
  ⟨fun b o hb => Below.cell h (p := ⟨b, o, none⟩) hb, fun b o hb => Below.frozen h (p := ⟨b, o, none⟩) hb⟩

/-- What is known of a value, and stays. -/
structure Fact where
  S : Value → World → Prop
  st : ∀ v w w', Ext w w' → S v w → S v w'
def Fact.mass (n : Nat) : Fact := ⟨fun v w => IsMass w v n, fun _ _ _ hE h => h.mono hE⟩
def Fact.num (z : Int) : Fact := ⟨fun v w => IsNum w v z, fun _ _ _ hE h => h.mono hE⟩
def Fact.rat (q : Rat) : Fact := ⟨fun v w => IsRat w v q, fun _ _ _ hE h => h.mono hE⟩
def Fact.val (x : Value) : Fact := ⟨fun v _ => v = x, fun _ _ _ _ h => h⟩

/-- A call hands back a value of which F holds, and what was there is as it was. -/
def Ret (F : Fact) (w : World) (e : Ending) (w' : World) : Prop := ∃ v, e = .returned v ∧ F.S v w' ∧ Ext w w'

/-- What stands behind the operations that are asked. -/
def Tl (P : Program) (ops : Array Oper) (Q : Exit → Act → World → Prop) (k : Nat) (a : Act) (w : World) : Prop := wpList P ops Q (ops.toList.drop k) a w
/-- The same, where variables that were made are apart from each other. -/
def TlN (P : Program) (ops : Array Oper) (Q : Exit → Act → World → Prop) (k : Nat) (fl : List (Nat × Tmp)) (a : Act) (w : World) : Prop := (∀ p ∈ fl, ∀ q ∈ fl, p.1 ≠ q.1 → a.tmps[p.2]? ≠ a.tmps[q.2]?) → wpList P ops Q (ops.toList.drop k) a w
/-- The operations of a region that draws, asked one by one (Go.Grow). -/
def Ro (P : Program) (ops : Array Oper) (w0 : World) (Q : Exit → Act → World → Prop) (T : Act → World → Prop) (ms : List (Option Fact)) (l : List Oper) (fs : List (World → Prop)) (a : Act) : Prop :=
  Grow.Rounds P ops Ext w0 Q T (ms.map (Option.map Fact.S)) l fs a

section
variable {P : Program} {ops : Array Oper} {w0 : World} {Q : Exit → Act → World → Prop} {T : Act → World → Prop} {ms : List (Option Fact)} {a : Act} {o : Oper} {rest : List Oper} {fs : List (World → Prop)}
theorem ro_quiet {u : Value} (hg : o.guard = none) (h1 : ∀ w : World, Ext w0 w → Grow.depsHold o fs w → (execOp a.eval o).run P w = .ok (.value u) w) (h2 : Ro P ops w0 Q T ms rest (fs ++ [fun _ : World => True]) (a.put o.dst u)) :
    Ro P ops w0 Q T (none :: ms) (o :: rest) fs a := by
  unfold Ro Grow.Rounds
  rw [if_pos (by simp [Region.wanted, hg])]
  exact ⟨u, h1, h2⟩
theorem ro_op {F : Fact} (hg : o.guard = none) (h1 : ∀ w : World, Ext w0 w → Grow.depsHold o fs w → wpList P ops (Grow.endAt Ext a o.dst w F.S Q) [o] a w) (h2 : ∀ v : Value, Ro P ops w0 Q T ms rest (fs ++ [F.S v]) (a.put o.dst v)) :
    Ro P ops w0 Q T (some F :: ms) (o :: rest) fs a := by
  unfold Ro Grow.Rounds
  rw [if_pos (by simp [Region.wanted, hg])]
  exact ⟨h1, h2⟩
theorem ro_call {F : Fact} {f : FuncId} {args : Array Value} (hg : o.guard = none) (hr : ∀ w : World, (execOp a.eval o).run P w = .ok (.enter f args) w) (h1 : ∀ w : World, Ext w0 w → Grow.depsHold o fs w → Calls P f args w (Ret F w))
    (h2 : ∀ v : Value, Ro P ops w0 Q T ms rest (fs ++ [F.S v]) (a.put o.dst v)) : Ro P ops w0 Q T (some F :: ms) (o :: rest) fs a := by
  refine ro_op hg (fun w hE hd => ?_) h2
  unfold wpList
  rw [if_pos (by simp [Region.wanted, hg])]
  left
  unfold Oper.wp
  rw [hr w, Oper.upon_enter]
  refine (h1 w hE hd).mono ?_
  rintro e w' ⟨v, rfl, hS, hE'⟩
  exact ⟨v, rfl, hE', hS⟩
theorem ro_done {k : Nat} (h : ∀ w : World, Ext w0 w → (∀ f ∈ fs, f w) → wpList P ops Q (ops.toList.drop k) a w) : Ro P ops w0 Q (Tl P ops Q k) ms [] fs a := by
  unfold Ro Grow.Rounds
  exact h
theorem ro_done_new {k : Nat} {fl : List (Nat × Tmp)} (h : ∀ w : World, Ext w0 w → (∀ f ∈ fs, f w) → (∀ p ∈ fl, ∀ q ∈ fl, p.1 ≠ q.1 → a.tmps[p.2]? ≠ a.tmps[q.2]?) → wpList P ops Q (ops.toList.drop k) a w) : Ro P ops w0 Q (TlN P ops Q k fl) ms [] fs a := by
  unfold Ro Grow.Rounds
  exact h
theorem ro_region {id : Nat} {w : World} (k : Nat) (ms : List (Option Fact)) (hm : P.follows .mixedOrders = true) (hB : Grow.okB k ops = true) (h : Ro P ops w.drew Q (Tl P ops Q k) ms (ops.toList.take k) [] a) : (Code.region id ops true).wp P Q a w := by
  refine Grow.region k (ms.map (Option.map Fact.S)) Ext hm hB Ext.refl Ext.trans (fun S hS v w1 w2 hE h => ?_) ?_
  · obtain ⟨m, _, hm2⟩ := List.mem_map.1 hS
    cases m with
    | none => cases hm2
    | some F => cases hm2; exact F.st v w1 w2 hE h
  · have e : (fun a w => wpOps P ops Q (List.range' k (ops.size - k)) a w) = fun a w => wpList P ops Q (ops.toList.drop k) a w := by
      funext a w
      have := wpOps_eq_wpList (P := P) (ops := ops) (Q := Q) (ops.toList.drop k) k (fun j => by simp)
      rw [← this]
      simp
    rw [e]
    exact h
/-- What is new under each of these operations lies in slots of its own. -/
def okF (k : Nat) (ops : Array Oper) (fl : List (Nat × Tmp)) : Bool :=
  fl.all fun p => decide (p.1 < k) && (match ops[p.1]? with | some o => o.dst == some p.2 && o.guard.isNone | none => false) && (List.range k).all fun j => decide (j = p.1) || (match ops[j]? with | some oj => oj.dst != some p.2 | none => true)
theorem put_size (a : Act) (d : Option Tmp) (v : Value) : (a.put d v).tmps.size = a.tmps.size := by
  cases d <;> simp [Act.put]
/-- As ro_region; variables that are made in it are apart from each other. -/
theorem ro_region_new {id : Nat} {w : World} (k : Nat) (ms : List (Option Fact)) (fl : List (Nat × Tmp)) (hm : P.follows .mixedOrders = true) (hB : Grow.okB k ops = true) (hF : okF k ops fl = true)
    (hal : ∀ p ∈ fl, ∀ o, ops[p.1]? = some o → ∀ (f : Operand → Value) (w : World), ∃ w1, (execOp f o).run P w = .ok (.value (.pointer (some ⟨w.heap.size, 0, none⟩))) w1 ∧ w.heap.size < w1.heap.size) (hsz : ∀ p ∈ fl, p.2 < a.tmps.size)
    (h : Ro P ops w.drew Q (TlN P ops Q k fl) ms (ops.toList.take k) [] a) : (Code.region id ops true).wp P Q a w := by
  have hk : ∀ p ∈ fl, p.1 < k ∧ (∃ o, ops[p.1]? = some o ∧ o.dst = some p.2 ∧ o.guard = none) ∧ ∀ j, j < k → j ≠ p.1 → ∀ oj, ops[j]? = some oj → oj.dst ≠ some p.2 := by
    intro p hp
    have := List.all_eq_true.1 hF p hp
    simp only [Bool.and_eq_true, decide_eq_true_eq] at this
    obtain ⟨⟨h1, h2⟩, h3⟩ := this
    refine ⟨h1, ?_, fun j hj hjp oj ho => ?_⟩
    · cases hg : ops[p.1]? with
      | none => rw [hg] at h2; simp at h2
      | some o =>
        rw [hg] at h2
        simp at h2
        exact ⟨o, rfl, h2.1, h2.2⟩
    · have := List.all_eq_true.1 h3 j (List.mem_range.2 hj)
      rw [ho] at this
      simp [hjp] at this
      exact this
  refine Grow.regionI k (ms.map (Option.map Fact.S)) Ext
    (fun D a w => (∀ p ∈ fl, p.2 < a.tmps.size) ∧ (∀ p ∈ fl, D p.1 = true → ∃ g, a.tmps[p.2]? = some (.pointer (some ⟨g, 0, none⟩)) ∧ g < w.heap.size) ∧ ∀ p ∈ fl, ∀ q ∈ fl, D p.1 = true → D q.1 = true → p.1 ≠ q.1 → a.tmps[p.2]? ≠ a.tmps[q.2]?)
    (fun D a w i o v w' hI hi ho hD hww hx => ?_) ⟨hsz, fun _ _ h => (by cases h), fun _ _ _ _ h => (by cases h)⟩ hm hB Ext.refl Ext.trans (fun S hS v w1 w2 hE h => ?_) ?_
  · obtain ⟨I1, I2, I3⟩ := hI
    have hs : w.heap.size ≤ w'.heap.size := by
      rcases hww with h | h
      · rw [h]; exact Nat.le_refl _
      · exact h.size
    have other : ∀ p ∈ fl, p.1 ≠ i → (a.put o.dst v).tmps[p.2]? = a.tmps[p.2]? := fun p hp hpi => Grow.put_tmps a _ _ _ ((hk p hp).2.2 i hi (fun e => hpi e.symm) o ho)
    have self : ∀ p ∈ fl, p.1 = i → (a.put o.dst v).tmps[p.2]? = some (.pointer (some ⟨w.heap.size, 0, none⟩)) ∧ w.heap.size < w'.heap.size := fun p hp hpi => by
      obtain ⟨_, ⟨o', ho', hd, hg⟩, _⟩ := hk p hp
      rw [hpi, ho] at ho'
      cases ho'
      obtain ⟨w1, hr, hlt⟩ := hal p hp o (by rw [hpi]; exact ho) a.eval w
      obtain ⟨e1, rfl⟩ := hx hg _ _ hr
      rw [e1, hd, Grow.put_tmps_at, Array.getElem?_eq_getElem (I1 p hp)]
      exact ⟨rfl, hlt⟩
    refine ⟨fun p hp => by rw [put_size]; exact I1 p hp, fun p hp hDp => ?_, fun p hp q hq hDp hDq hpq => ?_⟩
    · by_cases e : p.1 = i
      · exact ⟨_, (self p hp e).1, (self p hp e).2⟩
      · rw [other p hp e]
        simp only [if_neg e] at hDp
        obtain ⟨g, h1, h2⟩ := I2 p hp hDp
        exact ⟨g, h1, by omega⟩
    · by_cases e : p.1 = i
      · have e2 : q.1 ≠ i := fun k => hpq (e.trans k.symm)
        simp only [if_neg e2] at hDq
        obtain ⟨g, h1, h2⟩ := I2 q hq hDq
        rw [(self p hp e).1, other q hq e2, h1]
        intro k
        simp at k <;> omega
      · simp only [if_neg e] at hDp
        rw [other p hp e]
        by_cases e2 : q.1 = i
        · obtain ⟨g, h1, h2⟩ := I2 p hp hDp
          rw [(self q hq e2).1, h1]
          intro k
          simp at k <;> omega
        · simp only [if_neg e2] at hDq
          rw [other q hq e2]
          exact I3 p hp q hq hDp hDq hpq
  · obtain ⟨m, _, hm2⟩ := List.mem_map.1 hS
    cases m with
    | none => cases hm2
    | some F => cases hm2; exact F.st v w1 w2 hE h
  · have e : (fun a w => (fun (D : Nat → Bool) (a : Act) (w : World) => (∀ p ∈ fl, p.2 < a.tmps.size) ∧ (∀ p ∈ fl, D p.1 = true → ∃ g, a.tmps[p.2]? = some (.pointer (some ⟨g, 0, none⟩)) ∧ g < w.heap.size) ∧ ∀ p ∈ fl, ∀ q ∈ fl, D p.1 = true → D q.1 = true → p.1 ≠ q.1 → a.tmps[p.2]? ≠ a.tmps[q.2]?) (fun i => decide (i < k)) a w → wpOps P ops Q (List.range' k (ops.size - k)) a w) = fun a w => (fun (D : Nat → Bool) (a : Act) (w : World) => (∀ p ∈ fl, p.2 < a.tmps.size) ∧ (∀ p ∈ fl, D p.1 = true → ∃ g, a.tmps[p.2]? = some (.pointer (some ⟨g, 0, none⟩)) ∧ g < w.heap.size) ∧ ∀ p ∈ fl, ∀ q ∈ fl, D p.1 = true → D q.1 = true → p.1 ≠ q.1 → a.tmps[p.2]? ≠ a.tmps[q.2]?) (fun i => decide (i < k)) a w → wpList P ops Q (ops.toList.drop k) a w := by
      funext a w
      have := wpOps_eq_wpList (P := P) (ops := ops) (Q := Q) (ops.toList.drop k) k (fun j => by simp)
      rw [← this]
      simp
    rw [e]
    unfold Ro at h
    refine Grow.Rounds.tail ?_ h
    intro a w hT hI
    exact hT fun p hp q hq hpq => hI.2.2 p hp q hq (decide_eq_true (hk p hp).1) (decide_eq_true (hk q hq).1) hpq
end
end Go.V
namespace Go.V
open Go.RowKit
/-- A store into a cell that holds no number leaves rows of numbers as they are. -/
theorem Row.set {w : World} {A : Option Addr} {xs : List Value} (h : Row w A xs) {p : Addr} {x : Value} (hp : w.cell? p = some x) (hx : x ∉ xs) (u : Value) : Row (w.setCell p u) A xs := by
  rcases h with h | ⟨b, o, h1, h2⟩
  · exact .inl h
  · refine .inr ⟨b, o, h1, fun i v hv => ?_⟩
    rw [World.cell?_setCell_other]
    · exact h2 i v hv
    · rintro rfl
      have := h2 i v hv
      rw [hp] at this
      cases this
      exact hx (List.mem_of_getElem? hv)
def NotInt (x : Value) : Prop := ∀ k n, x ≠ .int k n
theorem NotInt.out {x : Value} (h : NotInt x) (xs : List Nat) : x ∉ u64s xs := by
  intro hm
  obtain ⟨n, _, e⟩ := List.mem_map.1 hm
  exact h _ _ e.symm
theorem IsMass.set {w : World} {m : Value} {n : Nat} (h : IsMass w m n) {p : Addr} {x : Value} (hp : w.cell? p = some x) (hx : NotInt x) (u : Value) : IsMass (w.setCell p u) m n := by
  obtain ⟨A, c, h1, h2, h3, h4⟩ := h
  exact ⟨A, c, h1, h2, h3, h4.set hp (hx.out _) u⟩
theorem notInt_bool (b : Bool) : NotInt (.bool b) := fun _ _ h => by cases h
theorem notInt_slice (A : Option Addr) (n c : Nat) : NotInt (.slice A n c) := fun _ _ h => by cases h
theorem IsMass.notInt {w : World} {m : Value} {n : Nat} (h : IsMass w m n) : NotInt m := by
  obtain ⟨A, c, rfl, _⟩ := h
  exact notInt_slice _ _ _
/-- Three cells of a block that was laid since, stored one behind the other. -/
theorem Ext.set {w w1 : World} (h : Ext w w1) {p : Addr} (hp : w.heap.size ≤ p.block) (u : Value) : Ext w (w1.setCell p u) := Below.setCell h hp u
/-- The result's three cells, stored. -/
theorem IsRat.stored {w : World} {v : Value} {q : Rat} (h : IsRat w v q) {r : Nat} {x0 x1 x2 : Value} (h0 : w.cell? ⟨r, 0, none⟩ = some x0) (h1 : w.cell? ⟨r, 1, none⟩ = some x1) (h2 : w.cell? ⟨r, 2, none⟩ = some x2)
    (n0 : NotInt x0) (n1 : NotInt x1) (n2 : NotInt x2) (u0 u1 u2 : Value) : IsRat (((w.setCell ⟨r, 0, none⟩ u0).setCell ⟨r, 1, none⟩ u1).setCell ⟨r, 2, none⟩ u2) v q := by
  obtain ⟨m, d, rfl, hm, hd⟩ := h
  have e1 : (w.setCell ⟨r, 0, none⟩ u0).cell? ⟨r, 1, none⟩ = some x1 := by rw [World.cell?_setCell_other _ _ _ _ (by simp)]; exact h1
  have e2 : ((w.setCell ⟨r, 0, none⟩ u0).setCell ⟨r, 1, none⟩ u1).cell? ⟨r, 2, none⟩ = some x2 := by
    rw [World.cell?_setCell_other _ _ _ _ (by simp), World.cell?_setCell_other _ _ _ _ (by simp)]; exact h2
  exact ⟨m, d, rfl, ((hm.set h0 n0 u0).set e1 n1 u1).set e2 n2 u2, ((hd.set h0 n0 u0).set e1 n1 u1).set e2 n2 u2⟩
end Go.V
namespace Go.V
open Go.RowKit
/-- A slice that reads as a list of numbers. -/
def Reads (w : World) (v : Value) (xs : List Nat) : Prop := ∃ A c, v = .slice A xs.length c ∧ xs.length ≤ c ∧ c ≤ maxLen ∧ Row w A (u64s xs)
theorem IsMass.reads {w : World} {v : Value} {n : Nat} (h : IsMass w v n) : Reads w v (mass n) := h
theorem Reads.mono {w w' : World} {v : Value} {xs : List Nat} (h : Reads w v xs) (hE : Ext w w') : Reads w' v xs := by
  obtain ⟨A, c, h1, h2, h3, h4⟩ := h
  exact ⟨A, c, h1, h2, h3, h4.mono hE⟩
theorem Row.at {w : World} {A : Option Addr} {xs : List Nat} (h : Row w A (u64s xs)) (i : Nat) (hi : i < xs.length) : ∃ b o, A = some ⟨b, o, none⟩ ∧ w.cell? ⟨b, o + i, none⟩ = some (.int .u64 (xs.getD i 0 : Nat)) := by
  rcases h with h | ⟨b, o, h1, h2⟩
  · have : xs = [] := by cases xs with | nil => rfl | cons x l => cases h
    subst this
    simp at hi
  · refine ⟨b, o, h1, h2 i _ ?_⟩
    simp [u64s, List.getElem?_eq_getElem hi, List.getD_eq_getElem?_getD]
theorem Row.take {w : World} {A : Option Addr} {xs : List Nat} (h : Row w A (u64s xs)) (k : Nat) : Row w A (u64s (xs.take k)) := by
  rcases h with h | ⟨b, o, h1, h2⟩
  · left
    cases xs with
    | nil => simp [u64s]
    | cons x l => cases h
  · refine .inr ⟨b, o, h1, fun i v hv => h2 i v ?_⟩
    unfold u64s at hv ⊢
    rw [List.map_take, List.getElem?_take] at hv
    split at hv
    · exact hv
    · cases hv
theorem G_two : 2 ≤ G := by unfold G; omega
theorem mass_lt (n : Nat) : ∀ x ∈ mass n, x < G := Dig.digs_lt G_two n
end Go.V
end
