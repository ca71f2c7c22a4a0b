/- A part of the proof: the texts XSize, W43. -/
import Derived.Test.YtblmikccdhdjlaaGreatDoorP19
import Derived.Test.YtblmikccdhdjlaaGreatDoorP23
import Derived.Test.YtblmikccdhdjlaaGreatDoorP21
import Derived.Test.YtblmikccdhdjlaaGreatDoorP20
set_option linter.unusedVariables false
set_option linter.unusedSimpArgs false
section
namespace Lin
/-- The step, as far as row k and column c. -/
def stepTo (E : Nat → Nat → Int) (r j : Nat) (last : Int) (k c : Nat) : Nat → Nat → Int := fun q x =>
  if r < q ∧ j ≤ x ∧ (q < k ∨ (q = k ∧ x < c)) then (E q x * E r j - E q j * E r x) / last else E q x
variable {E : Nat → Nat → Int} {r j : Nat} {last : Int}
theorem stepTo_start (q x : Nat) : stepTo E r j last (r + 1) j q x = E q x := if_neg (by omega)
theorem stepTo_row {k c : Nat} (x : Nat) : stepTo E r j last k c r x = E r x := if_neg (by omega)
theorem stepTo_here {k c : Nat} : stepTo E r j last k c k c = E k c := if_neg (by omega)
theorem stepTo_set {k c : Nat} (hk : r < k) (hc : j ≤ c) (q x : Nat) : (if q = k ∧ x = c then (E k c * E r j - E k j * E r c) / last else stepTo E r j last k c q x) = stepTo E r j last k (c + 1) q x := by
  unfold stepTo
  by_cases h : q = k ∧ x = c
  · obtain ⟨rfl, rfl⟩ := h
    rw [if_pos ⟨rfl, rfl⟩, if_pos (by omega)]
  · rw [if_neg h]
    by_cases h2 : r < q ∧ j ≤ x ∧ (q < k ∨ (q = k ∧ x < c))
    · rw [if_pos h2, if_pos (by omega)]
    · rw [if_neg h2, if_neg (by omega)]
theorem stepTo_next {k n : Nat} (q x : Nat) (hx : x < n) : stepTo E r j last (k + 1) j q x = stepTo E r j last k n q x := by
  unfold stepTo
  by_cases h2 : r < q ∧ j ≤ x ∧ (q < k ∨ (q = k ∧ x < n))
  · rw [if_pos h2, if_pos (by omega)]
  · rw [if_neg h2, if_neg (by omega)]
theorem stepTo_end {m : Nat} (q x : Nat) (hq : q < m) : stepE E r j last q x = stepTo E r j last m j q x := by
  unfold stepTo stepE
  by_cases h2 : r < q ∧ j ≤ x
  · rw [if_pos h2, if_pos (by omega)]
  · rw [if_neg h2, if_neg (by omega)]
theorem runP_len2 (m : Nat) (M : Nat → Nat → Int) (j : Nat) : (runP m M j).steps.length ≤ j := by
  induction j with
  | zero => exact Nat.le_refl _
  | succ j ih =>
    show (colP m (runP m M j) j).steps.length ≤ j + 1
    rcases colP_steps m (runP m M j) j with h | h
    · rw [h]; omega
    · rw [h, List.length_append]; simp; omega
theorem runP_last (m : Nat) (M : Nat → Nat → Int) (j : Nat) : (runP m M j).last ≠ 0 := by
  obtain ⟨S, A, l, co, cs, h⟩ := Fits.run m M j
  intro e
  have h1 := h.last
  rw [e] at h1
  exact h.inv.ln _ (Nat.le_refl _) h1.symm
end Lin
namespace Go.Proofs.Xx
open Go.RowKit Go.V Go.Grow Lin
theorem size_step {a b c d e : Int} {L : Nat} (ha : (mass a.natAbs).length ≤ L) (hb : (mass b.natAbs).length ≤ L) (hc : (mass c.natAbs).length ≤ L) (hd : (mass d.natAbs).length ≤ L) :
    (mass (a * b).natAbs).length ≤ 2 * L ∧ (mass (c * d).natAbs).length ≤ 2 * L ∧ (mass (a * b - c * d).natAbs).length ≤ 2 * L + 1 ∧ (mass ((a * b - c * d) / e).natAbs).length ≤ 2 * L + 1 := by
  have h1 : (mass (a * b).natAbs).length ≤ 2 * L := by rw [Int.natAbs_mul]; exact Nat.le_trans (mass_len_mul _ _) (by omega)
  have h2 : (mass (c * d).natAbs).length ≤ 2 * L := by rw [Int.natAbs_mul]; exact Nat.le_trans (mass_len_mul _ _) (by omega)
  have h3 : (mass (a * b - c * d).natAbs).length ≤ 2 * L + 1 := Nat.le_trans (mass_len_mono (by omega : (a * b - c * d).natAbs ≤ (a * b).natAbs + (c * d).natAbs)) (mass_len_add h1 h2)
  exact ⟨h1, h2, h3, Nat.le_trans (mass_len_mono (Int.natAbs_ediv_le_natAbs _ _)) h3⟩
/-- How large the numbers of an elimination grow. -/
theorem run_size (m n : Nat) (M : Nat → Nat → Int) (L : Nat) (hL : 1 ≤ L) (hM : ∀ q x, q < m → x < n → (mass (M q x).natAbs).length ≤ L) : ∀ j, j ≤ n →
    (∀ q x, q < m → x < n → (mass ((runP m M j).E q x).natAbs).length + 1 ≤ (L + 1) * 2 ^ (runP m M j).steps.length) ∧ (mass (runP m M j).last.natAbs).length + 1 ≤ (L + 1) * 2 ^ (runP m M j).steps.length := by
  intro j
  induction j with
  | zero =>
    intro _
    have h1 : (mass 1).length ≤ 1 := Dig.digs_len_le G_two (by unfold G; omega)
    refine ⟨fun q x hq hx => ?_, ?_⟩
    · have := hM q x hq hx
      show (mass (M q x).natAbs).length + 1 ≤ (L + 1) * 2 ^ 0
      omega
    · show (mass 1).length + 1 ≤ (L + 1) * 2 ^ 0
      omega
  | succ j ih =>
    intro hj
    obtain ⟨h1, h2⟩ := ih (by omega)
    show (∀ q x, q < m → x < n → (mass ((colP m (runP m M j) j).E q x).natAbs).length + 1 ≤ (L + 1) * 2 ^ (colP m (runP m M j) j).steps.length) ∧ (mass (colP m (runP m M j) j).last.natAbs).length + 1 ≤ (L + 1) * 2 ^ (colP m (runP m M j) j).steps.length
    generalize runP m M j = s at *
    unfold colP
    cases hf : findFrom (fun i => decide (s.E i j ≠ 0)) (m - s.steps.length) s.steps.length with
    | none => exact ⟨h1, h2⟩
    | some i =>
      obtain ⟨hi, him, _, _⟩ := findFrom_some hf
      have hr : s.steps.length < m := by omega
      have him : i < m := by omega
      generalize hP : (L + 1) * 2 ^ s.steps.length = P at *
      have hP2 : (L + 1) * 2 ^ (s.steps ++ [j]).length = 2 * P := by
        rw [List.length_append, List.length_singleton, Nat.pow_succ, ← Nat.mul_assoc, hP, Nat.mul_comm]
      have hPp : 1 ≤ P := by rw [← hP]; exact Nat.mul_pos (by omega) (Nat.pow_pos (by omega))
      have hsw : ∀ q x, q < m → x < n → (mass (swapR s.E i s.steps.length q x).natAbs).length + 1 ≤ P := fun q x hq hx => by
        unfold swapR
        split
        · exact h1 _ x hr hx
        · split
          · exact h1 i x him hx
          · exact h1 q x hq hx
      refine ⟨fun q x hq hx => ?_, ?_⟩
      · show (mass (stepE (swapR s.E i s.steps.length) s.steps.length j s.last q x).natAbs).length + 1 ≤ (L + 1) * 2 ^ (s.steps ++ [j]).length
        rw [hP2]
        unfold stepE
        split
        · have k1 := hsw q x hq hx
          have k2 := hsw s.steps.length j hr (by omega)
          have k3 := hsw q j hq (by omega)
          have k4 := hsw s.steps.length x hr hx
          have := (size_step (e := s.last) (L := P - 1) (Nat.le_sub_one_of_lt k1) (Nat.le_sub_one_of_lt k2) (Nat.le_sub_one_of_lt k3) (Nat.le_sub_one_of_lt k4)).2.2.2
          omega
        · have := hsw q x hq hx
          omega
      · show (mass (swapR s.E i s.steps.length s.steps.length j).natAbs).length + 1 ≤ (L + 1) * 2 ^ (s.steps ++ [j]).length
        rw [hP2]
        have := hsw s.steps.length j hr (by omega)
        omega
end Go.Proofs.Xx
end
section
namespace Go.Proofs.Xx
open Go.RowKit Go.V Go.Grow Lin

/-- A list of ints in a row of the call's own, or nil. -/
def Ints (w : World) (B : Nat) (v : Value) (xs : List Nat) : Prop := Lst w B 3 1 v xs.length (xs.map fun (x : Nat) => Value.int .i64 (x : Int))
theorem Ints.nil (w : World) (B : Nat) : Ints w B (.slice none 0 0) [] := Lst.nil w B _ 1
theorem Ints.same {w w' : World} {B : Nat} {v : Value} {xs : List Nat} (h : Ints w B v xs) (hs : ∀ g, g < w.heap.size → v.ownBlock = some g → w'.heap[g]? = w.heap[g]?) : Ints w' B v xs := Lst.same h hs
theorem Ints.ext {w w' : World} {B : Nat} {v : Value} {xs : List Nat} (h : Ints w B v xs) (hE : Ext w w') : Ints w' B v xs := Lst.ext h hE
theorem Ints.own {w : World} {B : Nat} {v : Value} {xs : List Nat} (h : Ints w B v xs) {g : Nat} (hg : v.ownBlock = some g) : B ≤ g ∧ g < w.heap.size := Lst.own h hg
theorem Ints.weaken {w : World} {B B' : Nat} {v : Value} {xs : List Nat} (h : Ints w B v xs) (hB : B' ≤ B) : Ints w B' v xs := Lst.weaken h hB
theorem Ints.slice {w : World} {B : Nat} {v : Value} {xs : List Nat} (h : Ints w B v xs) : ∃ A c, v = .slice A xs.length c := Lst.slice h
theorem infoInt : (Tryz.prog.info? 3).map (fun i => (i.zero, i.size, i.bytes)) = some (some (.int .i64 0), 1, 8) := by kernel_rfl
/-- One more int. -/
theorem Ints.append {w : World} {B : Nat} {v : Value} {xs : List Nat} (h : Ints w B v xs) (x : Nat) (a : Addr) (c : Nat) (ha : w.cell? a = some (.int .i64 (x : Int))) (hl : xs.length ≤ 1099511627776) (hB : B ≤ w.heap.size) (ty : TypeId) :
    ∃ v' w', (Builtin.append_ #[89, 89] ty #[v, .slice (some a) 1 c]).run Tryz.prog w = .ok v' w' ∧ Ints w' B v' (xs ++ [x]) ∧ Keep w w' ∧ w.grownBy w' v.ownBlock := by
  obtain ⟨i0, hi, hzz⟩ := Option.map_eq_some_iff.1 infoInt
  simp only [Prod.mk.injEq] at hzz
  obtain ⟨hz0, hz1, hz2⟩ := hzz
  obtain ⟨v', w', k1, k2, k3, k4, _⟩ := Lst.append h 89 ty i0 _ 8 Tryz.underlying89 hi hz0 hz1 hz2 rfl (by decide) (fun u hu => by
    simp [Value.cells] at hu; subst hu; intro n e; cases e) a 1 c [.int .i64 (x : Int)] rfl (fun j u hu => by
    match j, hu with
    | 0, hu =>
      simp at hu
      subst hu
      rw [show a.add 0 = a by unfold Addr.add; split <;> simp_all]
      exact ha) (fun u hu => by simp at hu; subst hu; rfl) (fun u hu => by simp at hu; subst hu; intro n e; cases e) (by decide) (by unfold maxLen; omega) (by omega) hB
  refine ⟨v', w', k1, ?_, k3, k4⟩
  unfold Ints
  rw [List.length_append, List.map_append]
  exact k2

/-- What one statement may do that stores into one row: S0 holds ahead of the store, S1 behind it. -/
def EK (rk : Nat) (S0 S1 : World → Prop) (w w' : World) : Prop := Keep w w' ∧ w.heap.size ≤ w'.heap.size ∧ (∀ g, g < w.heap.size → g ≠ rk → w'.heap[g]? = w.heap[g]?) ∧ (S0 w → S0 w' ∨ S1 w') ∧ (S1 w → S1 w')
theorem EK.refl (rk : Nat) (S0 S1 : World → Prop) (w : World) : EK rk S0 S1 w w := ⟨Keep.refl w, Nat.le_refl _, fun _ _ _ => rfl, fun h => .inl h, fun h => h⟩
theorem EK.trans (rk : Nat) (S0 S1 : World → Prop) (a b c : World) (h : EK rk S0 S1 a b) (k : EK rk S0 S1 b c) : EK rk S0 S1 a c := by
  obtain ⟨h1, h2, h3, h4, h5⟩ := h
  obtain ⟨k1, k2, k3, k4, k5⟩ := k
  refine ⟨h1.trans k1, Nat.le_trans h2 k2, fun g hg hn => (k3 g (Nat.lt_of_lt_of_le hg h2) hn).trans (h3 g hg hn), fun h => ?_, fun h => k5 (h5 h)⟩
  rcases h4 h with q | q
  · exact k4 q
  · exact .inr (k5 q)
theorem Ext.ek {rk : Nat} {S0 S1 : World → Prop} {w w' : World} (h : Ext w w') (h0 : S0 w → S0 w') (h1 : S1 w → S1 w') : EK rk S0 S1 w w' := ⟨h.keep, h.size, fun g hg _ => h.block g hg, fun h => .inl (h0 h), h1⟩
theorem EK.cell {rk : Nat} {S0 S1 : World → Prop} {w w' : World} (h : EK rk S0 S1 w w') {a : Addr} {v : Value} (ha : w.cell? a = some v) (hn : a.block ≠ rk) : w'.cell? a = some v :=
  (World.cell?_of_block (w := w) (h.2.2.1 a.block (World.block_lt_of_cell? w a ha) hn)).trans ha
/-- What holds of the memory while a system is eliminated. -/
structure EI (W1 wr : World) (tb lb b o m n cap : Nat) (rb : Nat → Nat) (B : Nat) (E : Nat → Nat → Int) (last : Int) : Prop where
  tbl : Tbl wr b o m n rb E
  lst : NRow wr lb 1 (fun _ => last)
  t : wr.cell? ⟨tb, 0, none⟩ = some (.slice (some ⟨b, o, none⟩) m cap)
  below : Below B W1 wr
section
variable {W1 wr w' : World} {tb lb b o m n cap : Nat} {rb : Nat → Nat} {B : Nat} {E : Nat → Nat → Int} {last : Int}
theorem EI.ext (h : EI W1 wr tb lb b o m n cap rb B E last) (hE : Ext wr w') (hB : B ≤ W1.heap.size) : EI W1 w' tb lb b o m n cap rb B E last :=
  ⟨h.tbl.ext hE, h.lst.ext hE, hE.cell h.t, h.below.trans (hE.mono (Nat.le_trans hB h.below.size))⟩
theorem EI.congr (h : EI W1 wr tb lb b o m n cap rb B E last) {F : Nat → Nat → Int} (e : ∀ i c, i < m → c < n → F i c = E i c) : EI W1 wr tb lb b o m n cap rb B F last :=
  ⟨h.tbl.congr e, h.lst, h.t, h.below⟩
/-- A store into the table. -/
theorem EI.set (h : EI W1 wr tb lb b o m n cap rb B E last) {i j : Nat} (hi : i < m) (hj : j < n) {p : Bool} {v : Value} {z : Int} (hz : IsNum wr (.agg #[.bool p, v]) z) (hl : rb i ≠ lb) (ht : rb i ≠ tb) (hB : B ≤ rb i) :
    EI W1 ((wr.setCell ⟨rb i, j * 2, none⟩ (.bool p)).setCell ⟨rb i, j * 2 + 1, none⟩ v) tb lb b o m n cap rb B (fun q c => if q = i ∧ c = j then z else E q c) last := by
  obtain ⟨h1, K⟩ := h.tbl.set hi hj hz
  have hs : ∀ g, g ≠ rb i → ((wr.setCell ⟨rb i, j * 2, none⟩ (.bool p)).setCell ⟨rb i, j * 2 + 1, none⟩ v).heap[g]? = wr.heap[g]? := fun g hg => by
    rw [Below.heap_setCell _ _ _ _ hg, Below.heap_setCell _ _ _ _ hg]
  refine ⟨h1, h.lst.keep (hs _ (fun e => hl e.symm)) K, ?_, (h.below.setCell hB _).setCell hB _⟩
  rw [World.cell?_of_block (w := wr) (hs tb (fun e => ht e.symm))]
  exact h.t
/-- A store of the last pivot. -/
theorem EI.setLast (h : EI W1 wr tb lb b o m n cap rb B E last) {p : Bool} {v : Value} {z : Int} (hz : IsNum wr (.agg #[.bool p, v]) z) (hl : ∀ i, i < m → rb i ≠ lb) (hb : b ≠ lb) (ht : lb ≠ tb) (hB : B ≤ lb) :
    EI W1 ((wr.setCell ⟨lb, 0, none⟩ (.bool p)).setCell ⟨lb, 1, none⟩ v) tb lb b o m n cap rb B E z := by
  obtain ⟨h1, K⟩ := h.lst.set (j := 0) (by omega) hz
  have hs : ∀ g, g ≠ lb → ((wr.setCell ⟨lb, 0, none⟩ (.bool p)).setCell ⟨lb, 1, none⟩ v).heap[g]? = wr.heap[g]? := fun g hg => by
    rw [Below.heap_setCell _ _ _ _ hg, Below.heap_setCell _ _ _ _ hg]
  refine ⟨h.tbl.keep (fun i => (World.cell?_of_block (w := wr) (a := ⟨b, i, none⟩) (hs b hb)).symm) (fun i hi => hs _ (hl i hi)) K, ?_, ?_, (h.below.setCell hB _).setCell hB _⟩
  · obtain ⟨vs, k1, k2, k3⟩ := h1
    refine ⟨vs, k1, k2, fun j q hq => ?_⟩
    have := k3 j q hq
    have hj : j = 0 := by have := (List.getElem?_eq_some_iff.1 hq).1; omega
    subst hj
    simpa using this
  · rw [World.cell?_of_block (w := wr) (hs tb (fun e => ht e.symm))]
    exact h.t
/-- Two rows have changed places. -/
theorem EI.swapped (h : EI W1 wr tb lb b o m n cap rb B E last) {F : Nat → Nat → Int} (hT : Tbl w' b o m n rb F) (hB : Below B wr w') (hK : Keep wr w') {i k : Nat} (ho : ∀ g, g < wr.heap.size → g ≠ rb i → g ≠ rb k → w'.heap[g]? = wr.heap[g]?) (hi : i < m) (hk : k < m) (hl : ∀ i, i < m → rb i ≠ lb) (ht : ∀ i, i < m → rb i ≠ tb) :
    EI W1 w' tb lb b o m n cap rb B F last := by
  refine ⟨hT, h.lst.keep (ho _ h.lst.lt (fun e => hl i hi e.symm) (fun e => hl k hk e.symm)) hK, ?_, h.below.trans hB⟩
  rw [World.cell?_of_block (w := wr) (ho tb (World.block_lt_of_cell? wr _ h.t) (fun e => ht i hi e.symm) (fun e => ht k hk e.symm))]
  exact h.t
/-- A list of the call's own has grown. -/
theorem EI.grown (h : EI W1 wr tb lb b o m n cap rb B E last) (hK : Keep wr w') {row : Option Nat} (hG : wr.grownBy w' row) (hrow : ∀ g, row = some g → W1.heap.size ≤ g) (hr : ∀ q, q < m → rb q < W1.heap.size) (hl : lb < W1.heap.size) (ht : tb < W1.heap.size) (hb : b < W1.heap.size) (hB : B ≤ W1.heap.size) :
    EI W1 w' tb lb b o m n cap rb B E last := by
  have hs : ∀ g, g < W1.heap.size → w'.heap[g]? = wr.heap[g]? := fun g hg => hG.block g (Nat.lt_of_lt_of_le hg h.below.size) (fun e => by have := hrow g e.symm; omega)
  refine ⟨h.tbl.keep (fun i => (World.cell?_of_block (w := wr) (a := ⟨b, i, none⟩) (hs b hb)).symm) (fun i hi => hs _ (hr i hi)) hK, h.lst.keep (hs _ hl) hK, ?_, ?_⟩
  · rw [World.cell?_of_block (w := wr) (hs tb ht)]
    exact h.t
  · exact ⟨hG.os.trans h.below.os, hG.tape.trans h.below.tape, hG.output.trans h.below.output, Nat.le_trans h.below.size hG.size, fun k hk => (hs k (Nat.lt_of_lt_of_le hk hB)).trans (h.below.block k hk)⟩
end
end Go.Proofs.Xx
end
