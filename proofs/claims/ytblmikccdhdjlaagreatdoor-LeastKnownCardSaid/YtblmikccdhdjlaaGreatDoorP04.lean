/- A part of the proof: the texts W1. -/
import Derived.Test.YtblmikccdhdjlaaGreatDoorProg
import Derived.Test.YtblmikccdhdjlaaGreatDoorP03
set_option linter.unusedVariables false
set_option linter.unusedSimpArgs false
section
namespace Go.Proofs.Xx
open Go.RowKit Go.V Go.Grow

/-- No cell of the slice lies below block B. -/
def Above (B : Nat) (v : Value) : Prop := ∀ A l c, v = .slice (some A) l c → 0 < l → B ≤ A.block
/-- No cell of the slice lies in block g. -/
def Off (g : Nat) (v : Value) : Prop := ∀ A l c, v = .slice (some A) l c → 0 < l → A.block ≠ g
theorem Above.off {B g : Nat} {v : Value} (h : Above B v) (hg : g < B) : Off g v := fun A l c e hl => by have := h A l c e hl; omega
theorem trim_at (A : Option Addr) (c : Nat) (xs : List Nat) (w : World) (h : Reads w (.slice A xs.length c) xs) (hx : ∀ x ∈ xs, x < G) :
    Calls Tryz.prog 161 #[.slice A xs.length c] w fun e w' => ∃ n, e = .returned (.slice A n c) ∧ n ≤ xs.length ∧ IsMass w' (.slice A n c) (Dig.val G xs) ∧ Ext w w' := by
  obtain ⟨A', c', e, hc, hm, hr⟩ := h
  cases e
  unfold maxLen at hm
  have H : Calls Tryz.prog 161 #[.slice A xs.length c] w fun e w' => e = .returned (.slice A (Dig.tlen xs xs.length) c) ∧ w = w' := by
    have hat := hr.at
    go_enter Tryz.func161, Tryz.ntmps161
    go_wp2
    go_loop [3] (fun t => ∃ k : Nat, k ≤ xs.length ∧ t = .int .i64 k ∧ Dig.tlen xs k = Dig.tlen xs xs.length) (fun t => (intOf t).toNat)
    case atStart => exact ⟨xs.length, Nat.le_refl _, rfl, rfl⟩
    case round =>
      obtain ⟨k, hk, rfl, he⟩ := hrel
      rcases k with _ | k
      · clear hat
        go_wp2
        go_ret
        exact ⟨by rw [← he]; rfl, rfl⟩
      · obtain ⟨b, o, rfl, hc1⟩ := hat k (by omega)
        clear hat
        by_cases hx : xs[k]?.getD 0 = 0
        · go_wp2
          go_round
          case rel => exact ⟨k, by omega, rfl, by rw [← he]; simp [Dig.tlen, hx]⟩
          case measure => simp [intOf]
        · go_wp2
          go_ret
          exact ⟨by rw [← he]; simp [Dig.tlen, hx], rfl⟩
  refine H.mono ?_
  rintro e w' ⟨rfl, rfl⟩
  have ht := Dig.tlen_le xs xs.length
  have hd := Dig.digs_trim G_two xs hx
  have hl : (mass (Dig.val G xs)).length = Dig.tlen xs xs.length := by unfold mass; rw [← hd, List.length_take]; omega
  exact ⟨_, rfl, ht, ⟨A, c, by rw [hl], by omega, by unfold maxLen; omega, by unfold mass; rw [← hd]; exact hr.take _⟩, Ext.refl _⟩
theorem trim_any (v : Value) (xs : List Nat) (w : World) (h : Reads w v xs) (hx : ∀ x ∈ xs, x < G) : Calls Tryz.prog 161 #[v] w (Ret (.mass (Dig.val G xs)) w) := by
  have h' := h
  obtain ⟨A, c, rfl, _⟩ := h
  refine (trim_at A c xs w h' hx).mono ?_
  rintro e w' ⟨n, rfl, _, hm, hE⟩
  exact ⟨_, rfl, hm, hE⟩
/-- A store into another block. -/
theorem Reads.set_off {w : World} {v : Value} {xs : List Nat} (h : Reads w v xs) {g o : Nat} (ho : Off g v) (u : Value) : Reads (w.setCell ⟨g, o, none⟩ u) v xs := by
  obtain ⟨A, c, rfl, hc, hm, hr⟩ := h
  refine ⟨A, c, rfl, hc, hm, ?_⟩
  rcases hr with hr | ⟨b, o', rfl, hr⟩
  · exact .inl hr
  · by_cases h0 : 0 < xs.length
    · have hne := ho _ _ _ rfl h0
      refine .inr ⟨b, o', rfl, fun i v hv => ?_⟩
      rw [World.cell?_setCell_other _ _ _ _ (by intro e; cases e; exact hne rfl)]
      exact hr i v hv
    · obtain rfl : xs = [] := List.eq_nil_of_length_eq_zero (by omega)
      exact .inl rfl
/-- What lay there before a block was made lies in another one. -/
theorem Reads.off {w : World} {v : Value} {xs : List Nat} (h : Reads w v xs) {g : Nat} (hg : w.heap.size ≤ g) : Off g v := by
  obtain ⟨A, c, rfl, hc, hm, hr⟩ := h
  intro B l c' e hl
  cases e
  rcases hr with hr | ⟨b, o', e, hr⟩
  · have : xs = [] := by cases xs with | nil => rfl | cons x l => cases hr
    subst this
    simp at hl
  · cases e
    have h1 := hr 0 (.int .u64 ((xs.getD 0 0 : Nat) : Int)) (by simp [u64s, List.getElem?_eq_getElem hl, List.getD_eq_getElem?_getD])
    have h2 : b < w.heap.size := World.block_lt_of_cell? w _ h1
    show b ≠ g
    omega
end Go.Proofs.Xx
end
