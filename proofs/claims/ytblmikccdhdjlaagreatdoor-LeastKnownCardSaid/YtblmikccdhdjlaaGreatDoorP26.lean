/- A part of the proof: the texts W45. -/
import Derived.Test.YtblmikccdhdjlaaGreatDoorP25
set_option linter.unusedVariables false
set_option linter.unusedSimpArgs false
section
namespace Go.Proofs.Xx
open Go.RowKit Go.V Go.Grow Lin

set_option maxHeartbeats 2000000 in
/-- One element of scaled. -/
theorem scaled1_any (vx : Value) (q : Rat) (mb : Nat) (vm : Value) (m : Nat) (w : World) (hx : IsRat w vx q) (hc : w.cell? ⟨mb, 0, none⟩ = some vm) (hm : IsMass w vm m) {s : Nat} (hs1 : (mass q.num.natAbs).length ≤ s) (hs2 : (mass m).length ≤ s) (hs : 2 * s ≤ 8796093022208) :
    Calls Tryz.prog 113 #[vx, .pointer (some ⟨mb, 0, none⟩)] w (Ret (.num (q.num * ((m / q.den : Nat) : Int))) w) := by
  obtain ⟨a, d, rfl, ha, hd⟩ := hx
  have HO : Hid (∀ w', Ext w w' → Calls Tryz.prog 114 #[vm, d] w' fun e w'' => ∃ u r, e = .returned (.tuple #[u, r]) ∧ IsMass w'' u (m / q.den) ∧ IsMass w'' r (m % q.den) ∧ Ext w' w'') := fun w' hE => over_any _ _ _ _ _ (hm.mono hE) (hd.mono hE) q.den_pos (by omega)
  have hql : (mass (m / q.den)).length ≤ s := Nat.le_trans (mass_len_mono (Nat.div_le_self _ _)) hs2
  have HP : Hid (∀ (u : Value) (w' : World), Ext w w' → IsMass w' u (m / q.den) → Calls Tryz.prog 115 #[.agg #[.bool (decide (q.num < 0)), a], .agg #[.bool false, u]] w' (Ret (.num (q.num * ((m / q.den : Nat) : Int))) w')) := fun u w' hE h => product_any _ _ _ _ _ ⟨_, rfl, ha.mono hE⟩ ⟨u, by rw [decide_eq_false (Int.not_lt.2 (Int.natCast_nonneg _))], by rw [Int.natAbs_natCast]; exact h⟩ (by rw [Int.natAbs_natCast]; omega)
  have E0 : Ext w ((w.alloc (.cells #[.bool (decide (q.num < 0)), a, d] 111)).alloc (.cells #[.bool false, .slice none 0 0] 109)) := alloc2 _ _ _
  have hcl : mb < w.heap.size := World.block_lt_of_cell? w _ hc
  have HA := Lib.hid ha
  obtain ⟨A1, c1, rfl, _⟩ := ha
  obtain ⟨A2, c2, rfl, _⟩ := hd
  obtain ⟨A3, c3, rfl, _⟩ := hm
  generalize (mass q.num.natAbs).length = l1 at *
  generalize (mass q.den).length = l2 at *
  generalize (mass m).length = l3 at *
  generalize decide (q.num < 0) = p at *
  clear hs1 hs2 hs hql
  have hc1 := E0.cell hc
  go_enter Tryz.func113, Tryz.ntmps113
  go_wp2_with fail
  refine (HO.out _ E0).mono ?_
  rintro e w1 ⟨u, r, rfl, hu, _, hE1⟩
  have HU := Lib.hid hu
  obtain ⟨A4, c4, rfl, _⟩ := hu
  generalize (mass (m / q.den)).length = l4 at *
  have hX := hE1.old
  have E1 := Ext.trans _ _ _ E0 hE1
  go_wp2_with fail
  refine (HP.out _ _ E1 HU.out).mono ?_
  rintro e w2 ⟨v, rfl, hv, hE2⟩
  have E2 := Ext.trans _ _ _ E0 (Ext.trans _ _ _ hE1 hE2)
  have hE3 := Ext.trans _ _ _ hE1 hE2
  clear hX
  have hX := hE3.old
  have HR := Lib.hid hv
  obtain ⟨mm, rfl, hmm⟩ := hv
  obtain ⟨A5, c5, rfl, _⟩ := hmm
  generalize (mass (q.num * ((m / q.den : Nat) : Int)).natAbs).length = l5 at *
  generalize decide (q.num * ((m / q.den : Nat) : Int) < 0) = p5 at *
  go_wp2
  refine bodyPost_ret (v := .agg #[.bool p5, .slice A5 l5 c5]) (by simp [results, Tryz.results113, go_sem, hX]) rfl ⟨_, rfl, ?_, ?_⟩
  · exact IsNum.stored HR.out (x0 := .bool false) (x1 := .slice none 0 0) (by go_simp) (by go_simp) (notInt_bool _) (notInt_slice _ _ _) _ _
  · exact (E2.set (by simp) _).set (by simp) _
end Go.Proofs.Xx
end
