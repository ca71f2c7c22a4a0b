/- A part of the proof: the texts W13, W14, W15, W16, W17. -/
import Derived.Test.YtblmikccdhdjlaaGreatDoorP14
set_option linter.unusedVariables false
set_option linter.unusedSimpArgs false
section
namespace Go.Proofs.Xx
open Go.RowKit Go.V Go.Grow

theorem u64s_inj {xs ys : List Nat} (h : u64s xs = u64s ys) : xs = ys := by
  unfold u64s at h
  apply List.map_inj_right (f := fun x : Nat => Value.int .u64 (x : Int)) (by
    intro a b e
    simp only [Value.int.injEq, true_and] at e
    exact Int.ofNat.inj e) |>.1 h
/-- A slice reads as one number only. -/
theorem IsMass.unique {w : World} {v : Value} {m n : Nat} (h : IsMass w v m) (k : IsMass w v n) : m = n := by
  obtain ⟨A, c, rfl, hc, hm, hr⟩ := h
  obtain ⟨A', c', e, hc', hm', hr'⟩ := k
  simp only [Value.slice.injEq] at e
  obtain ⟨rfl, hl, rfl⟩ := e
  have : mass m = mass n := by
    apply List.ext_getElem hl
    intro i h1 h2
    obtain ⟨b, o, e1, c1⟩ := hr.at i h1
    obtain ⟨b', o', e2, c2⟩ := hr'.at i h2
    rw [e1] at e2
    cases e2
    rw [c1] at c2
    simp only [Option.some.injEq, Value.int.injEq, true_and] at c2
    have := Int.ofNat.inj c2
    rwa [List.getD_eq_getElem?_getD, List.getElem?_eq_getElem h1, List.getD_eq_getElem?_getD, List.getElem?_eq_getElem h2] at this
  rw [← Dig.val_digs G_two m, ← Dig.val_digs G_two n]
  exact congrArg _ this
open Classical in
/-- The number as which a slice reads. -/
noncomputable def numOf (w : World) (v : Value) : Nat := if h : ∃ n, IsMass w v n then Classical.choose h else 0
theorem numOf_eq {w : World} {v : Value} {n : Nat} (h : IsMass w v n) : numOf w v = n := by
  have h1 : ∃ n, IsMass w v n := ⟨n, h⟩
  unfold numOf
  rw [dif_pos h1]
  exact IsMass.unique (Classical.choose_spec h1) h
theorem mass_len_pos {n : Nat} : 0 < (mass n).length ↔ 0 < n := by
  constructor
  · intro h
    apply Nat.pos_of_ne_zero
    rintro rfl
    simp [mass, Dig.digs_zero] at h
  · intro h
    apply Nat.pos_of_ne_zero
    intro e
    have := (Dig.digs_eq_nil G_two n).1 (List.eq_nil_of_length_eq_zero e)
    omega
theorem mass_len_mono {m n : Nat} (h : m ≤ n) : (mass m).length ≤ (mass n).length := Dig.digs_len_mono G_two h

set_option maxHeartbeats 1000000 in
set_option maxRecDepth 100000 in
theorem common_any (va vb : Value) (a b : Nat) (w : World) (ha : IsMass w va a) (hb : IsMass w vb b) (hs : (mass a).length ≤ 8796093022208) (hs2 : (mass b).length ≤ 8796093022208) :
    Calls Tryz.prog 155 #[va, vb] w (Ret (.mass (Nat.gcd a b)) w) := by
  have HA := Lib.hid hs; have HB := Lib.hid hs2
  clear hs hs2
  go_enter Tryz.func155, Tryz.ntmps155
  go_wp2
  go_loopw [0, 1] (fun p q wr => ∃ x y : Nat, IsMass wr p x ∧ IsMass wr q y ∧ (mass x).length ≤ 8796093022208 ∧ (mass y).length ≤ 8796093022208 ∧ Nat.gcd x y = Nat.gcd a b ∧ Ext w wr) (fun _ q wr => numOf wr q)
  case atStart => exact ⟨a, b, ha, hb, HA.out, HB.out, rfl, Ext.refl _⟩
  case round =>
    obtain ⟨x, y, hx, hy, hxl, hyl, hg, hE⟩ := hrel
    have HN := Lib.hid (numOf_eq hy)
    have HX := Lib.hid hx
    have HY := Lib.hid hy
    obtain ⟨A1, c1, rfl, hc1, hm1, hr1⟩ := hx
    obtain ⟨A2, c2, rfl, hc2, hm2, hr2⟩ := hy
    have HXL := Lib.hid hxl; have HYL := Lib.hid hyl
    clear hr1 hr2 hxl hyl hc1 hc2 hm1 hm2 ha hb
    by_cases h0 : 0 < y
    · have hpos : 0 < (mass y).length := mass_len_pos.2 h0
      have HO := Lib.hid (over_any _ _ x y _ HX.out HY.out h0 HXL.out)
      generalize (mass x).length = lx at *
      have HYL2 : Hid (∀ z, z ≤ y → (mass z).length ≤ 8796093022208) := fun z hz => Nat.le_trans (mass_len_mono hz) HYL.out
      generalize (mass y).length = ly at *
      go_wp2_with fail
      refine HO.out.mono ?_
      rintro e w' ⟨q, r, rfl, hq, hr, hE2⟩
      clear HO
      go_wp2
      go_roundw
      case rel => exact ⟨y, x % y, HY.out.mono hE2, hr, HYL2.out _ (Nat.le_refl _), HYL2.out _ (Nat.le_of_lt (Nat.mod_lt _ h0)), by rw [← hg, Nat.gcd_comm x y, Nat.gcd_rec y x, Nat.gcd_comm], Ext.trans _ _ _ hE hE2⟩
      case measure =>
        rw [numOf_eq hr, HN.out]
        exact Nat.mod_lt _ h0
    · obtain rfl : y = 0 := by omega
      rw [Nat.gcd_zero_right] at hg
      have hlz : (mass 0).length = 0 := rfl
      rw [hlz]
      generalize (mass x).length = lx at *
      go_wp2
      go_ret
      exact ⟨_, rfl, (by rw [← hg]; exact HX.out), hE⟩
end Go.Proofs.Xx
end
section
namespace Go.Proofs.Xx
open Go.RowKit Go.V Go.Grow

/-- The result's two cells, stored. -/
theorem IsNum.stored {w : World} {v : Value} {z : Int} (h : IsNum w v z) {r : Nat} {x0 x1 : Value} (h0 : w.cell? ⟨r, 0, none⟩ = some x0) (h1 : w.cell? ⟨r, 1, none⟩ = some x1) (n0 : NotInt x0) (n1 : NotInt x1) (u0 u1 : Value) :
    IsNum ((w.setCell ⟨r, 0, none⟩ u0).setCell ⟨r, 1, none⟩ u1) v z := by
  obtain ⟨m, rfl, hm⟩ := h
  have e1 : (w.setCell ⟨r, 0, none⟩ u0).cell? ⟨r, 1, none⟩ = some x1 := by rw [World.cell?_setCell_other _ _ _ _ (by simp)]; exact h1
  exact ⟨m, rfl, (hm.set h0 n0 u0).set e1 n1 u1⟩

theorem mass_stored {w : World} {v : Value} {n r : Nat} (h : IsMass w v n) (h0 : w.cell? ⟨r, 0, none⟩ = some (.bool false)) (h1 : w.cell? ⟨r, 1, none⟩ = some (.slice none 0 0)) (u0 u1 : Value) :
    IsMass ((w.setCell ⟨r, 0, none⟩ u0).setCell ⟨r, 1, none⟩ u1) v n := by
  have e1 : (w.setCell ⟨r, 0, none⟩ u0).cell? ⟨r, 1, none⟩ = some (.slice none 0 0) := by rw [World.cell?_setCell_other _ _ _ _ (by simp)]; exact h1
  exact (h.set h0 (notInt_bool _) u0).set e1 (notInt_slice _ _ _) u1

theorem turned_any (va : Value) (a : Int) (w : World) (ha : IsNum w va a) : Calls Tryz.prog 131 #[va] w (Ret (.num (-a)) w) := by
  obtain ⟨m, rfl, hm⟩ := ha
  have HM := Lib.hid hm
  obtain ⟨A, c, rfl, hc, hm1, hr⟩ := hm
  have hl : ((mass a.natAbs).length = 0 ↔ a = 0) := by
    have := mass_len_pos (n := a.natAbs)
    omega
  have HL := Lib.hid hl
  clear hl hr hm1 hc
  generalize hlen : (mass a.natAbs).length = l at *
  have HLEN := Lib.hid hlen
  clear hlen
  have HFIN : Hid (∀ (b : Bool) (w' : World), b = decide (-a < 0) → Ext w w' → IsNum w' (.agg #[.bool b, .slice A l c]) (-a)) := fun b w' hb hE => by
    subst hb
    exact ⟨_, rfl, by rw [Int.natAbs_neg]; exact HM.out.mono hE⟩
  by_cases h : a < 0
  · go_enter Tryz.func131, Tryz.ntmps131
    go_wp2
    refine bodyPost_ret (v := .agg #[.bool false, .slice A l c]) (by simp [results, Tryz.results131, go_sem]) rfl ⟨_, rfl, HFIN.out _ _ ?_ ?_, ?_⟩
    · exact (decide_eq_false (by omega)).symm
    · exact ((Below.refl _ _).alloc (Nat.le_refl _) _).alloc (by simp) _
    · exact ((Below.refl _ _).alloc (Nat.le_refl _) _).alloc (by simp) _
  · by_cases h0 : 0 < l
    · have h1 : -a < 0 := by have := HL.out; omega
      have H1 := Lib.hid h1; clear h1
      go_enter Tryz.func131, Tryz.ntmps131
      go_wp2
      refine bodyPost_ret (v := .agg #[.bool true, .slice A l c]) (by simp [results, Tryz.results131, go_sem]) rfl ⟨_, rfl, HFIN.out _ _ ?_ ?_, ?_⟩
      · exact (decide_eq_true H1.out).symm
      · exact ((Below.refl _ _).alloc (Nat.le_refl _) _).alloc (by simp) _
      · exact ((Below.refl _ _).alloc (Nat.le_refl _) _).alloc (by simp) _
    · have h1 : ¬ -a < 0 := by have := HL.out; omega
      have H1 := Lib.hid h1; clear h1
      go_enter Tryz.func131, Tryz.ntmps131
      go_wp2
      refine bodyPost_ret (v := .agg #[.bool false, .slice A l c]) (by simp [results, Tryz.results131, go_sem]) rfl ⟨_, rfl, HFIN.out _ _ ?_ ?_, ?_⟩
      · exact (decide_eq_false (by have := H1.out; omega)).symm
      · exact ((Below.refl _ _).alloc (Nat.le_refl _) _).alloc (by simp) _
      · exact ((Below.refl _ _).alloc (Nat.le_refl _) _).alloc (by simp) _

/-- The sign. -/
theorem side_any (va : Value) (a : Int) (w : World) (ha : IsNum w va a) : Calls Tryz.prog 119 #[va] w fun e w' => e = .returned (.int .i64 a.sign) ∧ Ext w w' := by
  obtain ⟨m, rfl, hm⟩ := ha
  obtain ⟨A, c, rfl, hc, hm1, hr⟩ := hm
  have hl : ((mass a.natAbs).length = 0 ↔ a = 0) := by
    have := mass_len_pos (n := a.natAbs)
    omega
  have HL := Lib.hid hl
  clear hl hr hm1 hc
  generalize hlen : (mass a.natAbs).length = l at *
  clear hlen
  by_cases h : a < 0
  · have HS : Hid (a.sign = -1) := Int.sign_eq_neg_one_of_neg h
    go_enter Tryz.func119, Tryz.ntmps119
    go_wp2
    go_ret
    exact ⟨by rw [HS.out]; rfl, Ext.alloc _ _⟩
  · by_cases h0 : 0 < l
    · have HS : Hid (a.sign = 1) := Int.sign_eq_one_of_pos (by have := HL.out; omega)
      go_enter Tryz.func119, Tryz.ntmps119
      go_wp2
      go_ret
      exact ⟨by rw [HS.out]; rfl, Ext.alloc _ _⟩
    · have HS : Hid (a.sign = 0) := by have := HL.out; rw [show a = 0 by omega]; rfl
      go_enter Tryz.func119, Tryz.ntmps119
      go_wp2
      go_ret
      exact ⟨by rw [HS.out]; rfl, Ext.alloc _ _⟩
end Go.Proofs.Xx
end
section
namespace Go.Proofs.Xx
open Go.RowKit Go.V Go.Grow

theorem mul_neg_iff (a b : Int) (l : Nat) (hl : l = 0 ↔ a * b = 0) : decide (a * b < 0) = ((decide (a < 0) != decide (b < 0)) && decide (0 < l)) := by
  rcases Int.lt_trichotomy a 0 with h | h | h <;> rcases Int.lt_trichotomy b 0 with k | k | k
  · have h1 := Int.mul_pos_of_neg_of_neg h k
    simp [h, k]; omega
  · subst k; simp at hl ⊢; omega
  · have h1 := Int.mul_neg_of_neg_of_pos h k
    have h2 : ¬ b < 0 := by omega
    have h3 : 0 < l := by omega
    simp [h, h1, h2, h3]
  · subst h; simp at hl ⊢; omega
  · subst h; simp at hl ⊢; omega
  · subst h; simp at hl ⊢; omega
  · have h1 := Int.mul_neg_of_pos_of_neg h k
    have h2 : ¬ a < 0 := by omega
    have h3 : 0 < l := by omega
    simp [h1, k, h2, h3]
  · subst k; simp at hl ⊢; omega
  · have h1 := Int.mul_pos h k
    have h2 : ¬ a < 0 := by omega
    have h3 : ¬ b < 0 := by omega
    simp [h2, h3]; omega

set_option maxHeartbeats 1000000 in
theorem product_any (va vb : Value) (a b : Int) (w : World) (ha : IsNum w va a) (hb : IsNum w vb b) (hs : (mass a.natAbs).length + (mass b.natAbs).length ≤ 35184372088832) :
    Calls Tryz.prog 115 #[va, vb] w (Ret (.num (a * b)) w) := by
  obtain ⟨ma, rfl, hma⟩ := ha
  obtain ⟨mb, rfl, hmb⟩ := hb
  have HT : Hid (∀ w' : World, Ext w w' → Calls Tryz.prog 146 #[ma, mb] w' (Ret (.mass (a.natAbs * b.natAbs)) w')) := fun w' hE => times_mass mul64 div64 _ _ _ _ _ (hma.mono hE) (hmb.mono hE) hs
  obtain ⟨p, hp⟩ : ∃ p, p = decide (a < 0) := ⟨_, rfl⟩
  obtain ⟨q, hq⟩ : ∃ q, q = decide (b < 0) := ⟨_, rfl⟩
  rw [← hp, ← hq]
  have HP := Lib.hid hp; have HQ := Lib.hid hq
  clear hp hq hs hma hmb
  go_enter Tryz.func115, Tryz.ntmps115
  have E0 : Ext w (((w.alloc (.cells #[.bool p, ma] 109)).alloc (.cells #[.bool q, mb] 109)).alloc (.cells #[.bool false, .slice none 0 0] 109)) :=
    (((Below.refl _ _).alloc (Nat.le_refl _) _).alloc (by simp) _).alloc (by simp; omega) _
  go_wp2_with fail
  refine (HT.out _ E0).mono ?_
  rintro e w1 ⟨v, rfl, hm, hE⟩
  have HM := Lib.hid hm
  obtain ⟨A, c, rfl, hc, hm1, hr⟩ := hm
  have hX := hE.old
  have hl : ((mass (a.natAbs * b.natAbs)).length = 0 ↔ a * b = 0) := by
    have := mass_len_pos (n := a.natAbs * b.natAbs)
    rw [← Int.natAbs_mul] at this
    rw [← Int.natAbs_mul]
    omega
  have hmn := mul_neg_iff a b _ hl
  generalize (mass (a.natAbs * b.natAbs)).length = l at *
  rw [← HP.out, ← HQ.out] at hmn
  have HMN := Lib.hid hmn
  clear hmn hl hr hm1 hc HT
  have HFIN : Hid (∀ (B : Bool) (w' : World), B = ((p != q) && decide (0 < l)) → IsMass w' (.slice A l c) (a.natAbs * b.natAbs) → IsNum w' (.agg #[.bool B, .slice A l c]) (a * b)) := fun B w' hB hm => by
    rw [hB, ← HMN.out]
    exact ⟨_, rfl, by rw [Int.natAbs_mul]; exact hm⟩
  cases p <;> cases q
  · go_wp2
    refine bodyPost_ret (v := .agg #[.bool false, .slice A l c]) (by simp [results, Tryz.results115, go_sem, hX]) rfl ⟨_, rfl, HFIN.out false _ (by simp) ?_, ?_⟩
    · exact mass_stored HM.out (by go_simp) (by go_simp) _ _
    · exact ((Ext.trans _ _ _ E0 hE).set (by simp; omega) _).set (by simp; omega) _
  · by_cases h0 : 0 < l
    · go_wp2
      refine bodyPost_ret (v := .agg #[.bool true, .slice A l c]) (by simp [results, Tryz.results115, go_sem, hX]) rfl ⟨_, rfl, HFIN.out true _ (by simp; exact h0) ?_, ?_⟩
      · exact mass_stored HM.out (by go_simp) (by go_simp) _ _
      · exact ((Ext.trans _ _ _ E0 hE).set (by simp; omega) _).set (by simp; omega) _
    · go_wp2
      refine bodyPost_ret (v := .agg #[.bool false, .slice A l c]) (by simp [results, Tryz.results115, go_sem, hX]) rfl ⟨_, rfl, HFIN.out false _ (by simp; omega) ?_, ?_⟩
      · exact mass_stored HM.out (by go_simp) (by go_simp) _ _
      · exact ((Ext.trans _ _ _ E0 hE).set (by simp; omega) _).set (by simp; omega) _
  · by_cases h0 : 0 < l
    · go_wp2
      refine bodyPost_ret (v := .agg #[.bool true, .slice A l c]) (by simp [results, Tryz.results115, go_sem, hX]) rfl ⟨_, rfl, HFIN.out true _ (by simp; exact h0) ?_, ?_⟩
      · exact mass_stored HM.out (by go_simp) (by go_simp) _ _
      · exact ((Ext.trans _ _ _ E0 hE).set (by simp; omega) _).set (by simp; omega) _
    · go_wp2
      refine bodyPost_ret (v := .agg #[.bool false, .slice A l c]) (by simp [results, Tryz.results115, go_sem, hX]) rfl ⟨_, rfl, HFIN.out false _ (by simp; omega) ?_, ?_⟩
      · exact mass_stored HM.out (by go_simp) (by go_simp) _ _
      · exact ((Ext.trans _ _ _ E0 hE).set (by simp; omega) _).set (by simp; omega) _
  · go_wp2
    refine bodyPost_ret (v := .agg #[.bool false, .slice A l c]) (by simp [results, Tryz.results115, go_sem, hX]) rfl ⟨_, rfl, HFIN.out false _ (by simp) ?_, ?_⟩
    · exact mass_stored HM.out (by go_simp) (by go_simp) _ _
    · exact ((Ext.trans _ _ _ E0 hE).set (by simp; omega) _).set (by simp; omega) _
end Go.Proofs.Xx
end
section
namespace Go.Proofs.Xx
open Go.RowKit Go.V Go.Grow

theorem alloc3 (w : World) (o1 o2 o3 : Obj) : Ext w (((w.alloc o1).alloc o2).alloc o3) := (((Below.refl _ _).alloc (Nat.le_refl _) _).alloc (by simp) _).alloc (by simp; omega) _

set_option maxHeartbeats 2000000 in
theorem sum_base (va vb : Value) (a b : Int) (w : World) (ha : IsNum w va a) (hb : IsNum w vb b) (hs : (mass a.natAbs).length + (mass b.natAbs).length ≤ 17592186044416)
    (hab : decide (a < 0) = decide (b < 0) ∨ b.natAbs ≤ a.natAbs) : Calls Tryz.prog 145 #[va, vb] w (Ret (.num (a + b)) w) := by
  obtain ⟨ma, rfl, hma⟩ := ha
  obtain ⟨mb, rfl, hmb⟩ := hb
  obtain ⟨p, hp⟩ : ∃ p, p = decide (a < 0) := ⟨_, rfl⟩
  obtain ⟨q, hq⟩ : ∃ q, q = decide (b < 0) := ⟨_, rfl⟩
  rw [← hp, ← hq] at hab ⊢
  have HP := Lib.hid hp; have HQ := Lib.hid hq
  have E0 : Ext w (((w.alloc (.cells #[.bool p, ma] 109)).alloc (.cells #[.bool q, mb] 109)).alloc (.cells #[.bool false, .slice none 0 0] 109)) := alloc3 _ _ _ _
  by_cases hpq : p = q
  · subst hpq
    have HT : Hid (∀ w' : World, Ext w w' → Calls Tryz.prog 163 #[ma, mb] w' (Ret (.mass (a.natAbs + b.natAbs)) w')) := fun w' hE => plus_any _ _ _ _ _ (hma.mono hE) (hmb.mono hE) hs
    have HFIN : Hid (∀ (m : Value) (w' : World), IsMass w' m (a.natAbs + b.natAbs) → IsNum w' (.agg #[.bool p, m]) (a + b)) := fun m w' hm => by
      have h1 : p = decide (a + b < 0) := by
        have h1 := HP.out; have h2 := HQ.out
        cases p
        · have h3 := of_decide_eq_false h1.symm; have h4 := of_decide_eq_false h2.symm
          exact (decide_eq_false (by omega)).symm
        · have h3 := of_decide_eq_true h1.symm; have h4 := of_decide_eq_true h2.symm
          exact (decide_eq_true (by omega)).symm
      have h2 : (a + b).natAbs = a.natAbs + b.natAbs := by
        have h1 := HP.out; have h2 := HQ.out
        cases p
        · have h3 := of_decide_eq_false h1.symm; have h4 := of_decide_eq_false h2.symm
          omega
        · have h3 := of_decide_eq_true h1.symm; have h4 := of_decide_eq_true h2.symm
          omega
      rw [h1]
      exact ⟨_, rfl, by rw [h2]; exact hm⟩
    clear hp hq hs hma hmb hab
    go_enter Tryz.func145, Tryz.ntmps145
    have E1 := Ext.trans _ _ _ E0 (Ext.drew _)
    cases p
    · go_wp2
      refine ro_region 7 [none, none, none, none, none, none, some (.mass (a.natAbs + b.natAbs))] (by kernel_rfl) (by kernel_rfl) ?_
      go_simp
      repeat (apply ro_quiet rfl; (intro w1 hE _; have hX := hE.old; go_simp; exact rfl); go_simp)
      apply ro_call rfl (fun w => by go_simp; exact ⟨rfl, rfl⟩)
      · intro w1 hE hd
        exact HT.out _ (Ext.trans _ _ _ E1 hE)
      intro v
      go_simp
      refine ro_done (fun w1 hE hf => ?_)
      simp [-List.cons_append] at hf
      have HM := Lib.hid hf
      obtain ⟨A, c, rfl, hc, hm1, hr⟩ := hf
      have hX := hE.old
      simp only [List.drop_succ_cons, List.drop_zero]
      clear hr hc hm1
      generalize (mass (a.natAbs + b.natAbs)).length = l at *
      go_wp2
      refine bodyPost_ret (v := .agg #[.bool false, .slice A l c]) (by simp [results, Tryz.results145, go_sem, hX]) rfl ⟨_, rfl, HFIN.out _ _ ?_, ?_⟩
      · exact mass_stored HM.out (by go_simp) (by go_simp) _ _
      · exact ((Ext.trans _ _ _ E1 hE).set (by simp; omega) _).set (by simp; omega) _
    · go_wp2
      refine ro_region 7 [none, none, none, none, none, none, some (.mass (a.natAbs + b.natAbs))] (by kernel_rfl) (by kernel_rfl) ?_
      go_simp
      repeat (apply ro_quiet rfl; (intro w1 hE _; have hX := hE.old; go_simp; exact rfl); go_simp)
      apply ro_call rfl (fun w => by go_simp; exact ⟨rfl, rfl⟩)
      · intro w1 hE hd
        exact HT.out _ (Ext.trans _ _ _ E1 hE)
      intro v
      go_simp
      refine ro_done (fun w1 hE hf => ?_)
      simp [-List.cons_append] at hf
      have HM := Lib.hid hf
      obtain ⟨A, c, rfl, hc, hm1, hr⟩ := hf
      have hX := hE.old
      simp only [List.drop_succ_cons, List.drop_zero]
      clear hr hc hm1
      generalize (mass (a.natAbs + b.natAbs)).length = l at *
      go_wp2
      refine bodyPost_ret (v := .agg #[.bool true, .slice A l c]) (by simp [results, Tryz.results145, go_sem, hX]) rfl ⟨_, rfl, HFIN.out _ _ ?_, ?_⟩
      · exact mass_stored HM.out (by go_simp) (by go_simp) _ _
      · exact ((Ext.trans _ _ _ E1 hE).set (by simp; omega) _).set (by simp; omega) _
  · have hle : b.natAbs ≤ a.natAbs := hab.resolve_left hpq
    have HC : Hid (∀ w' : World, Ext w w' → Calls Tryz.prog 156 #[ma, mb] w' fun e w'' => ∃ c : Int, e = .returned (.int .i64 c) ∧ CmpIs a.natAbs b.natAbs c ∧ Ext w' w'') := fun w' hE => cmp_any _ _ _ _ _ (hma.mono hE) (hmb.mono hE)
    have HT : Hid (∀ w' : World, Ext w w' → Calls Tryz.prog 162 #[ma, mb] w' (Ret (.mass (a.natAbs - b.natAbs)) w')) := fun w' hE => sub_any _ _ _ _ _ (hma.mono hE) (hmb.mono hE) hle (by omega)
    have HFIN : Hid (∀ (B : Bool) (m : Value) (w' : World), B = (p && decide (0 < a.natAbs - b.natAbs)) → IsMass w' m (a.natAbs - b.natAbs) → IsNum w' (.agg #[.bool B, m]) (a + b)) := fun B m w' hB hm => by
      have h1 : B = decide (a + b < 0) := by
        have h1 := HP.out; have h2 := HQ.out
        rw [hB]
        cases p
        · have h3 := of_decide_eq_false h1.symm
          have h4 : b < 0 := by
            cases q
            · exact absurd rfl hpq
            · exact of_decide_eq_true h2.symm
          rw [Bool.false_and]
          exact (decide_eq_false (by omega)).symm
        · have h3 := of_decide_eq_true h1.symm
          have h4 : ¬ b < 0 := by
            cases q
            · exact of_decide_eq_false h2.symm
            · exact absurd rfl hpq
          rw [Bool.true_and]
          by_cases h : a + b < 0
          · rw [decide_eq_true h, decide_eq_true (by omega)]
          · rw [decide_eq_false h, decide_eq_false (by omega)]
      have h2 : (a + b).natAbs = a.natAbs - b.natAbs := by
        have h1 := HP.out; have h2 := HQ.out
        cases p
        · have h3 := of_decide_eq_false h1.symm
          have h4 : b < 0 := by
            cases q
            · exact absurd rfl hpq
            · exact of_decide_eq_true h2.symm
          omega
        · have h3 := of_decide_eq_true h1.symm
          have h4 : ¬ b < 0 := by
            cases q
            · exact of_decide_eq_false h2.symm
            · exact absurd rfl hpq
          omega
      rw [h1]
      exact ⟨_, rfl, by rw [h2]; exact hm⟩
    have hl : 0 < (mass (a.natAbs - b.natAbs)).length ↔ 0 < a.natAbs - b.natAbs := mass_len_pos
    have HL := Lib.hid hl
    clear hp hq hs hma hmb hab hl
    go_enter Tryz.func145, Tryz.ntmps145
    have hpq2 : (p == q) = false := by rw [beq_eq_false_iff_ne]; exact hpq
    go_wp2_with fail
    refine (HC.out _ E0).mono ?_
    rintro e w1 ⟨c0, rfl, hcmp, hE⟩
    have hc0 : 0 ≤ c0 := by
      apply Int.not_lt.1
      intro h
      have := hcmp.1.1 h
      omega
    have E1 := Ext.trans _ _ _ E0 hE
    have hX := hE.old
    clear hcmp HC
    go_wp2_with fail
    refine (HT.out _ E1).mono ?_
    rintro e w2 ⟨v, rfl, hm, hE2⟩
    have HM := Lib.hid hm
    obtain ⟨A, c, rfl, hc, hm1, hr⟩ := hm
    have hE3 := Ext.trans _ _ _ hE hE2
    have E2 := Ext.trans _ _ _ E0 hE3
    clear hX
    have hX := hE3.old
    clear hr hc hm1 HT
    generalize (mass (a.natAbs - b.natAbs)).length = l at *
    cases p
    · go_wp2
      refine bodyPost_ret (v := .agg #[.bool false, .slice A l c]) (by simp [results, Tryz.results145, go_sem, hX]) rfl ⟨_, rfl, HFIN.out false _ _ (by simp) ?_, ?_⟩
      · exact mass_stored HM.out (by go_simp) (by go_simp) _ _
      · exact (E2.set (by simp; omega) _).set (by simp; omega) _
    · by_cases h0 : 0 < l
      · go_wp2
        refine bodyPost_ret (v := .agg #[.bool true, .slice A l c]) (by simp [results, Tryz.results145, go_sem, hX]) rfl ⟨_, rfl, HFIN.out true _ _ (by rw [Bool.true_and]; exact (decide_eq_true (HL.out.1 h0)).symm) ?_, ?_⟩
        · exact mass_stored HM.out (by go_simp) (by go_simp) _ _
        · exact (E2.set (by simp; omega) _).set (by simp; omega) _
      · go_wp2
        refine bodyPost_ret (v := .agg #[.bool false, .slice A l c]) (by simp [results, Tryz.results145, go_sem, hX]) rfl ⟨_, rfl, HFIN.out false _ _ (by rw [Bool.true_and]; exact (decide_eq_false (fun h => h0 (HL.out.2 h))).symm) ?_, ?_⟩
        · exact mass_stored HM.out (by go_simp) (by go_simp) _ _
        · exact (E2.set (by simp; omega) _).set (by simp; omega) _
end Go.Proofs.Xx
end
section
namespace Go.Proofs.Xx
open Go.RowKit Go.V Go.Grow

set_option maxHeartbeats 2000000 in
theorem sum_any (va vb : Value) (a b : Int) (w : World) (ha : IsNum w va a) (hb : IsNum w vb b) (hs : (mass a.natAbs).length + (mass b.natAbs).length ≤ 17592186044416) :
    Calls Tryz.prog 145 #[va, vb] w (Ret (.num (a + b)) w) := by
  by_cases h : decide (a < 0) = decide (b < 0) ∨ b.natAbs ≤ a.natAbs
  · exact sum_base va vb a b w ha hb hs h
  · have h1 : ¬ decide (a < 0) = decide (b < 0) := fun e => h (.inl e)
    have h2 : a.natAbs < b.natAbs := Nat.lt_of_not_le (fun e => h (.inr e))
    have HS : Hid (∀ w' : World, Ext w w' → Calls Tryz.prog 145 #[vb, va] w' (Ret (.num (b + a)) w')) := fun w' hE => sum_base vb va b a w' (hb.mono hE) (ha.mono hE) (by omega) (.inr (Nat.le_of_lt h2))
    obtain ⟨ma, rfl, hma⟩ := ha
    obtain ⟨mb, rfl, hmb⟩ := hb
    have HC : Hid (∀ w' : World, Ext w w' → Calls Tryz.prog 156 #[ma, mb] w' fun e w'' => ∃ c : Int, e = .returned (.int .i64 c) ∧ CmpIs a.natAbs b.natAbs c ∧ Ext w' w'') := fun w' hE => cmp_any _ _ _ _ _ (hma.mono hE) (hmb.mono hE)
    have hpq2 : (decide (a < 0) == decide (b < 0)) = false := by rw [beq_eq_false_iff_ne]; exact h1
    generalize decide (a < 0) = p at *
    generalize decide (b < 0) = q at *
    have E0 : Ext w (((w.alloc (.cells #[.bool p, ma] 109)).alloc (.cells #[.bool q, mb] 109)).alloc (.cells #[.bool false, .slice none 0 0] 109)) := alloc3 _ _ _ _
    clear h hma hmb hs h1
    go_enter Tryz.func145, Tryz.ntmps145
    go_wp2_with fail
    refine (HC.out _ E0).mono ?_
    rintro e w1 ⟨c0, rfl, hcmp, hE⟩
    have hc0 : c0 < 0 := hcmp.1.2 h2
    have E1 := Ext.trans _ _ _ E0 hE
    have hX := hE.old
    clear hcmp HC h2
    go_wp2_with fail
    refine (HS.out _ E1).mono ?_
    rintro e w2 ⟨v, rfl, hm, hE2⟩
    rw [Int.add_comm] at hm
    have hm' := hm
    obtain ⟨m, rfl, A, c, rfl, _⟩ := hm
    have hE3 := Ext.trans _ _ _ hE hE2
    have E2 := Ext.trans _ _ _ E0 hE3
    clear hX HS
    have hX := hE3.old
    generalize (mass (a + b).natAbs).length = l at *
    go_wp2
    refine bodyPost_ret (v := .agg #[.bool (decide (a + b < 0)), .slice A l c]) (by simp [results, Tryz.results145, go_sem, hX]) rfl ⟨_, rfl, ?_, ?_⟩
    · exact IsNum.stored hm' (x0 := .bool false) (x1 := .slice none 0 0) (by go_simp) (by go_simp) (notInt_bool _) (notInt_slice _ _ _) _ _
    · exact (E2.set (by simp; omega) _).set (by simp; omega) _

/-- 'Number{Mass: m}' -/
theorem positive_any (va : Value) (n : Nat) (w : World) (ha : IsMass w va n) : Calls Tryz.prog 134 #[va] w (Ret (.num (n : Int)) w) := by
  have HM := Lib.hid ha
  obtain ⟨A, c, rfl, _⟩ := ha
  generalize (mass n).length = l at *
  go_enter Tryz.func134, Tryz.ntmps134
  go_wp2
  refine bodyPost_ret (v := .agg #[.bool false, .slice A l c]) (by simp [results, Tryz.results134, go_sem]) rfl ⟨_, rfl, ?_, ?_⟩
  · refine ⟨.slice A l c, ?_, ?_⟩
    · rw [decide_eq_false (by omega)]
    · exact HM.out.mono (Ext.alloc _ _)
  · exact Ext.alloc _ _

set_option maxHeartbeats 2000000 in
theorem less_any (va vb : Value) (a b : Int) (w : World) (ha : IsNum w va a) (hb : IsNum w vb b) (hs : (mass a.natAbs).length + (mass b.natAbs).length ≤ 17592186044416) :
    Calls Tryz.prog 121 #[va, vb] w (Ret (.num (a - b)) w) := by
  have HA := Lib.hid ha
  have HT : Hid (∀ w' : World, Ext w w' → Calls Tryz.prog 131 #[vb] w' (Ret (.num (-b)) w')) := fun w' hE => turned_any vb b w' (hb.mono hE)
  obtain ⟨ma, rfl, hma⟩ := ha
  obtain ⟨mb, rfl, hmb⟩ := hb
  generalize decide (a < 0) = p at *
  generalize decide (b < 0) = q at *
  have E0 : Ext w (((w.alloc (.cells #[.bool p, ma] 109)).alloc (.cells #[.bool q, mb] 109)).alloc (.cells #[.bool false, .slice none 0 0] 109)) := alloc3 _ _ _ _
  have E1 := Ext.trans _ _ _ E0 (Ext.drew _)
  have HS := Lib.hid hs
  clear hma hmb hs
  go_enter Tryz.func121, Tryz.ntmps121
  go_wp2
  refine ro_region 4 [none, none, some (.num (-b)), some (.num (a - b))] (by kernel_rfl) (by kernel_rfl) ?_
  go_simp
  repeat (apply ro_quiet rfl; (intro w1 hE _; have hX := hE.old; go_simp; exact rfl); go_simp)
  apply ro_call rfl (fun w => by go_simp; exact ⟨rfl, rfl⟩)
  · intro w1 hE hd
    exact HT.out _ (Ext.trans _ _ _ E1 hE)
  intro v
  go_simp
  apply ro_call rfl (fun w => by go_simp; exact ⟨rfl, rfl⟩)
  · intro w1 hE hd
    simp [depsHold, Region.binds] at hd
    rw [Int.sub_eq_add_neg]
    exact sum_any _ _ a (-b) w1 (HA.out.mono (Ext.trans _ _ _ E1 hE)) hd (by rw [Int.natAbs_neg]; exact HS.out)
  intro v2
  go_simp
  refine ro_done (fun w1 hE hf => ?_)
  simp [-List.cons_append] at hf
  obtain ⟨_, hm⟩ := hf
  have hm' := hm
  obtain ⟨m, rfl, A, c, rfl, _⟩ := hm
  have hX := hE.old
  simp only [List.drop_succ_cons, List.drop_zero]
  generalize (mass (a - b).natAbs).length = l at *
  go_wp2
  refine bodyPost_ret (v := .agg #[.bool (decide (a - b < 0)), .slice A l c]) (by simp [results, Tryz.results121, go_sem, hX]) rfl ⟨_, rfl, ?_, ?_⟩
  · exact IsNum.stored hm' (x0 := .bool false) (x1 := .slice none 0 0) (by go_simp) (by go_simp) (notInt_bool _) (notInt_slice _ _ _) _ _
  · exact ((Ext.trans _ _ _ E1 hE).set (by simp; omega) _).set (by simp; omega) _
end Go.Proofs.Xx
end
