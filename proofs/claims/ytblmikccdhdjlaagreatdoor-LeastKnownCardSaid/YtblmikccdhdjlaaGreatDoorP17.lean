/- A part of the proof: the texts W18. -/
import Derived.Test.YtblmikccdhdjlaaGreatDoorP15
import Derived.Test.YtblmikccdhdjlaaGreatDoorP16
set_option linter.unusedVariables false
set_option linter.unusedSimpArgs false
section
namespace Go.Proofs.Xx
open Go.RowKit Go.V Go.Grow

theorem alloc4 (w : World) (o1 o2 o3 o4 : Obj) : Ext w ((((w.alloc o1).alloc o2).alloc o3).alloc o4) := ((((Below.refl _ _).alloc (Nat.le_refl _) _).alloc (by simp) _).alloc (by simp; omega) _).alloc (by simp; omega) _
/-- Four cells of two blocks, stored. -/
theorem stored4 {w : World} {v : Value} {n r s : Nat} (h : IsMass w v n) (h0 : w.cell? ⟨r, 0, none⟩ = some (.bool false)) (h1 : w.cell? ⟨r, 1, none⟩ = some (.slice none 0 0))
    (h2 : w.cell? ⟨s, 0, none⟩ = some (.bool false)) (h3 : w.cell? ⟨s, 1, none⟩ = some (.slice none 0 0)) (hrs : r ≠ s) (u0 u1 u2 u3 : Value) :
    IsMass ((((w.setCell ⟨r, 0, none⟩ u0).setCell ⟨r, 1, none⟩ u1).setCell ⟨s, 0, none⟩ u2).setCell ⟨s, 1, none⟩ u3) v n := by
  refine mass_stored (mass_stored h h0 h1 u0 u1) ?_ ?_ u2 u3
  · rw [World.cell?_setCell_other _ _ _ _ (by simp), World.cell?_setCell_other _ _ _ _ (by simp <;> omega)]; exact h2
  · rw [World.cell?_setCell_other _ _ _ _ (by simp <;> omega), World.cell?_setCell_other _ _ _ _ (by simp)]; exact h3

set_option maxHeartbeats 4000000 in
theorem parts_any (va vb : Value) (a b : Int) (w : World) (ha : IsNum w va a) (hb : IsNum w vb b) (hb0 : b ≠ 0) (hs : (mass a.natAbs).length + (mass b.natAbs).length ≤ 8796093022208) :
    Calls Tryz.prog 122 #[va, vb] w fun e w' => ∃ q r, e = .returned (.tuple #[q, r]) ∧ IsNum w' q (a / b) ∧ IsNum w' r (a % b) ∧ Ext w w' := by
  obtain ⟨ma, rfl, hma⟩ := ha
  obtain ⟨mb, rfl, hmb⟩ := hb
  obtain ⟨P1, P2, P3, P4⟩ := PartsLaw.all a b hb0
  have hB : 0 < b.natAbs := by omega
  have HO : Hid (∀ w' : World, Ext w w' → Calls Tryz.prog 114 #[ma, mb] w' fun e w'' => ∃ q r, e = .returned (.tuple #[q, r]) ∧ IsMass w'' q (a.natAbs / b.natAbs) ∧ IsMass w'' r (a.natAbs % b.natAbs) ∧ Ext w' w'') := fun w' hE =>
    over_any _ _ _ _ _ (hma.mono hE) (hmb.mono hE) hB (by omega)
  have hql : (mass (a.natAbs / b.natAbs)).length ≤ (mass a.natAbs).length := mass_len_mono (Nat.div_le_self _ _)
  have hmod := Nat.mod_lt a.natAbs hB
  have H1l : (mass 1).length ≤ 1 := Dig.digs_len_le G_two (by unfold G; omega)
  have HP : Hid (∀ (v6 v24 : Value) (w' : World), IsMass w' v6 (a.natAbs / b.natAbs) → IsMass w' v24 1 → Calls Tryz.prog 163 #[v6, v24] w' (Ret (.mass (a.natAbs / b.natAbs + 1)) w')) := fun v6 v24 w' h1 h2 => plus_any _ _ _ _ _ h1 h2 (by omega)
  have HM : Hid (∀ (v7 : Value) (w' : World), Ext w w' → IsMass w' v7 (a.natAbs % b.natAbs) → Calls Tryz.prog 162 #[mb, v7] w' (Ret (.mass (b.natAbs - a.natAbs % b.natAbs)) w')) := fun v7 w' hE h1 => sub_any _ _ _ _ _ (hmb.mono hE) h1 (by omega) (by omega)
  obtain ⟨p, hp⟩ : ∃ p, p = decide (a < 0) := ⟨_, rfl⟩
  obtain ⟨q, hq⟩ : ∃ q, q = decide (b < 0) := ⟨_, rfl⟩
  rw [← hp, ← hq] at P4 ⊢
  have HPE := Lib.hid hp
  have P12 : Hid (∀ (b1 : Bool), b1 = (p && decide (0 < a.natAbs % b.natAbs)) → (b1 = true → (a / b).natAbs = a.natAbs / b.natAbs + 1 ∧ (a % b).natAbs = b.natAbs - a.natAbs % b.natAbs) ∧ (b1 = false → (a / b).natAbs = a.natAbs / b.natAbs ∧ (a % b).natAbs = a.natAbs % b.natAbs)) := by
    intro b1 hb1
    constructor
    · intro h
      rw [hb1, Bool.and_eq_true, hp, decide_eq_true_eq, decide_eq_true_eq] at h
      exact P1 h
    · intro h
      apply P2
      rintro ⟨h1, h2⟩
      rw [hb1, hp, decide_eq_true h1, decide_eq_true h2] at h
      cases h
  have P34 : Hid (_ ∧ _) := And.intro P3 P4
  have E0 : Ext w ((((w.alloc (.cells #[.bool p, ma] 109)).alloc (.cells #[.bool q, mb] 109)).alloc (.cells #[.bool false, .slice none 0 0] 109)).alloc (.cells #[.bool false, .slice none 0 0] 109)) := alloc4 _ _ _ _ _
  clear hp hq hs hma hmb P1 P2 P3 P4 hql H1l
  have hn0 : 0 < (mass (a.natAbs % b.natAbs)).length ↔ 0 < a.natAbs % b.natAbs := mass_len_pos
  have HN0 := Lib.hid hn0
  clear hn0 hmod hB
  go_enter Tryz.func122, Tryz.ntmps122
  go_wp2_with fail
  refine (HO.out _ E0).mono ?_
  rintro e w1 ⟨v6, v7, rfl, h6, h7, hE⟩
  have E1 := Ext.trans _ _ _ E0 hE
  have hX := hE.old
  clear HO
  have HM6 := Lib.hid h6
  have HM7 := Lib.hid h7
  obtain ⟨A7, c7, rfl, _⟩ := h7
  by_cases hc : p = true ∧ 0 < (mass (a.natAbs % b.natAbs)).length
  · obtain ⟨rfl, hn⟩ := hc
    have hc2 := P12.out true (by rw [Bool.true_and]; exact (decide_eq_true (HN0.out.1 hn)).symm)
    have HC := Lib.hid (hc2.1 rfl)
    clear hc2
    generalize (mass (a.natAbs % b.natAbs)).length = l7 at *
    go_wp2
    refine ro_region 7 [none, some (.mass 1), some (.mass (a.natAbs / b.natAbs + 1)), none, none, none, some (.mass (b.natAbs - a.natAbs % b.natAbs))] (by kernel_rfl) (by kernel_rfl) ?_
    go_simp
    apply ro_quiet rfl (by intro w1 hE _; go_simp; exact rfl)
    go_simp
    apply ro_call rfl (fun w => by go_simp; exact ⟨rfl, rfl⟩)
    · intro w2 hE2 hd
      exact one_any 1 (by unfold G; omega) w2
    intro v24
    go_simp
    apply ro_call rfl (fun w => by go_simp; exact ⟨rfl, rfl⟩)
    · intro w2 hE2 hd
      simp [depsHold, Region.binds] at hd
      exact HP.out _ _ _ (HM6.out.mono (Ext.trans _ _ _ (Ext.drew _) hE2)) hd
    intro v25
    go_simp
    apply ro_quiet rfl
    · intro w2 hE2 _
      have hX2 := (Ext.trans _ _ _ hE (Ext.trans _ _ _ (Ext.drew _) hE2)).old
      go_simp
      exact rfl
    go_simp
    apply ro_quiet rfl
    · intro w2 hE2 _
      have hX2 := (Ext.trans _ _ _ hE (Ext.trans _ _ _ (Ext.drew _) hE2)).old
      go_simp
      exact rfl
    go_simp
    apply ro_quiet rfl (by intro w2 hE2 _; go_simp; exact rfl)
    go_simp
    apply ro_call rfl (fun w => by go_simp; exact ⟨rfl, rfl⟩)
    · intro w2 hE2 hd
      exact HM.out _ _ (Ext.trans _ _ _ E1 (Ext.trans _ _ _ (Ext.drew _) hE2)) (HM7.out.mono (Ext.trans _ _ _ (Ext.drew _) hE2))
    intro v29
    go_simp
    refine ro_done (fun w2 hE2 hf => ?_)
    simp [-List.cons_append] at hf
    obtain ⟨_, h25, h29⟩ := hf
    rw [← HC.out.1] at h25
    rw [← HC.out.2] at h29
    have hE3 := Ext.trans _ _ _ hE (Ext.trans _ _ _ (Ext.drew _) hE2)
    have E2 := Ext.trans _ _ _ E0 hE3
    clear hX HM6 HM7 HP HM E1 HC HN0
    have hX := hE3.old
    have HM6 := Lib.hid h25
    have HM7 := Lib.hid h29
    obtain ⟨A6, c6, rfl, _⟩ := h25
    obtain ⟨A7, c7, rfl, _⟩ := h29
    simp only [List.drop_succ_cons, List.drop_zero]
    have hl6 : 0 < (mass (a / b).natAbs).length ↔ 0 < (a / b).natAbs := mass_len_pos
    have HFIN : Hid (∀ (B : Bool) (w' : World), B = ((true != q) && decide (0 < (mass (a / b).natAbs).length)) → IsMass w' (.slice A6 (mass (a / b).natAbs).length c6) (a / b).natAbs → IsMass w' (.slice A7 (mass (a % b).natAbs).length c7) (a % b).natAbs → Ext w w' →
        ∃ q r, Ending.returned (.tuple #[.agg #[.bool B, .slice A6 (mass (a / b).natAbs).length c6], .agg #[.bool false, .slice A7 (mass (a % b).natAbs).length c7]]) = .returned (.tuple #[q, r]) ∧ IsNum w' q (a / b) ∧ IsNum w' r (a % b) ∧ Ext w w') := fun B w' hB h1 h2 h3 => by
      refine ⟨_, _, rfl, ⟨_, ?_, h1⟩, ⟨_, ?_, h2⟩, h3⟩
      · rw [hB, P34.out.2, decide_eq_decide.2 hl6]
      · rw [decide_eq_false (by have := P34.out.1; omega)]
    clear hl6
    generalize (mass (a / b).natAbs).length = l6 at *
    generalize (mass (a % b).natAbs).length = l7 at *
    cases q
    · by_cases h0 : 0 < l6
      · go_wp2
        refine bodyPost_ret (v := .tuple #[.agg #[.bool true, .slice A6 l6 c6], .agg #[.bool false, .slice A7 l7 c7]]) (by simp [results, Tryz.results122, go_sem, hX]) rfl ?_
        exact HFIN.out true _ (by simp; exact h0) (stored4 HM6.out (by go_simp) (by go_simp) (by go_simp) (by go_simp) (by omega) _ _ _ _) (stored4 HM7.out (by go_simp) (by go_simp) (by go_simp) (by go_simp) (by omega) _ _ _ _) ((((E2.set (by simp; omega) _).set (by simp; omega) _).set (by simp; omega) _).set (by simp; omega) _)
      · go_wp2
        refine bodyPost_ret (v := .tuple #[.agg #[.bool false, .slice A6 l6 c6], .agg #[.bool false, .slice A7 l7 c7]]) (by simp [results, Tryz.results122, go_sem, hX]) rfl ?_
        exact HFIN.out false _ (by simp; omega) (stored4 HM6.out (by go_simp) (by go_simp) (by go_simp) (by go_simp) (by omega) _ _ _ _) (stored4 HM7.out (by go_simp) (by go_simp) (by go_simp) (by go_simp) (by omega) _ _ _ _) ((((E2.set (by simp; omega) _).set (by simp; omega) _).set (by simp; omega) _).set (by simp; omega) _)
    · go_wp2
      refine bodyPost_ret (v := .tuple #[.agg #[.bool false, .slice A6 l6 c6], .agg #[.bool false, .slice A7 l7 c7]]) (by simp [results, Tryz.results122, go_sem, hX]) rfl ?_
      exact HFIN.out false _ (by simp) (stored4 HM6.out (by go_simp) (by go_simp) (by go_simp) (by go_simp) (by omega) _ _ _ _) (stored4 HM7.out (by go_simp) (by go_simp) (by go_simp) (by go_simp) (by omega) _ _ _ _) ((((E2.set (by simp; omega) _).set (by simp; omega) _).set (by simp; omega) _).set (by simp; omega) _)
  · have hc1 : ∀ b1 : Bool, b1 = (p && decide (0 < a.natAbs % b.natAbs)) → b1 = false := by
      intro b1 h
      rw [h, Bool.and_eq_false_iff]
      by_cases hp : p = true
      · right
        apply decide_eq_false
        intro h2
        exact hc ⟨hp, HN0.out.2 h2⟩
      · left
        cases p
        · rfl
        · exact absurd rfl hp
    have hc2 := (P12.out _ rfl).2 (hc1 _ rfl)
    rw [← hc2.1] at HM6 h6
    rw [← hc2.2] at HM7 hc ⊢
    have E2 := E1
    clear hc1 hc2 HP HM HN0 P12
    obtain ⟨A6, c6, rfl, _⟩ := h6
    have hl6 : 0 < (mass (a / b).natAbs).length ↔ 0 < (a / b).natAbs := mass_len_pos
    have HFIN : Hid (∀ (B : Bool) (w' : World), B = ((p != q) && decide (0 < (mass (a / b).natAbs).length)) → IsMass w' (.slice A6 (mass (a / b).natAbs).length c6) (a / b).natAbs → IsMass w' (.slice A7 (mass (a % b).natAbs).length c7) (a % b).natAbs → Ext w w' →
        ∃ q r, Ending.returned (.tuple #[.agg #[.bool B, .slice A6 (mass (a / b).natAbs).length c6], .agg #[.bool false, .slice A7 (mass (a % b).natAbs).length c7]]) = .returned (.tuple #[q, r]) ∧ IsNum w' q (a / b) ∧ IsNum w' r (a % b) ∧ Ext w w') := fun B w' hB h1 h2 h3 => by
      refine ⟨_, _, rfl, ⟨_, ?_, h1⟩, ⟨_, ?_, h2⟩, h3⟩
      · rw [hB, P34.out.2, decide_eq_decide.2 hl6]
      · rw [decide_eq_false (by have := P34.out.1; omega)]
    clear hl6
    generalize (mass (a / b).natAbs).length = l6 at *
    generalize (mass (a % b).natAbs).length = l7 at *
    cases p
    · clear hc
      cases q
      · go_wp2
        refine bodyPost_ret (v := .tuple #[.agg #[.bool false, .slice A6 l6 c6], .agg #[.bool false, .slice A7 l7 c7]]) (by simp [results, Tryz.results122, go_sem, hX]) rfl ?_
        exact HFIN.out false _ (by simp) (stored4 HM6.out (by go_simp) (by go_simp) (by go_simp) (by go_simp) (by omega) _ _ _ _) (stored4 HM7.out (by go_simp) (by go_simp) (by go_simp) (by go_simp) (by omega) _ _ _ _) ((((E2.set (by simp; omega) _).set (by simp; omega) _).set (by simp; omega) _).set (by simp; omega) _)
      · by_cases h0 : 0 < l6
        · go_wp2
          refine bodyPost_ret (v := .tuple #[.agg #[.bool true, .slice A6 l6 c6], .agg #[.bool false, .slice A7 l7 c7]]) (by simp [results, Tryz.results122, go_sem, hX]) rfl ?_
          exact HFIN.out true _ (by simp; exact h0) (stored4 HM6.out (by go_simp) (by go_simp) (by go_simp) (by go_simp) (by omega) _ _ _ _) (stored4 HM7.out (by go_simp) (by go_simp) (by go_simp) (by go_simp) (by omega) _ _ _ _) ((((E2.set (by simp; omega) _).set (by simp; omega) _).set (by simp; omega) _).set (by simp; omega) _)
        · go_wp2
          refine bodyPost_ret (v := .tuple #[.agg #[.bool false, .slice A6 l6 c6], .agg #[.bool false, .slice A7 l7 c7]]) (by simp [results, Tryz.results122, go_sem, hX]) rfl ?_
          exact HFIN.out false _ (by simp; omega) (stored4 HM6.out (by go_simp) (by go_simp) (by go_simp) (by go_simp) (by omega) _ _ _ _) (stored4 HM7.out (by go_simp) (by go_simp) (by go_simp) (by go_simp) (by omega) _ _ _ _) ((((E2.set (by simp; omega) _).set (by simp; omega) _).set (by simp; omega) _).set (by simp; omega) _)
    · have hl7 : ¬ 0 < l7 := fun h => hc ⟨rfl, h⟩
      clear hc
      cases q
      · by_cases h0 : 0 < l6
        · go_wp2
          refine bodyPost_ret (v := .tuple #[.agg #[.bool true, .slice A6 l6 c6], .agg #[.bool false, .slice A7 l7 c7]]) (by simp [results, Tryz.results122, go_sem, hX]) rfl ?_
          exact HFIN.out true _ (by simp; exact h0) (stored4 HM6.out (by go_simp) (by go_simp) (by go_simp) (by go_simp) (by omega) _ _ _ _) (stored4 HM7.out (by go_simp) (by go_simp) (by go_simp) (by go_simp) (by omega) _ _ _ _) ((((E2.set (by simp; omega) _).set (by simp; omega) _).set (by simp; omega) _).set (by simp; omega) _)
        · go_wp2
          refine bodyPost_ret (v := .tuple #[.agg #[.bool false, .slice A6 l6 c6], .agg #[.bool false, .slice A7 l7 c7]]) (by simp [results, Tryz.results122, go_sem, hX]) rfl ?_
          exact HFIN.out false _ (by simp; omega) (stored4 HM6.out (by go_simp) (by go_simp) (by go_simp) (by go_simp) (by omega) _ _ _ _) (stored4 HM7.out (by go_simp) (by go_simp) (by go_simp) (by go_simp) (by omega) _ _ _ _) ((((E2.set (by simp; omega) _).set (by simp; omega) _).set (by simp; omega) _).set (by simp; omega) _)
      · go_wp2
        refine bodyPost_ret (v := .tuple #[.agg #[.bool false, .slice A6 l6 c6], .agg #[.bool false, .slice A7 l7 c7]]) (by simp [results, Tryz.results122, go_sem, hX]) rfl ?_
        exact HFIN.out false _ (by simp) (stored4 HM6.out (by go_simp) (by go_simp) (by go_simp) (by go_simp) (by omega) _ _ _ _) (stored4 HM7.out (by go_simp) (by go_simp) (by go_simp) (by go_simp) (by omega) _ _ _ _) ((((E2.set (by simp; omega) _).set (by simp; omega) _).set (by simp; omega) _).set (by simp; omega) _)
end Go.Proofs.Xx
end
