/- A part of the proof: the texts W40. -/
import Derived.Test.YtblmikccdhdjlaaGreatDoorP19
set_option linter.unusedVariables false
set_option linter.unusedSimpArgs false
section
namespace Go.Proofs.Xx
open Go.RowKit Go.V Go.Grow

/-- A pair whose first part is known. -/
def _root_.Go.V.Fact.tup1 (F : Fact) : Fact := ⟨fun v w => ∃ a r, v = .tuple #[a, r] ∧ F.S a w, fun _ _ _ hE h => by
  obtain ⟨a, r, e, h⟩ := h
  exact ⟨a, r, e, F.st _ _ _ hE h⟩⟩
def _root_.Go.V.Fact.any : Fact := ⟨fun _ _ => True, fun _ _ _ _ _ => trivial⟩
set_option maxHeartbeats 4000000 in
set_option maxRecDepth 100000 in
theorem multiple_any (vl : Value) (qs : List Rat) (w : World) (h : IsRats w vl qs) {s : Nat} (hs : ∀ q ∈ qs, (mass q.den).length ≤ s) (hb : (qs.length + 1) * s + 1 ≤ 8796093022208) :
    Calls Tryz.prog 112 #[vl] w (Ret (.mass (lcmD qs)) w) := by
  obtain ⟨A, c, rfl, hc, hm, hr⟩ := h
  have HC : Hid (∀ (k : Nat) (va vb : Value) (q : Rat) (w' : World), qs[k]? = some q → IsMass w' va (lcmD (qs.take k)) → IsMass w' vb q.den → Calls Tryz.prog 155 #[va, vb] w' (Ret (.mass (Nat.gcd (lcmD (qs.take k)) q.den)) w')) := fun k va vb q w' hq h1 h2 => by
    have hq2 := hs q (List.mem_of_getElem? hq)
    have hk : k < qs.length := (List.getElem?_eq_some_iff.1 hq).1
    have h3 := lcmD_len (qs.take k) (fun x hx => hs x (List.mem_of_mem_take hx))
    rw [List.length_take, Nat.min_eq_left (by omega)] at h3
    have h4 : k * s ≤ qs.length * s := Nat.mul_le_mul_right _ (by omega)
    rw [Nat.add_mul] at hb
    exact common_any _ _ _ _ _ h1 h2 (by omega) (by omega)
  have HO : Hid (∀ (k : Nat) (va vb : Value) (q : Rat) (w' : World), qs[k]? = some q → IsMass w' va q.den → IsMass w' vb (Nat.gcd (lcmD (qs.take k)) q.den) → Calls Tryz.prog 114 #[va, vb] w' fun e w'' => ∃ a r, e = .returned (.tuple #[a, r]) ∧ IsMass w'' a (q.den / Nat.gcd (lcmD (qs.take k)) q.den) ∧ IsMass w'' r (q.den % Nat.gcd (lcmD (qs.take k)) q.den) ∧ Ext w' w'') := fun k va vb q w' hq h1 h2 => by
    have hq2 := hs q (List.mem_of_getElem? hq)
    rw [Nat.add_mul] at hb
    exact over_any _ _ _ _ _ h1 h2 (Nat.gcd_pos_of_pos_right _ q.den_pos) (by omega)
  have HT : Hid (∀ (k : Nat) (va vb : Value) (q : Rat) (w' : World), qs[k]? = some q → IsMass w' va (lcmD (qs.take k)) → IsMass w' vb (q.den / Nat.gcd (lcmD (qs.take k)) q.den) → Calls Tryz.prog 146 #[va, vb] w' (Ret (.mass (lcmD (qs.take (k + 1)))) w')) := fun k va vb q w' hq h1 h2 => by
    have hq2 := hs q (List.mem_of_getElem? hq)
    have hk : k < qs.length := (List.getElem?_eq_some_iff.1 hq).1
    have h3 := lcmD_len (qs.take k) (fun x hx => hs x (List.mem_of_mem_take hx))
    rw [List.length_take, Nat.min_eq_left (by omega)] at h3
    have h4 : k * s ≤ qs.length * s := Nat.mul_le_mul_right _ (by omega)
    have h5 : (mass (q.den / Nat.gcd (lcmD (qs.take k)) q.den)).length ≤ s := Nat.le_trans (mass_len_mono (Nat.div_le_self _ _)) hq2
    rw [Nat.add_mul] at hb
    have h6 := times_mass mul64 div64 _ _ _ _ _ h1 h2 (by omega)
    rw [lcm_eq, ← lcmD_snoc, ← take_snoc hq] at h6
    exact h6
  have HR := Lib.hid hr
  have HM := Lib.hid hm
  have hcl : qs.length ≤ maxLen := Nat.le_trans hc hm
  clear hs hb hr hm
  go_enter Tryz.func112, Tryz.ntmps112
  go_wp2_with fail
  refine (from_any 1 _ (by omega) (by omega)).mono ?_
  rintro e w1 ⟨v1, rfl, ⟨m1, rfl, hm1⟩, hE1⟩
  rw [show Int.natAbs 1 = lcmD (qs.take 0) from rfl] at hm1
  have H1 := Lib.hid hm1
  obtain ⟨A1, c1, rfl, _⟩ := hm1
  generalize (mass (lcmD (qs.take 0))).length = l1 at *
  have hfd := field_num false A1 l1 c1 w1
  go_wp2_with fail
  go_loopw [3, 12] (fun s k wr => ∃ i : Nat, k = .int .i64 i ∧ i ≤ qs.length ∧ IsMass wr s (lcmD (qs.take i)) ∧ Ext w1 wr) (fun _ k _ => match k with | .int _ i => qs.length - i.toNat | _ => 0)
  case atStart => exact ⟨0, rfl, Nat.zero_le _, H1.out, Ext.refl _⟩
  case round =>
    obtain ⟨i, rfl, hi, hms, hE⟩ := hrel
    by_cases hlt : i < qs.length
    · obtain ⟨q, hq⟩ : ∃ q, qs[i]? = some q := ⟨qs[i], List.getElem?_eq_getElem hlt⟩
      obtain ⟨b, o, rfl, hcells⟩ : ∃ b o, A = some ⟨b, o, none⟩ ∧ ∀ i (q : Rat), qs[i]? = some q → ∃ p m d, w.cell? ⟨b, o + i * 3, none⟩ = some (.bool p) ∧ w.cell? ⟨b, o + i * 3 + 1, none⟩ = some m ∧ w.cell? ⟨b, o + i * 3 + 2, none⟩ = some d ∧ IsRat w (.agg #[.bool p, m, d]) q := by
        rcases HR.out with h | h
        · rw [h] at hlt; simp at hlt
        · exact h
      obtain ⟨p, m, d, k1, k2, k3, m', d', he, hm', hd'⟩ := hcells i q hq
      simp only [Value.agg.injEq, Array.mk.injEq, List.cons.injEq, Value.bool.injEq, and_true] at he
      obtain ⟨rfl, rfl, rfl⟩ := he
      have hEw := Ext.trans _ _ _ hE1 hE
      have c1 := hEw.cell k1
      have c2 := hEw.cell k2
      have c3 := hEw.cell k3
      have hwi : wrap64 ((i : Int) + 1) = ((i + 1 : Nat) : Int) := by
        have := Nat.lt_of_lt_of_le hlt hcl
        unfold maxLen at this
        rw [IntWalk.wrap64_in _ (by omega)]
        omega
      obtain ⟨A2, cc2, rfl, hms2⟩ := hms
      have HMS : Hid (IsMass wr (.slice A2 (mass (lcmD (qs.take i))).length cc2) (lcmD (qs.take i))) := ⟨_, _, rfl, hms2⟩
      have HMD := Lib.hid (hd'.mono hEw)
      obtain ⟨A3, cc3, rfl, _⟩ := hm'
      obtain ⟨A4, cc4, rfl, _⟩ := hd'
      generalize (mass q.den).length = l4 at *
      generalize (mass q.num.natAbs).length = l3 at *
      generalize (mass (lcmD (qs.take i))).length = l2 at *
      go_wp2
      have E5 : Ext wr (wr.alloc (.cells #[.bool (decide (q.num < 0)), .slice A3 l3 cc3, .slice A4 l4 cc4] 111)).drew := Ext.trans _ _ _ (Ext.alloc _ _) (Ext.drew _)
      refine ro_region 11 [none, none, none, none, none, some (.mass (Nat.gcd (lcmD (qs.take i)) q.den)), some (.tup1 (.mass (q.den / Nat.gcd (lcmD (qs.take i)) q.den))), some (.tup1 (.mass (q.den / Nat.gcd (lcmD (qs.take i)) q.den))), some (.mass (q.den / Nat.gcd (lcmD (qs.take i)) q.den)), some .any, some (.mass (q.den / Nat.gcd (lcmD (qs.take i)) q.den))] (by kernel_rfl) (by kernel_rfl) ?_
      go_simp
      repeat (apply ro_quiet rfl; (intro w2 hE2 _; have hX := hE2.old; go_simp; exact rfl); go_simp)
      apply ro_call rfl (fun w => by go_simp; exact ⟨rfl, rfl⟩)
      · intro w2 hE2 hd
        have E6 := Ext.trans _ _ _ E5 hE2
        exact HC.out i _ _ q w2 hq (HMS.out.mono E6) (HMD.out.mono E6)
      intro v22
      go_simp
      apply ro_call rfl (fun w => by go_simp; exact ⟨rfl, rfl⟩)
      · intro w2 hE2 hd
        simp [depsHold, Region.binds] at hd
        have E6 := Ext.trans _ _ _ E5 hE2
        refine (HO.out i _ _ q w2 hq (HMD.out.mono E6) hd).mono ?_
        rintro e w3 ⟨a, r, rfl, h1, _, h3⟩
        exact ⟨_, rfl, ⟨a, r, rfl, h1⟩, h3⟩
      intro v23
      go_simp
      apply ro_run rfl
      · intro w2 hE2 hd
        simp [depsHold, Region.binds] at hd
        go_simp
        exact ⟨_, _, ⟨rfl, rfl⟩, Ext.refl _, hd⟩
      intro v16
      go_simp
      apply ro_run rfl
      · intro w2 hE2 hd
        simp [depsHold, Region.binds] at hd
        obtain ⟨a, r, rfl, h⟩ := hd
        go_simp
        exact ⟨_, _, ⟨rfl, rfl⟩, Ext.refl _, h⟩
      intro v24
      go_simp
      apply ro_run rfl
      · intro w2 hE2 hd
        simp [depsHold, Region.binds] at hd
        obtain ⟨a, r, rfl, h⟩ := hd
        go_simp
        exact ⟨_, _, ⟨rfl, rfl⟩, Ext.refl _, trivial⟩
      intro v25
      go_simp
      apply ro_run rfl
      · intro w2 hE2 hd
        simp [depsHold, Region.binds] at hd
        go_simp
        exact ⟨_, _, ⟨rfl, rfl⟩, Ext.refl _, hd.1⟩
      intro v6
      go_simp
      refine ro_done (fun w2 hE2 hf => ?_)
      simp [-List.cons_append] at hf
      obtain ⟨_, _, _, _, _, h6⟩ := hf
      have E6 := Ext.trans _ _ _ E5 hE2
      have hX := hE2.old
      simp only [List.drop_succ_cons, List.drop_zero]
      clear HC HO
      go_wp2_with fail
      refine (HT.out i _ _ q _ hq (HMS.out.mono E6) h6).mono ?_
      rintro e w3 ⟨v28, rfl, h28, hE3⟩
      have E7 := Ext.trans _ _ _ E6 hE3
      go_wp2_with fail
      go_roundw
      case rel => exact ⟨i + 1, by rw [hwi], by omega, h28, Ext.trans _ _ _ hE E7⟩
      case measure =>
        show qs.length - (wrap64 ((i : Int) + 1)).toNat < qs.length - (i : Int).toNat
        rw [hwi]
        omega
    · have : i = qs.length := by omega
      subst this
      rw [List.take_length] at hms
      have HMS := Lib.hid hms
      obtain ⟨A2, c2, rfl, h2⟩ := hms
      go_wp2
      go_ret
      exact ⟨_, rfl, HMS.out, Ext.trans _ _ _ hE1 hE⟩
end Go.Proofs.Xx
end
