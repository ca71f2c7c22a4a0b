/- A part of the proof: the texts W12. -/
import Derived.Test.YtblmikccdhdjlaaGreatDoorP12
import Derived.Test.YtblmikccdhdjlaaGreatDoorP13
import Derived.Deep.DeepCutAuto
set_option linter.unusedVariables false
set_option linter.unusedSimpArgs false
section
namespace Go.Proofs.Xx
open Go.RowKit Go.V Go.Grow

/-- The quotient's places behind the rounds down to k. -/
def OverRel (w : World) (g a D f m k : Nat) (v : Value) (wr : World) : Prop :=
  ∃ (cur : List Nat) (rest : Nat), cur.length = m + 1 ∧ (∀ z ∈ cur, z < G) ∧ (∀ j, j < k → cur.getD j 0 = 0) ∧ a * f = Dig.val G cur * D + rest ∧ rest < D * G ^ k ∧ IsMass wr v rest ∧ Off g v ∧ Own wr g cur ∧ Ext w wr

/-- One operation of a region that draws, run to its end. -/
theorem ro_run {P : Program} {ops : Array Oper} {w0 : World} {Q : Exit → Act → World → Prop} {T : Act → World → Prop} {ms : List (Option Fact)} {a : Act} {o : Oper} {rest : List Oper} {fs : List (World → Prop)} {F : Fact} (hg : o.guard = none)
    (h1 : ∀ w : World, Ext w0 w → Grow.depsHold o fs w → ∃ v w', (execOp a.eval o).run P w = .ok (.value v) w' ∧ Ext w w' ∧ F.S v w')
    (h2 : ∀ v : Value, Ro P ops w0 Q T ms rest (fs ++ [F.S v]) (a.put o.dst v)) : Ro P ops w0 Q T (some F :: ms) (o :: rest) fs a := by
  refine ro_op hg (fun w hE hd => ?_) h2
  obtain ⟨v, w', hr, hE', hS⟩ := h1 w hE hd
  unfold wpList
  rw [if_pos (by simp [Region.wanted, hg])]
  left
  unfold Oper.wp
  rw [hr]
  exact ⟨v, rfl, hE', hS⟩

/-- A block of zeros that was just made. -/
def makesF (B k : Nat) : Fact := ⟨fun v w => ∃ g, v = .slice (some ⟨g, 0, none⟩) k k ∧ B ≤ g ∧ Own w g (List.replicate k 0), fun _ _ _ hE ⟨g, h1, h0, h2⟩ => ⟨g, h1, h0, h2.ext hE⟩⟩
def readsF (B : Nat) (xs : List Nat) : Fact := ⟨fun v w => Reads w v xs ∧ Above B v, fun _ _ _ hE h => ⟨h.1.mono hE, h.2⟩⟩
def massF (B n : Nat) : Fact := ⟨fun v w => IsMass w v n ∧ Above B v, fun _ _ _ hE h => ⟨h.1.mono hE, h.2⟩⟩
def cellNat (w : World) (p : Addr) : Nat := match w.cell? p with | some (.int _ z) => z.toNat | _ => 0
theorem own_cellNat {w : World} {g k t : Nat} {xs : List Nat} (h : Own w g (xs.set k t)) (hk : k < xs.length) : cellNat w ⟨g, k, none⟩ = t := by
  have := h.cell k (by rw [List.length_set]; exact hk)
  rw [Dig.getD_set_self hk] at this
  simp [Xx.cellNat, this]

theorem app_exec {P : Program} {w w' : World} {o : Oper} {ev : Operand → Value} (s x : Operand) (t : TypeId) (hop : o.op = Op.call { callee := Callee.builtin Builtin.append, args := #[s, x], argTypes := #[t, t] }) {v u v' : Value} (hs : ev s = v) (hx : ev x = u)
    (hrun : (Builtin.append_ #[t, t] o.type #[v, u]).run P w = .ok v' w') : (execOp ev o).run P w = .ok (.value v') w' := by
  simp [execOp, hop, resolve, invoke, builtin, hs, hx, hrun, Result.andThen]
/-- Nothing is appended. -/
theorem app_nothing {w : World} {g k c : Nat} {A : Option Addr} {xs : List Nat} (hO : Own w g xs) (hk : xs.length = k) (ty : TypeId) : (Builtin.append_ #[107, 107] ty #[.slice (some ⟨g, 0, none⟩) k k, .slice A 0 c]).run Tryz.prog w = .ok (.slice (some ⟨g, 0, none⟩) k k) w := by
  obtain ⟨i0, hi, hzz⟩ := Option.map_eq_some_iff.1 info403
  have hl : ∀ (x : Addr), (loadCells x 0).run Tryz.prog w = .ok #[] w := fun x => by simpa using run_loadCells_list w x [] (by simp)
  cases A <;> simp [Builtin.append_, run_underlying Tryz.underlying107, sizeOf, typeInfo, hi, Builtin.lenOf, Builtin.firstCells, storeCells, hl]
/-- 'append(make(Mass, i), d...)' -/
theorem app_shift {w : World} {g k : Nat} {v : Value} {n : Nat} (hO : Own w g (List.replicate k 0)) (hv : IsMass w v n) (hk : k + (mass n).length ≤ 17592186044416) (ty : TypeId) :
    ∃ (u : Value) (W : World), (Builtin.append_ #[107, 107] ty #[.slice (some ⟨g, 0, none⟩) k k, v]).run Tryz.prog w = .ok u W ∧ Reads W u (List.replicate k 0 ++ mass n) ∧ Above g u ∧ Ext w W := by
  obtain ⟨A, c, rfl, hc, hm, hr⟩ := hv
  have hkm : k ≤ maxLen := by unfold maxLen; omega
  by_cases h0 : (mass n).length = 0
  · have e : mass n = [] := List.eq_nil_of_length_eq_zero h0
    rw [e]
    refine ⟨_, w, app_nothing hO (by simp) ty, ?_, fun A l c e _ => (by cases e; exact Nat.le_refl _), Ext.refl _⟩
    rw [List.append_nil]
    have := hO.reads (c := k) (by simp) hkm
    rwa [List.length_replicate] at this
  · obtain ⟨s, W, h1, h2, h3, h4⟩ := app_u64 (c := c) hO hr (by omega) (by simpa using hk) ty
    rw [List.length_replicate] at h1 h3
    refine ⟨_, W, h1, ?_, fun A l c e _ => (by cases e; exact Nat.le_of_lt hO.lt), h4⟩
    have h5 := h2.row.take (List.replicate k 0 ++ mass n).length
    rw [List.take_left] at h5
    have hl : (List.replicate k 0 ++ mass n).length = k + (mass n).length := by simp
    exact ⟨_, _, by rw [hl], by rw [hl]; omega, h3, h5⟩

set_option maxHeartbeats 4000000 in
set_option maxRecDepth 100000 in
theorem over_any (va vb : Value) (a b : Nat) (w : World) (ha : IsMass w va a) (hb : IsMass w vb b) (hb0 : 0 < b) (hs : (mass a).length ≤ 8796093022208) :
    Calls Tryz.prog 114 #[va, vb] w fun e w' => ∃ q r, e = .returned (.tuple #[q, r]) ∧ IsMass w' q (a / b) ∧ IsMass w' r (a % b) ∧ Ext w w' := by
  by_cases hab : a < b
  · have hz : a / b = 0 := Nat.div_eq_of_lt hab
    have hz2 : a % b = a := Nat.mod_eq_of_lt hab
    have HC := Lib.hid (cmp_any va vb a b w ha hb)
    obtain ⟨A1, c1, rfl, hc1, hm1, hr1⟩ := ha
    obtain ⟨A2, c2, rfl, hc2, hm2, hr2⟩ := hb
    have H1 : Hid (∀ w', Ext w w' → IsMass w' (.slice A1 (mass a).length c1) a) := fun w' hE => ⟨A1, c1, rfl, hc1, hm1, hr1.mono hE⟩
    generalize (mass a).length = la at *
    generalize (mass b).length = lb at *
    clear hr1 hr2 hm1 hm2 hs hc1 hc2
    go_enter Tryz.func114, Tryz.ntmps114
    go_wp2_with fail
    refine HC.out.mono ?_
    rintro e w' ⟨c, rfl, hcmp, hE⟩
    have hc0 : c < 0 := hcmp.1.2 hab
    clear HC hcmp
    go_wp2
    go_ret2
    exact ⟨_, _, rfl, by rw [hz]; exact ⟨none, 0, rfl, Nat.le_refl _, Nat.zero_le _, .inl rfl⟩, by rw [hz2]; exact H1.out _ hE, hE⟩
  · have hlen : (mass b).length ≤ (mass a).length := Dig.digs_len_mono G_two (by omega)
    obtain ⟨n, hn⟩ : ∃ n, (mass b).length = n + 1 := by
      have : mass b ≠ [] := fun e => by unfold mass at e; rw [Dig.digs_eq_nil G_two] at e; omega
      cases h : mass b with
      | nil => exact absurd h this
      | cons x l => exact ⟨l.length, rfl⟩
    have HC := Lib.hid (cmp_any va vb a b w ha hb)
    have HA := Lib.hid ha
    have HB := Lib.hid hb
    obtain ⟨A1, c1, rfl, hc1, hm1, hr1⟩ := ha
    obtain ⟨A2, c2, rfl, hc2, hm2, hr2⟩ := hb
    obtain ⟨B2, o2, rfl, htop⟩ := hr2.at n (by omega)
    have HS := Lib.hid hs
    rw [hn] at hlen hc2 HC HB ⊢
    cases n with
    | zero =>
      have hbd : (mass b).getD 0 0 = b := by
        have := Dig.digs_top G_two b 0 hn
        rw [Nat.pow_zero, Nat.div_one] at this
        exact this.symm
      have hbG : b < G := by rw [← hbd]; exact Dig.getD_lt (mass_lt b) (by unfold G; omega) 0
      rw [hbd] at htop
      have HBY : Hid (∀ w', Ext w w' → _) := fun w' hE => by_any _ a b w' (HA.out.mono hE) hb0 (by unfold G at hbG; omega) (by have := HS.out; omega)
      have htop0 : w.cell? ⟨B2, o2, none⟩ = some (.int .u64 (b : Int)) := htop
      clear hr1 hr2 htop hm1 hm2 hc1 hc2 hlen hs hn
      generalize (mass a).length = la at *
      go_enter Tryz.func114, Tryz.ntmps114
      go_wp2_with fail
      refine HC.out.mono ?_
      rintro e W ⟨c, rfl, hcmp, hE⟩
      have hc0 : ¬ c < 0 := fun h => hab (hcmp.1.1 h)
      have htop := hE.cell htop0
      clear HC hcmp
      go_wp2_with fail
      refine (HBY.out _ hE).mono ?_
      rintro e w' ⟨v, rfl, hm, hE2⟩
      go_wp2_with fail
      refine (one_any (a % b) (Nat.lt_trans (Nat.mod_lt _ hb0) hbG) _).mono ?_
      rintro e w'' ⟨v2, rfl, hm2, hE3⟩
      go_wp2
      go_ret2
      exact ⟨_, _, rfl, hm.mono hE3, hm2, Ext.trans _ _ _ (Ext.trans _ _ _ hE hE2) hE3⟩
    | succ n =>
      obtain ⟨fp, fG, hDl⟩ := Dig.Over.factor G_two (n + 1) b hn
      have htG := Dig.getD_lt (mass_lt b) (by unfold G; omega) (n + 1)
      have hbG := Nat.lt_of_lt_of_le (Dig.lt_digs_len G_two a) (Nat.pow_le_pow_right (by unfold G; omega) (show (mass a).length ≤ (mass a).length from Nat.le_refl _))
      clear hbG
      change (mass _).length = _ at hDl
      change 0 < G / ((mass b).getD _ _ + 1) at fp
      change G / ((mass b).getD _ _ + 1) < G at fG
      change (mass (b * (G / ((mass b).getD _ _ + 1)))).length = _ at hDl
      have hN1 : (((n + 1 : Nat) : Int) + 1 == 1) = false := by rw [beq_eq_false_iff_ne]; omega
      have hN0 : 0 < n + 1 := by omega
      have hNs : n + 1 ≤ 8796093022208 := by omega
      generalize n + 1 = N at *
      obtain ⟨t, hte⟩ : ∃ t, t = (mass b).getD N 0 := ⟨_, rfl⟩
      rw [← hte] at htop htG fp fG hDl
      obtain ⟨f, hfe⟩ : ∃ f, f = G / (t + 1) := ⟨_, rfl⟩
      rw [← hfe] at fp fG hDl
      have HTE := Lib.hid hte
      clear hte
      have hw1 : IntKind.u64.wrap ((t : Int) + 1) = ((t + 1 : Nat) : Int) := wrap_u64 (t + 1) (by unfold G at htG; omega)
      have HFE := Lib.hid hfe
      obtain ⟨t1, ht1⟩ : ∃ t1, t1 = t + 1 := ⟨_, rfl⟩
      rw [← ht1] at hw1 hfe
      have hq : (1000000000000000000 : Int) / (t1 : Int) = (f : Int) := by rw [hfe]; unfold G; simp
      have ht0 : (t1 : Int) ≠ 0 := by omega
      have htt : 0 < (t1 : Int) := by omega
      have HTT := Lib.hid ht1
      clear ht1 hfe
      obtain ⟨m, hm⟩ : ∃ m, (mass a).length = N + 1 + m := ⟨(mass a).length - (N + 1), by omega⟩
      have hmS : N + 1 + m ≤ 8796093022208 := by rw [← hm]; exact HS.out
      rw [hm] at HA HC ⊢
      have hT1 : ∀ (v : Value) (w' : World), Ext w w' → IsMass w' v f → Calls Tryz.prog 146 #[.slice (some ⟨B2, o2, none⟩) (N + 1) c2, v] w' (Ret (.mass (b * f)) w') := fun v w' hE hv =>
        times_mass mul64 div64 _ _ _ _ _ (HB.out.mono hE) hv (by have h1 := Dig.digs_len_le (k := 1) G_two (show f < G ^ 1 by rw [Nat.pow_one]; exact fG); have h2 : (mass f).length ≤ 1 := h1; omega)
      have hT2 : ∀ (v : Value) (w' : World), Ext w w' → IsMass w' v f → Calls Tryz.prog 146 #[.slice A1 (N + 1 + m) c1, v] w' (Ret (.mass (a * f)) w') := fun v w' hE hv =>
        times_mass mul64 div64 _ _ _ _ _ (HA.out.mono hE) hv (by have h1 := Dig.digs_len_le (k := 1) G_two (show f < G ^ 1 by rw [Nat.pow_one]; exact fG); have h2 : (mass f).length ≤ 1 := h1; omega)
      have HT1 := Lib.hid hT1; have HT2 := Lib.hid hT2
      clear hT1 hT2
      clear hr1 hr2 hm1 hm2 hc1 hc2 hs
      have htop0 := htop
      clear htop
      go_enter Tryz.func114, Tryz.ntmps114
      go_wp2_with fail
      refine HC.out.mono ?_
      rintro e W ⟨c, rfl, hcmp, hE⟩
      have hc0 : ¬ c < 0 := fun h => hab (hcmp.1.1 h)
      have htop := hE.cell htop0
      clear HC hcmp
      go_wp2_with fail
      refine (one_any f fG _).mono ?_
      rintro e W1 ⟨v9, rfl, h9, hE1⟩
      have hE1 := Ext.trans _ _ _ hE hE1
      clear htop htop0 hE
      go_wp2_with fail
      refine (HT1.out _ _ hE1 h9).mono ?_
      rintro e W2 ⟨v10, rfl, h10, hE2⟩
      have h9 := h9.mono hE2
      have hE2 := Ext.trans _ _ _ hE1 hE2
      clear hE1
      go_wp2_with fail
      refine (HT2.out _ _ hE2 h9).mono ?_
      rintro e W3 ⟨v11, rfl, h11, hE3⟩
      have h9 := h9.mono hE3
      have h10 := IsMass.mono h10 hE3
      have hE3 := Ext.trans _ _ _ hE2 hE3
      clear hE2
      have hDpos : 0 < b * f := Nat.mul_pos hb0 fp
      have hstart := Dig.Over.start G_two a b f N m fp hn hm
      have hfin := fun q rest => Dig.Over.finish a b f q rest fp hb0
      obtain ⟨D, hDe⟩ : ∃ D, D = b * f := ⟨_, rfl⟩
      rw [← hDe] at hDpos hstart hfin hDl h10
      have HF := Lib.hid hfin
      have HD := Lib.hid hDe
      have h9f := h9
      clear hfin hDe hE1 hE2 hn HTE HFE hw1 hq ht0 htt HTT htG HT1 HT2 hb0
      have hmk := make_mass ((m : Int) + 1) (by omega) (by omega) W3
      have hsub : (N : Int) + 1 + (m : Int) - ((N : Int) + 1) = (m : Int) := by omega
      rw [show ((m : Int) + 1).toNat = m + 1 by omega] at hmk
      have hO : Own (W3.alloc (.cells (u64s (List.replicate (m + 1) 0)).toArray 192)) W3.heap.size (List.replicate (m + 1) 0) := Own.new _ _ _
      have hE4 : Ext W3 (W3.alloc (.cells (u64s (List.replicate (m + 1) 0)).toArray 192)) := Ext.alloc _ _
      have h11off : Off W3.heap.size v11 := Reads.off (IsMass.reads h11) (Nat.le_refl _)
      have h11 := IsMass.mono h11 hE4
      generalize W3.alloc (.cells (u64s (List.replicate (m + 1) 0)).toArray 192) = W at *
      generalize hge : W3.heap.size = g at hO hmk h11off ⊢
      have hgw : W3.heap.size ≤ g := by omega
      have H10 := Lib.hid h10
      obtain ⟨A10, c10, rfl, hc10, hm10, hr10⟩ := h10
      obtain ⟨B10, o10, rfl, hcl10⟩ := hr10.at N (by omega)
      change (mass D).length = N + 1 at hDl
      rw [hDl] at hc10 H10 ⊢
      have HCL10 := Lib.hid hcl10
      clear hc10 hm10 hr10 hcl10
      go_wp2
      clear hmk hge
      go_loopw [12, 11] (fun t v wr => ∃ k : Nat, k ≤ m + 1 ∧ t = .int .i64 ((k : Int) - 1) ∧ OverRel W3 g a D f m k v wr) (fun t _ _ => (intOf t + 1).toNat)
      case atStart =>
        refine ⟨m + 1, Nat.le_refl _, by go_num, _, a * f, by simp, ?_, ?_, ?_, hstart, h11, h11off, hO, hE4⟩
        · intro z hz
          rw [(List.mem_replicate.1 hz).2]; unfold G; omega
        · intro j _
          exact getD_pad [] (m + 1) j
        · rw [Dig.val_replicate]; simp
      case round =>
        obtain ⟨k, hk, rfl, cur, rest, hcl, hcG, hcz, hv, hrest, hrm, hroff, hO, hE⟩ := hrel
        clear h11 hE4
        rcases k with _ | k
        · have hfd : mass f = [f] := by
            unfold mass
            rw [Dig.digs_pos G f G_two fp, Nat.div_eq_of_lt fG, Nat.mod_eq_of_lt fG]
            rfl
          obtain ⟨A9, c9, rfl, hc9, hm9, hr9⟩ := h9f
          rw [hfd] at hr9 hc9
          obtain ⟨B9, o9, rfl, hcf9⟩ := hr9.at 0 (by simp)
          have hcf9 : W3.cell? ⟨B9, o9, none⟩ = some (.int .u64 (f : Int)) := hcf9
          have hcf9 := hE.cell hcf9
          rw [Nat.pow_zero, Nat.mul_one] at hrest
          obtain ⟨h1, h2⟩ := HF.out _ _ hv hrest
          have H12 : Hid (_ ∧ _) := And.intro h1 h2
          have hbl : (mass rest).length ≤ 35184372088832 := by
            have h3 : (mass rest).length ≤ (mass D).length := Dig.digs_len_mono G_two (by omega)
            have h4 : (mass D).length = N + 1 := hDl
            omega
          have hby := by_any _ rest f wr hrm fp (by unfold G at fG; omega) hbl
          have htr : ∀ w' : World, Ext wr w' → _ := fun w' hE' => trim_at (some ⟨g, 0, none⟩) (m + 1) cur w' (by
            exact (hO.ext hE').reads (c := m + 1) (by omega) (by unfold maxLen; omega)) hcG
          rw [hcl] at htr
          have HTR := Lib.hid htr
          have HBY := Lib.hid hby
          have hfl : (mass f).length = 1 := by rw [hfd]; rfl
          rw [hfl]
          clear htr hby h1 h2 hv hrest hcG hcz hbl hfd hr9 hc9 hm9 hO hroff hrm hfl
          go_wp2_with fail
          refine HBY.out.mono ?_
          rintro e w5 ⟨v5, rfl, hm5, hE5⟩
          have HTR := Lib.hid (HTR.out w5 hE5)
          clear HBY hcf9
          go_wp2_with fail
          refine HTR.out.mono ?_
          rintro e w6 ⟨n6, rfl, _, hm6, hE6⟩
          rw [H12.out.1] at hm6
          rw [H12.out.2] at hm5
          have hm5 := hm5.mono hE6
          have hE7 := Ext.trans _ _ _ (Ext.trans _ _ _ (Ext.trans _ _ _ hE3 hE) hE5) hE6
          clear HTR
          go_wp2
          go_ret2
          exact ⟨_, _, rfl, hm6, hm5, hE7⟩
        · have hrl := Dig.Over.rest_len G_two D rest k N hDl hrest
          have hrmh := Lib.hid hrm
          obtain ⟨A11, c11, rfl, hc11, hm11, hr11⟩ := hrm
          change (mass rest).length ≤ _ at hrl
          have hzero := fun h => Dig.Over.digit_zero G_two D rest k N hDl h
          change ((mass rest).length < _ → _) at hzero
          by_cases hshort : (mass rest).length < k + (N + 1)
          · have hrest := hzero hshort
            have hres : OverRel W3 g a D f m k (.slice A11 (mass rest).length c11) wr := ⟨cur, rest, hcl, hcG, fun j hj => hcz j (by omega), hv, hrest, hrmh.out, hroff, hO, hE⟩
            have HR := Lib.hid hres
            generalize (mass rest).length = lr at *
            clear hres hzero hrmh hr11 hcG hcz hv hrest hO
            go_wp2
            go_roundw
            case rel => exact ⟨k, by omega, by go_num, HR.out⟩
            case measure => simp [intOf]
          · have htops : ∃ top r1 : Nat, top < G ∧ r1 < G ∧ rest / G ^ (k + N) = top * G + r1 ∧ r1 = (mass rest).getD (k + N) 0 ∧ ((mass rest).length = k + (N + 1) ∧ top = 0 ∨ (mass rest).length = k + (N + 1) + 1 ∧ top = (mass rest).getD (k + (N + 1)) 0) := by
              by_cases hl : (mass rest).length = k + (N + 1)
              · exact ⟨0, (mass rest).getD (k + N) 0, by unfold G; omega, Dig.getD_lt (mass_lt rest) (by unfold G; omega) _, by rw [Dig.digs_top G_two rest (k + N) hl]; simp [mass], rfl, .inl ⟨hl, rfl⟩⟩
              · have hl2 : (mass rest).length = k + (N + 1) + 1 := by omega
                exact ⟨(mass rest).getD (k + N + 1) 0, (mass rest).getD (k + N) 0, Dig.getD_lt (mass_lt rest) (by unfold G; omega) _, Dig.getD_lt (mass_lt rest) (by unfold G; omega) _, Dig.digs_top2 G_two rest (k + N) hl2, rfl, .inr ⟨hl2, rfl⟩⟩
            obtain ⟨top, r1, htG, hrG, hdiv, hr1, hcase⟩ := htops
            obtain ⟨B11, o11, rfl, hcr⟩ := hr11.at (k + N) (by omega)
            rw [← hr1] at hcr
            have hct : (mass rest).length = k + (N + 1) + 1 → wr.cell? ⟨B11, o11 + (k + (N + 1)), none⟩ = some (.int .u64 (top : Int)) := fun h => by
              obtain ⟨B, o, e, hc⟩ := hr11.at (k + (N + 1)) (by omega)
              cases e
              rcases hcase with ⟨h2, _⟩ | ⟨_, h2⟩
              · omega
              · rw [h2]; exact hc
            have hcase : (mass rest).length = k + (N + 1) ∧ top = 0 ∨ (mass rest).length = k + (N + 1) + 1 := by
              rcases hcase with h | h
              · exact .inl h
              · exact .inr h.1
            have HDIV := Lib.hid hdiv
            generalize hlr : (mass rest).length = lr at *
            have HLR := Lib.hid hlr
            clear hdiv hr1 hr11 hzero hlr
            have hk1 : ((k + 1 : Nat) : Int) - 1 = (k : Int) := by omega
            rw [hk1]
            clear hk1
            go_upto_if 78 with fail
            go_cut [13] (fun t wx => t = .int .u64 (top : Int) ∧ wx = wr)
            case first =>
              rcases hcase with ⟨h, rfl⟩ | h
              · have hn : ¬ ((k : Int) + ((N : Int) + 1) < (lr : Int)) := by omega
                clear hct h
                go_wp2
                go_meet
                case rel => exact ⟨rfl, rfl⟩
              · have hct := hct h
                have hn : (k : Int) + ((N : Int) + 1) < (lr : Int) := by omega
                have hn2 : k + (N + 1) < lr := by omega
                clear h
                go_wp2
                go_meet
                case rel => exact ⟨rfl, rfl⟩
            case rest =>
              obtain ⟨rfl, hwc⟩ := hcut
              rw [hwc]
              clear hwc
              have hQG := Dig.Over.digit_lt D rest k hDpos (by unfold G; omega) hrest
              have hlead := Dig.digs_top G_two D N hDl
              have hleadp := Dig.digs_top_pos G_two D N hDl
              change D / G ^ N = (mass D).getD N 0 at hlead
              change 0 < (mass D).getD N 0 at hleadp
              have hgu := Dig.Over.guess (b := G) D rest k N _ hDpos (by rw [hlead]; exact hleadp) (by unfold G; omega) rfl
              rw [HDIV.out, hlead] at hgu
              have hcl10 := HCL10.out
              have hldG := Dig.getD_lt (mass_lt D) (by unfold G; omega) N
              obtain ⟨l, hle⟩ : ∃ l, l = (mass D).getD N 0 := ⟨_, rfl⟩
              rw [← hle] at hcl10 hldG hleadp hgu
              obtain ⟨Q, hQe⟩ : ∃ Q, Q = rest / (D * G ^ k) := ⟨_, rfl⟩
              rw [← hQe] at hQG hgu
              have HQ := Lib.hid hQe
              have HGU := Lib.hid hgu
              have hcl := hE.cell hcl10
              have HV := Lib.hid hv
              have HLE := Lib.hid hle
              have HRE := Lib.hid hrest
              have HCZ := Lib.hid hcz
              clear hQe hgu hlead hcl10 hct hcase hv hle hrest hcz
              go_upto_if 91 with fail
              go_cut [14, 15, 16, 17] (fun s _ _ _ wx => ∃ gu : Nat, s = .int .u64 (gu : Int) ∧ Q ≤ gu ∧ gu < 18446744073709551616 ∧ Ext wr wx)
              case first =>
                by_cases htl : top < l
                · have htlI : (top : Int) < (l : Int) := by omega
                  obtain ⟨p1, p2, p4, p5⟩ := place_by top r1 l htl hrG (by unfold G at hldG; omega)
                  have hw1 : IntKind.u64.wrap ((mulHi top 1000000000000000000 : Int) + (addHi (mulLo top 1000000000000000000) r1 : Int)) = ((mulHi top 1000000000000000000 + addHi (mulLo top 1000000000000000000) r1 : Nat) : Int) := by
                    rw [← Int.natCast_add]; exact wrap_u64 _ (by unfold G at hldG; omega)
                  have PP : Hid (_ ∧ _) := And.intro p4 p5
                  clear p4 p5
                  have hM := mul64 top 1000000000000000000 wr (by unfold G at htG; omega) (by omega)
                  rw [show ((1000000000000000000 : Nat) : Int) = 1000000000000000000 from rfl] at hM
                  have hadd := add64
                  have hl64 : l < 18446744073709551616 := by unfold G at hldG; omega
                  generalize mulHi top 1000000000000000000 + addHi (mulLo top 1000000000000000000) r1 = t1 at *
                  generalize mulHi top 1000000000000000000 = m1 at *
                  generalize mulLo top 1000000000000000000 = m2 at *
                  have HM := Lib.hid hM; clear hM
                  have hkN : k + N < lr := by omega
                  go_wp2_with fail
                  refine HM.out.mono ?_
                  rintro e w' ⟨rfl, rfl⟩
                  go_wp2_with fail
                  refine (div64 _ _ _ _ (by omega) (by omega) (by omega) (by omega) (by omega)).mono ?_
                  rintro e w' ⟨rfl, hE2⟩
                  rw [PP.out.1, PP.out.2]
                  have HG2 := HGU.out
                  have hq64 : (top * G + r1) / l < 18446744073709551616 := by
                    rw [Nat.div_lt_iff_lt_mul hleadp]
                    have h1 : (top + 1) * G ≤ l * G := Nat.mul_le_mul_right _ htl
                    have h2 : l * G ≤ 18446744073709551616 * l := by rw [Nat.mul_comm]; exact Nat.mul_le_mul_right _ (by unfold G; omega)
                    rw [Nat.add_mul] at h1
                    omega
                  have HQ64 := Lib.hid hq64
                  clear PP hq64
                  generalize (top * G + r1) / l = gu at *
                  generalize (top * G + r1) % l = gr at *
                  go_wp2
                  go_meet
                  case rel => exact ⟨gu, rfl, HG2, HQ64.out, hE2⟩
                · have htlI : ¬ (top : Int) < (l : Int) := by omega
                  go_wp2
                  go_meet
                  case rel => exact ⟨999999999999999999, rfl, by unfold G at hQG; omega, by omega, Ext.refl _⟩
              case rest =>
                obtain ⟨gu, rfl, hgu, hgu2, hEx⟩ := hcut
                have hO := hO.ext hEx
                have hE := Ext.trans _ _ _ hE hEx
                have hrm := IsMass.mono hrmh.out hEx
                have h10 := IsMass.mono H10.out hE
                clear hcl hEx hcr HGU HDIV
                obtain ⟨t0, ht0e, ht0Q, ht0G⟩ : ∃ t0 : Nat, min (gu : Int) 999999999999999999 = (t0 : Int) ∧ Q ≤ t0 ∧ t0 < G := ⟨min gu 999999999999999999, by omega, by unfold G at hQG; omega, by unfold G; omega⟩
                go_upto_region 23 with fail
                refine ro_region 9 [none, some (makesF wc.heap.size k), none, none, none, some (.mass t0), some (.mass (D * t0)), some (readsF wc.heap.size (List.replicate k 0 ++ mass (D * t0))), some (massF wc.heap.size (t0 * (D * G ^ k)))] (by kernel_rfl) (by kernel_rfl) ?_
                go_simp
                apply ro_quiet rfl (by intro w1 hE1 _; go_simp; exact rfl)
                go_simp
                apply ro_run rfl
                · intro w1 hE1 _
                  have hmk := make_mass (k : Int) (by omega) (by omega) w1
                  go_simp
                  exact ⟨_, _, ⟨rfl, rfl⟩, Ext.alloc _ _, ⟨_, rfl, hE1.size, Own.new _ _ _⟩⟩
                intro v1
                go_simp
                repeat (apply ro_quiet rfl; (intro w1 hE _; go_simp; exact rfl); go_simp)
                apply ro_call rfl (fun w => by go_simp; exact ⟨rfl, rfl⟩)
                · intro w1 hE1 _
                  exact one_any t0 ht0G w1
                intro v5
                go_simp
                apply ro_call rfl (fun w => by go_simp; exact ⟨rfl, rfl⟩)
                · intro w1 hE1 hd
                  simp [depsHold, Region.binds] at hd
                  have h1 := Dig.digs_len_le (k := 1) G_two (show t0 < G ^ 1 by rw [Nat.pow_one]; exact ht0G)
                  have h2 : (mass t0).length ≤ 1 := h1
                  exact times_mass mul64 div64 _ _ D t0 w1 (h10.mono (Ext.trans _ _ _ (Ext.drew _) hE1)) hd (by omega)
                intro v6
                go_simp
                apply ro_run rfl
                · intro w1 hE1 hd
                  simp [depsHold, Region.binds] at hd
                  obtain ⟨⟨g1, rfl, hg1, hO1⟩, h6⟩ := hd
                  have h3 : (mass (D * t0)).length ≤ N + 1 + 1 := by
                    apply Dig.digs_len_le G_two
                    have h4 := Dig.lt_digs_len G_two D
                    have h5 : (Dig.digs G D).length = N + 1 := hDl
                    rw [h5] at h4
                    calc D * t0 < G ^ (N + 1) * G := Nat.mul_lt_mul'' h4 ht0G
                      _ = G ^ (N + 1 + 1) := (Nat.pow_succ _ _).symm
                  obtain ⟨u, W', h7, h8, h8a, h9'⟩ := app_shift hO1 h6 (by omega) 107
                  refine ⟨u, W', ?_, h9', h8, fun A l c e hl => Nat.le_trans hg1 (h8a A l c e hl)⟩
                  exact app_exec _ _ _ rfl rfl rfl h7
                intro v7
                go_simp
                apply ro_call rfl (fun w => by go_simp; exact ⟨rfl, rfl⟩)
                · intro w1 hE1 hd
                  simp [depsHold, Region.binds] at hd
                  obtain ⟨⟨A7, c7, rfl, x1, x2, x3⟩, hab7⟩ := hd
                  have h1 := trim_at A7 c7 (List.replicate k 0 ++ mass (D * t0)) w1 ⟨A7, c7, rfl, x1, x2, x3⟩ (fun z hz => by
                    rcases List.mem_append.1 hz with h | h
                    · rw [(List.mem_replicate.1 h).2]; unfold G; omega
                    · exact mass_lt _ z h)
                  have h2 : Dig.val G (List.replicate k 0 ++ mass (D * t0)) = t0 * (D * G ^ k) := by
                    rw [Dig.val_append, Dig.val_replicate, List.length_replicate, Nat.zero_add]
                    unfold mass
                    rw [Dig.val_digs G_two, Nat.mul_comm, Nat.mul_comm D, Nat.mul_assoc]
                  rw [h2] at h1
                  refine h1.mono ?_
                  rintro e w' ⟨n', rfl, hn', hm', hE'⟩
                  exact ⟨_, rfl, ⟨hm', fun A l c e hl => hab7 A _ c7 (by cases e; rfl) (by cases e; omega)⟩, hE'⟩
                intro v8
                go_simp
                refine ro_done (fun w1 hE1 hf => ?_)
                simp [-List.cons_append] at hf
                obtain ⟨_, _, _, _, h8⟩ := hf
                have hE2 := Ext.trans _ _ _ (Ext.drew _) hE1
                have hO0 := hO
                have hO := hO.ext hE2
                have hE := Ext.trans _ _ _ hE hE2
                have hrm := hrm.mono hE2
                clear hE1 hE2 h10
                simp only [List.drop_succ_cons, List.drop_zero]
                have hco := hO.cell k (by omega)
                have hcf := hO.frozen k
                have hkm : k < m + 1 := by omega
                have hO2 := hO.set k t0
                have hE2 := hE.set (p := ⟨g, k, none⟩) hgw (.int .u64 (t0 : Int))
                have h8off : Off g v8 := h8.2.off (Nat.lt_of_lt_of_le hO0.lt (Nat.le_refl _))
                have h8 := Reads.set_off (IsMass.reads h8.1) (o := k) h8off (.int .u64 (t0 : Int))
                have hrm := Reads.set_off (IsMass.reads hrm) (o := k) hroff (.int .u64 (t0 : Int))
                have hP : 0 < D * G ^ k := Nat.mul_pos hDpos (Nat.pow_pos (by unfold G; omega))
                go_wp2
                generalize w1.setCell ⟨g, k, none⟩ (.int .u64 (t0 : Int)) = w2 at *
                clear hco hcf hO hE
                go_loopw [18] (fun p wr2 => ∃ t : Nat, Q ≤ t ∧ t < G ∧ IsMass wr2 p (t * (D * G ^ k)) ∧ Off g p ∧ IsMass wr2 (.slice (some ⟨B11, o11, none⟩) lr c11) rest ∧ Own wr2 g (cur.set k t) ∧ Ext W3 wr2) (fun _ wr2 => cellNat wr2 ⟨g, k, none⟩)
                case atStart => exact ⟨t0, ht0Q, ht0G, h8, h8off, hrm, hO2, hE2⟩
                case round =>
                  clear h8 h8off hrm hO2 hE2
                  obtain ⟨t, htQ, htG2, hp, hpo, hrm, hO, hE⟩ := hrel
                  have HCN := Lib.hid (own_cellNat hO (by omega))
                  go_wp2_with fail
                  refine (cmp_any _ _ rest (t * (D * G ^ k)) _ hrm hp).mono ?_
                  rintro e w3 ⟨c3, rfl, hcmp, hE3⟩
                  have hlt3 : c3 < 0 ↔ rest < t * (D * G ^ k) := hcmp.1
                  clear hcmp
                  have hp := hp.mono hE3
                  have hrm := hrm.mono hE3
                  have hO := hO.ext hE3
                  have hE := Ext.trans _ _ _ hE hE3
                  clear hE3
                  have hDm := IsMass.mono H10.out hE
                  have htl : (mass (t * (D * G ^ k))).length ≤ N + 1 + (k + 1) := by
                    apply Dig.digs_len_le G_two
                    have h4 := Dig.lt_digs_len G_two D
                    have h5 : (Dig.digs G D).length = N + 1 := hDl
                    rw [h5] at h4
                    have h6 : D * G ^ k < G ^ (N + 1) * G ^ k := Nat.mul_lt_mul_of_pos_right h4 (Nat.pow_pos (by unfold G; omega))
                    calc t * (D * G ^ k) < G * (G ^ (N + 1) * G ^ k) := Nat.mul_lt_mul'' htG2 h6
                      _ = G ^ (N + 1 + (k + 1)) := by rw [Nat.pow_add G (N + 1) (k + 1), Nat.pow_succ G k, Nat.mul_comm G, Nat.mul_assoc]
                  by_cases hc3 : c3 < 0
                  · have hlt4 := hlt3.1 hc3
                    have htQ2 : Q < t := by
                      apply Nat.lt_of_not_le
                      intro h
                      have h1 : t * (D * G ^ k) ≤ Q * (D * G ^ k) := Nat.mul_le_mul_right _ h
                      have h2 : Q * (D * G ^ k) ≤ rest := by rw [HQ.out]; exact Nat.div_mul_le_self _ _
                      omega
                    obtain ⟨t', rfl⟩ : ∃ t', t = t' + 1 := ⟨t - 1, by omega⟩
                    have hco := hO.cell k (by rw [List.length_set]; omega)
                    rw [Dig.getD_set_self (by omega)] at hco
                    have hcf := hO.frozen k
                    have hw1 : IntKind.u64.wrap (t' : Int) = (t' : Int) := wrap_u64 _ (by unfold G at htG2; omega)
                    have hO4 := hO.set k t'
                    rw [List.set_set] at hO4
                    have hE4 := hE.set (p := ⟨g, k, none⟩) hgw (.int .u64 (t' : Int))
                    have hp4 := Reads.set_off (IsMass.reads hp) (o := k) hpo (.int .u64 (t' : Int))
                    have hrm4 := Reads.set_off (IsMass.reads hrm) (o := k) hroff (.int .u64 (t' : Int))
                    have hD4 := IsMass.mono H10.out hE4
                    have hpge : D * G ^ k ≤ (t' + 1) * (D * G ^ k) := by rw [Nat.add_mul, Nat.one_mul]; exact Nat.le_add_left _ _
                    have hsubm : (t' + 1) * (D * G ^ k) - D * G ^ k = t' * (D * G ^ k) := by rw [Nat.add_mul, Nat.one_mul]; exact Nat.add_sub_cancel _ _
                    generalize hW4 : w3.setCell ⟨g, k, none⟩ (.int .u64 (t' : Int)) = w4 at *
                    have hmk := make_mass (k : Int) (by omega) (by omega) w4
                    rw [show ((k : Int)).toNat = k by omega] at hmk
                    have hO5 : Own (w4.alloc (.cells (u64s (List.replicate k 0)).toArray 192)) w4.heap.size (List.replicate k 0) := Own.new _ _ _
                    have hE5 : Ext w4 (w4.alloc (.cells (u64s (List.replicate k 0)).toArray 192)) := Ext.alloc _ _
                    generalize w4.alloc (.cells (u64s (List.replicate k 0)).toArray 192) = w5 at *
                    obtain ⟨u, w6, hap, hu, _, hE6⟩ := app_shift hO5 (hD4.mono hE5) (by have h5 : (mass D).length = N + 1 := hDl; omega) 107
                    have hum : IsMass w6 u (D * G ^ k) := by
                      have h1 : mass (D * G ^ k) = List.replicate k 0 ++ mass D := Dig.digs_shift G_two D k hDpos
                      have h2 : Reads w6 u (mass (D * G ^ k)) := by rw [h1]; exact hu
                      exact h2
                    have hE46 := Ext.trans _ _ _ hE5 hE6
                    have hsb := sub_at _ u ((t' + 1) * (D * G ^ k)) (D * G ^ k) w6 (IsMass.mono hp4 hE46) hum hpge (by omega)
                    rw [hsubm] at hsb
                    have hfin : ∀ (v : Value) (w7 : World), Ext w6 w7 → IsMass w7 v (t' * (D * G ^ k)) → Above w6.heap.size v → (Q ≤ t' ∧ t' < G ∧ IsMass w7 v (t' * (D * G ^ k)) ∧ Off g v ∧ IsMass w7 (.slice (some ⟨B11, o11, none⟩) lr c11) rest ∧ Own w7 g (cur.set k t') ∧ Ext W3 w7) := by
                      intro v w7 hE7 hm7 ha7
                      have hE47 := Ext.trans _ _ _ hE46 hE7
                      exact ⟨by omega, by omega, hm7, ha7.off (Nat.lt_of_lt_of_le hO4.lt hE46.size), IsMass.mono hrm4 hE47, hO4.ext hE47, Ext.trans _ _ _ hE4 hE47⟩
                    have HFIN := Lib.hid hfin; have HSB := Lib.hid hsb; have HAP := Lib.hid hap
                    clear hp hrm hO hE hDm hp4 hrm4 hO4 hE4 hlt3 hlt4 hfin hsb hap hu hum hE46 hO5 hE5 hE6 hD4 hpge hsubm
                    go_wp2_with (first | (at_builtin; refine wp_app rfl _ _ _ rfl rfl rfl HAP.out ?_) | fail)
                    refine HSB.out.mono ?_
                    rintro e w7 ⟨v7, rfl, hm7, ha7, hE7⟩
                    have HF := Lib.hid (HFIN.out v7 w7 hE7 hm7 ha7)
                    have HC7 := Lib.hid (own_cellNat HF.out.2.2.2.2.2.1 (show k < cur.length by omega))
                    clear hm7 ha7 hE7 HFIN HSB HAP
                    go_wp2
                    go_roundw
                    case rel => exact ⟨t', HF.out⟩
                    case measure =>
                      rw [HC7.out, HCN.out]
                      exact Nat.lt_succ_self _
                  · have hge4 : t * (D * G ^ k) ≤ rest := Nat.le_of_not_lt (fun h => hc3 (hlt3.2 h))
                    have htQ2 : t ≤ Q := by
                      rw [HQ.out, Nat.le_div_iff_mul_le hP]
                      exact hge4
                    obtain rfl : t = Q := by omega
                    have hsb := sub_at _ _ rest (t * (D * G ^ k)) w3 hrm hp hge4 (by rw [HLR.out]; omega)
                    have hfin : ∀ (v : Value) (w7 : World), Ext w3 w7 → IsMass w7 v (rest - t * (D * G ^ k)) → Above w3.heap.size v → OverRel W3 g a D f m k v w7 := by
                      intro v w7 hE7 hm7 ha7
                      have hcz := HCZ.out
                      have hv := HV.out
                      have hvs := Dig.val_set G cur k t (by omega)
                      rw [hcz k (by omega), Nat.zero_mul, Nat.add_zero] at hvs
                      refine ⟨cur.set k t, _, by rw [List.length_set]; exact hcl, Dig.set_lt hcG htG2, fun j hj => ?_, ?_, ?_, hm7, ha7.off hO.lt, hO.ext hE7, Ext.trans _ _ _ hE hE7⟩
                      · rw [Dig.getD_set_other (by omega)]
                        exact hcz j (by omega)
                      · rw [hvs, Nat.add_mul, hv]
                        have e : t * G ^ k * D = t * (D * G ^ k) := by rw [Nat.mul_assoc, Nat.mul_comm (G ^ k)]
                        rw [e]
                        omega
                      · rw [HQ.out, Nat.mul_comm, ← Nat.mod_eq_sub]
                        exact Nat.mod_lt _ hP
                    have HFIN := Lib.hid hfin; have HSB := Lib.hid hsb
                    clear hp hrm hO hE hDm hlt3 hge4 hfin hsb
                    go_wp2_with fail
                    refine HSB.out.mono ?_
                    rintro e w7 ⟨v7, rfl, hm7, ha7, hE7⟩
                    have HF := Lib.hid (HFIN.out v7 w7 hE7 hm7 ha7)
                    clear hm7 ha7 hE7 HFIN HSB
                    go_wp2
                    go_roundw
                    case rel => exact ⟨k, by omega, by go_num, HF.out⟩
                    case measure => simp [intOf]
end Go.Proofs.Xx
end
