/- A part of the proof: the texts W36, W37, W38, W53, W54, W55, W56. -/
import Derived.Test.YtblmikccdhdjlaaGreatDoorP35
import Derived.Test.YtblmikccdhdjlaaGreatDoorP29
set_option linter.unusedVariables false
set_option linter.unusedSimpArgs false
section
namespace Go.Proofs.Xx
open Go.RowKit Go.V Go.Grow Go.Txt

/-- The number that a valid text spells. -/
def valW (l : List UInt8) : Int := if l.head? = some 45 then -(decVal (l.drop 1) : Int) else (decVal l : Int)
theorem valW_itoa (z : Int) : valW (Lib.itoa z) = z := by
  unfold valW Lib.itoa
  by_cases hz : z < 0
  · rw [if_pos hz]
    simp [decVal_decDigits]
    omega
  · rw [if_neg hz]
    have hd := decDigits_dig z.toNat
    rw [if_neg, decVal_decDigits]
    · omega
    · intro e
      cases hq : Lib.decDigits z.toNat with
      | nil => exact absurd hq (decDigits_ne _)
      | cons c r =>
        rw [hq] at e
        simp only [List.head?_cons, Option.some.injEq] at e
        subst e
        have := hd 45 (by rw [hq]; exact List.mem_cons_self ..)
        unfold isDig at this
        simp at this
/-- What frac.Check asks of two texts. -/
def okF (n d : List UInt8) : Prop := okW n ∧ okW d ∧ d ≠ [48] ∧ d.head? ≠ some 45 ∧ Nat.gcd (valW n).natAbs (valW d).natAbs = 1
instance (n d : List UInt8) : Decidable (okF n d) := by unfold okF; infer_instance
/-- The fraction that two valid texts spell. -/
def ratF (n d : List UInt8) : Rat := mkRat (valW n) (valW d).natAbs
theorem itoa_zero : Lib.itoa 0 = [48] := by
  unfold Lib.itoa
  rw [if_neg (by decide), show (0 : Int).toNat = 0 from rfl, decDigits_small (by decide)]
  rfl
theorem itoa_head45 (z : Int) : (Lib.itoa z).head? = some 45 ↔ z < 0 := by
  obtain ⟨c, r, h1, h2⟩ := itoa_head z
  rw [h1, ← h2]
  simp
theorem okF_iff (n d : List UInt8) : okF n d ↔ ∃ q : Rat, n = Lib.itoa q.num ∧ d = Lib.itoa q.den ∧ Short q.num.natAbs ∧ Short q.den := by
  constructor
  · rintro ⟨h1, h2, h3, h4, h5⟩
    obtain ⟨y, rfl, hy⟩ := (okW_iff n).1 h1
    obtain ⟨z, rfl, hz⟩ := (okW_iff d).1 h2
    have hz0 : ¬ z < 0 := fun h => h4 ((itoa_head45 z).2 h)
    have hz1 : z ≠ 0 := by rintro rfl; exact h3 itoa_zero
    rw [valW_itoa, valW_itoa] at h5
    refine ⟨⟨y, z.natAbs, by omega, h5⟩, rfl, ?_, hy, hz⟩
    show Lib.itoa z = Lib.itoa (z.natAbs : Int)
    rw [show (z.natAbs : Int) = z by omega]
  · rintro ⟨q, rfl, rfl, h1, h2⟩
    have hq := q.den_pos
    refine ⟨(okW_iff _).2 ⟨_, rfl, h1⟩, (okW_iff _).2 ⟨_, rfl, by rw [Int.natAbs_natCast]; exact h2⟩, ?_, ?_, ?_⟩
    · rw [← itoa_zero]
      intro e
      have := itoa_inj e
      omega
    · intro e
      have := (itoa_head45 _).1 e
      omega
    · rw [valW_itoa, valW_itoa, Int.natAbs_natCast]
      exact q.reduced
theorem ratF_itoa (q : Rat) : ratF (Lib.itoa q.num) (Lib.itoa q.den) = q := by
  unfold ratF
  rw [valW_itoa, valW_itoa, Int.natAbs_natCast, Rat.mkRat_self]
def fcheckE (n d : ByteArray) : Int := if okF n.data.toList d.data.toList then 0 else 20

theorem bytes_toList (l : List UInt8) : (⟨l.toArray⟩ : ByteArray).toList = l := by rw [Lib.toList_data]
theorem itoa_one : Lib.itoa 1 = [49] := by
  unfold Lib.itoa
  rw [if_neg (by decide), show (1 : Int).toNat = 1 from rfl, decDigits_small (by decide)]
  rfl
theorem txt_eq48 (z : Int) : ((txtB z).toList == [48]) = decide (z = 0) := by
  unfold txtB
  rw [bytes_toList, Bool.eq_iff_iff, beq_iff_eq, decide_eq_true_eq, ← itoa_zero]
  exact ⟨itoa_inj, fun h => by rw [h]⟩
theorem told_eq49 (z : Int) : ((toldB z).toList == [49]) = decide (z = 1) := by
  unfold toldB
  split
  · unfold txtB
    rw [bytes_toList, Bool.eq_iff_iff, beq_iff_eq, decide_eq_true_eq, ← itoa_one]
    exact ⟨itoa_inj, fun h => by rw [h]⟩
  · rename_i h
    rw [decide_eq_false]
    · rw [Lib.toList_data]; rfl
    · rintro rfl
      exact h (by rw [show Int.natAbs 1 = 1 from rfl, decDigits_small (by decide)]; simp)
theorem txt_first (z : Int) : 0 < (txtB z).size ∧ ∀ h, (((txtB z)[0]'h).toNat : Int) = 45 ↔ z < 0 := by
  obtain ⟨c, r, h1, h2⟩ := itoa_head z
  unfold txtB
  rw [h1]
  refine ⟨by rw [bytes_size]; simp, fun h => ?_⟩
  rw [← h2]
  show ((c.toNat : Int) = 45) ↔ _
  exact ⟨fun e => UInt8.toNat_inj.1 (by show c.toNat = 45; omega), fun e => by rw [e]; rfl⟩
set_option maxHeartbeats 4000000 in
set_option maxRecDepth 100000 in
theorem fcheck_any (n d : ByteArray) (w : World) (htab : Tab w) : Calls Tryz.prog 111 #[.agg #[.string n, .string d]] w fun e w' => e = .returned (.int .i64 (fcheckE n d)) ∧ Ext w w' := by
  have HC1 := Lib.hid (fun w' : World => wcheck_any n w')
  have HC2 := Lib.hid (fun w' : World => wcheck_any d w')
  have E0 : Ext w (w.alloc (.cells #[.string n, .string d] 46)) := Ext.alloc _ _
  have HV : Hid (∀ v : Int, (okF n.data.toList d.data.toList → v = 0) → (¬ okF n.data.toList d.data.toList → v = 20) → v = fcheckE n d) := fun v h1 h2 => by
    unfold fcheckE
    by_cases h : okF n.data.toList d.data.toList
    · rw [if_pos h]; exact h1 h
    · rw [if_neg h]; exact h2 h
  have HNO : Hid (∀ (w1 w' : World) (v : Value), v = .int .i64 20 → Ext w1 w' → ¬ okF n.data.toList d.data.toList → Ending.returned v = .returned (.int .i64 (fcheckE n d)) ∧ Ext w1 w') := fun w1 w' v h h1 h2 => by
    subst h
    exact ⟨by rw [HV.out 20 (fun h => absurd h h2) (fun _ => rfl)], h1⟩
  by_cases hn : okW n.data.toList
  · by_cases hd : okW d.data.toList
    · obtain ⟨y, hy1, hy⟩ := (okW_iff _).1 hn
      obtain ⟨z, hz1, hz⟩ := (okW_iff _).1 hd
      obtain rfl : n = txtB y := bytes_ext hy1
      obtain rfl : d = txtB z := bytes_ext hz1
      rw [checkE_txt hy] at HC1
      rw [checkE_txt hz] at HC2
      have HG := Lib.hid (fun (w' : World) (hE : Ext w w') => gcd_any y z w' hy hz (htab.mono hE))
      have h48 := txt_eq48 z
      obtain ⟨hsz, h45⟩ := txt_first z
      have h49 := told_eq49 ((Nat.gcd y.natAbs z.natAbs : Nat) : Int)
      have HF : Hid (okF (txtB y).data.toList (txtB z).data.toList ↔ z ≠ 0 ∧ ¬ z < 0 ∧ ((Nat.gcd y.natAbs z.natAbs : Nat) : Int) = 1) := by
        unfold okF
        rw [txtB_list, txtB_list, valW_itoa, valW_itoa]
        rw [txtB_list] at hn hd
        constructor
        · rintro ⟨_, _, h3, h4, h5⟩
          exact ⟨fun e => h3 (by rw [e, itoa_zero]), fun h => h4 ((itoa_head45 z).2 h), by rw [h5]; rfl⟩
        · rintro ⟨h3, h4, h5⟩
          exact ⟨hn, hd, fun e => h3 (itoa_inj (by rw [e, itoa_zero])), fun h => h4 ((itoa_head45 z).1 h), by omega⟩
      clear hn hd htab hy1 hz1 hy hz
      generalize toldB ((Nat.gcd y.natAbs z.natAbs : Nat) : Int) = tg at *
      generalize toldE ((Nat.gcd y.natAbs z.natAbs : Nat) : Int) = eg at *
      generalize ((Nat.gcd y.natAbs z.natAbs : Nat) : Int) = g at *
      have hX1 : ∀ w1 : World, Ext (w.alloc (.cells #[.string (txtB y), .string (txtB z)] 46)) w1 → w1.cell? ⟨w.heap.size, 0, none⟩ = some (.string (txtB y)) ∧ w1.cell? ⟨w.heap.size, 1, none⟩ = some (.string (txtB z)) := fun w1 h => ⟨h.cell (by go_simp), h.cell (by go_simp)⟩
      have HX := Lib.hid hX1
      clear hX1
      generalize txtB y = ty at *
      generalize txtB z = tz at *
      by_cases hz0 : z = 0
      · have h48' : (tz.toList == [48]) = true := by rw [h48, decide_eq_true hz0]
        have HZ := Lib.hid hz0
        clear h48 h45 h49 hz0
        go_enter Tryz.func111, Tryz.ntmps111
        go_wp2_with fail
        refine (HC1.out _).mono ?_
        rintro e w1 ⟨rfl, hE1⟩
        have hX := HX.out _ hE1
        go_wp2_with fail
        refine (HC2.out _).mono ?_
        rintro e w2 ⟨rfl, hE2⟩
        have hX2 := HX.out _ (Ext.trans _ _ _ hE1 hE2)
        clear hX
        go_wp2
        go_ret
        exact HNO.out _ _ _ rfl (Ext.trans _ _ _ E0 (Ext.trans _ _ _ hE1 hE2)) (fun h => (HF.out.1 h).1 HZ.out)
      · have h48' : (tz.toList == [48]) = false := by rw [h48, decide_eq_false hz0]
        have HZ := Lib.hid hz0
        clear h48 hz0
        by_cases hz1 : z < 0
        · have h45' : (((tz[0]'hsz).toNat : Int) == 45) = true := beq_iff_eq.2 ((h45 hsz).2 hz1)
          have HZ1 := Lib.hid hz1
          clear h45 h49 hz1
          go_enter Tryz.func111, Tryz.ntmps111
          go_wp2_with fail
          refine (HC1.out _).mono ?_
          rintro e w1 ⟨rfl, hE1⟩
          have hX := HX.out _ hE1
          go_wp2_with fail
          refine (HC2.out _).mono ?_
          rintro e w2 ⟨rfl, hE2⟩
          have hX2 := HX.out _ (Ext.trans _ _ _ hE1 hE2)
          clear hX
          go_wp2
          go_ret
          exact HNO.out _ _ _ rfl (Ext.trans _ _ _ E0 (Ext.trans _ _ _ hE1 hE2)) (fun h => by have h1 := (HF.out.1 h).2.1; have h2 := HZ1.out; omega)
        · have h45' : (((tz[0]'hsz).toNat : Int) == 45) = false := beq_eq_false_iff_ne.2 (fun e => hz1 ((h45 hsz).1 e))
          have HZ1 := Lib.hid hz1
          clear h45 hz1
          go_enter Tryz.func111, Tryz.ntmps111
          go_wp2_with fail
          refine (HC1.out _).mono ?_
          rintro e w1 ⟨rfl, hE1⟩
          have hX := HX.out _ hE1
          go_wp2_with fail
          refine (HC2.out _).mono ?_
          rintro e w2 ⟨rfl, hE2⟩
          have E2 := Ext.trans _ _ _ hE1 hE2
          have hX2 := HX.out _ E2
          clear hX
          go_wp2_with fail
          refine (HG.out _ (Ext.trans _ _ _ E0 E2)).mono ?_
          rintro e w3 ⟨rfl, hE3⟩
          have E3 := Ext.trans _ _ _ E0 (Ext.trans _ _ _ E2 hE3)
          by_cases hg : g = 1
          · have h49' : (tg.toList == [49]) = true := by rw [h49, decide_eq_true hg]
            have HGG := Lib.hid hg
            clear h49 hg
            go_wp2
            go_ret
            refine ⟨?_, E3⟩
            rw [← HV.out 0 (fun _ => rfl) (fun h => absurd (HF.out.2 ⟨HZ.out, by have := HZ1.out; omega, HGG.out⟩) h)]
            rfl
          · have h49' : (tg.toList == [49]) = false := by rw [h49, decide_eq_false hg]
            have HGG := Lib.hid hg
            clear h49 hg
            go_wp2
            go_ret
            exact HNO.out _ _ _ rfl E3 (fun h => HGG.out (HF.out.1 h).2.2)
    · have hc : checkE d = 10 := if_neg hd
      have hc1 : checkE n = 0 := if_pos hn
      rw [hc] at HC2
      rw [hc1] at HC1
      have HF : Hid (¬ okF n.data.toList d.data.toList) := fun h => hd h.2.1
      clear hc hc1 hn hd htab
      go_enter Tryz.func111, Tryz.ntmps111
      go_wp2_with fail
      refine (HC1.out _).mono ?_
      rintro e w1 ⟨rfl, hE1⟩
      have hX := hE1.old
      go_wp2_with fail
      refine (HC2.out _).mono ?_
      rintro e w2 ⟨rfl, hE2⟩
      go_wp2
      go_ret
      exact HNO.out _ _ _ rfl (Ext.trans _ _ _ E0 (Ext.trans _ _ _ hE1 hE2)) HF.out
  · have hc : checkE n = 10 := if_neg hn
    rw [hc] at HC1
    have HF : Hid (¬ okF n.data.toList d.data.toList) := fun h => hn h.1
    clear hc hn htab
    go_enter Tryz.func111, Tryz.ntmps111
    go_wp2_with fail
    refine (HC1.out _).mono ?_
    rintro e w1 ⟨rfl, hE1⟩
    go_wp2
    go_ret
    exact HNO.out _ _ _ rfl (Ext.trans _ _ _ E0 hE1) HF.out
end Go.Proofs.Xx
end
section
namespace Go.Proofs.Xx
open Go.RowKit Go.V Go.Grow Go.Txt

instance (n : Nat) : Decidable (Short n) := by unfold Short; infer_instance
def emptyQ : Value := .agg #[.string .empty, .string .empty]
def toldQ (q : Rat) : Value := if Short q.num.natAbs ∧ Short q.den then txtQ q else emptyQ
def toldQE (q : Rat) : Int := if Short q.num.natAbs ∧ Short q.den then 0 else 6

set_option maxHeartbeats 4000000 in
set_option maxRecDepth 100000 in
theorem rtold_any (va : Value) (q : Rat) (w : World) (ha : IsRat w va q) (htab : Tab w) (h1 : (mass q.num.natAbs).length ≤ 1000000000000) (h2 : (mass q.den).length ≤ 1000000000000) :
    Calls Tryz.prog 82 #[va] w fun e w' => e = .returned (.tuple #[toldQ q, .int .i64 (toldQE q)]) ∧ Ext w w' := by
  obtain ⟨m, d, rfl, hm, hd⟩ := ha
  have HT1 : Hid (∀ w' : World, Ext w w' → Calls Tryz.prog 133 #[.agg #[.bool (decide (q.num < 0)), m]] w' fun e w'' => e = .returned (.tuple #[.string (toldB q.num), .int .i64 (toldE q.num)]) ∧ Ext w' w'') := fun w' hE => told_any _ q.num w' ⟨m, rfl, hm.mono hE⟩ (htab.mono hE) h1
  have HP : Hid (∀ w' : World, Ext w w' → Calls Tryz.prog 134 #[d] w' (Ret (.num (q.den : Int)) w')) := fun w' hE => positive_any d _ w' (hd.mono hE)
  have HT2 : Hid (∀ (v : Value) (w' : World), Ext w w' → IsNum w' v (q.den : Int) → Calls Tryz.prog 133 #[v] w' fun e w'' => e = .returned (.tuple #[.string (toldB (q.den : Int)), .int .i64 (toldE (q.den : Int))]) ∧ Ext w' w'') := fun v w' hE h => told_any _ _ w' h (htab.mono hE) (by rw [Int.natAbs_natCast]; exact h2)
  have E0 : Ext w ((w.alloc (.cells #[.bool (decide (q.num < 0)), m, d] 111)).alloc (.cells #[.string .empty, .string .empty] 46)) := alloc2 _ _ _
  have HFIN : Hid (∀ (v : Value) (e : Int) (w1 w' : World), Ext w1 w' → (Short q.num.natAbs ∧ Short q.den → v = txtQ q ∧ e = 0) → (¬ (Short q.num.natAbs ∧ Short q.den) → v = emptyQ ∧ e = 6) → Ending.returned (.tuple #[v, .int .i64 e]) = .returned (.tuple #[toldQ q, .int .i64 (toldQE q)]) ∧ Ext w1 w') := fun v e w1 w' hE k1 k2 => by
    unfold toldQ toldQE
    by_cases h : Short q.num.natAbs ∧ Short q.den
    · obtain ⟨rfl, rfl⟩ := k1 h
      rw [if_pos h, if_pos h]
      exact ⟨rfl, hE⟩
    · obtain ⟨rfl, rfl⟩ := k2 h
      rw [if_neg h, if_neg h]
      exact ⟨rfl, hE⟩
  generalize hp : decide (q.num < 0) = p at *
  obtain ⟨A1, c1, rfl, _⟩ := hm
  obtain ⟨A2, c2, rfl, _⟩ := hd
  generalize (mass q.num.natAbs).length = l1 at *
  generalize (mass q.den).length = l2 at *
  clear hp htab h1 h2
  unfold toldB toldE at HT1 HT2
  rw [Int.natAbs_natCast] at HT2
  by_cases hs1 : (Lib.decDigits q.num.natAbs).length ≤ 600
  · rw [if_pos hs1, if_pos hs1] at HT1
    have HS1 : Hid (Short q.num.natAbs) := hs1
    clear hs1
    by_cases hs2 : (Lib.decDigits q.den).length ≤ 600
    · rw [if_pos hs2, if_pos hs2] at HT2
      have HS2 : Hid (Short q.den) := hs2
      clear hs2
      have HQ : Hid (txtQ q = .agg #[.string (txtB q.num), .string (txtB (q.den : Int))]) := rfl
      generalize txtB q.num = tn at *
      generalize txtB (q.den : Int) = td at *
      go_enter Tryz.func82, Tryz.ntmps82
      go_wp2_with fail
      refine (HT1.out _ E0).mono ?_
      rintro e w1 ⟨rfl, hE1⟩
      have hX := hE1.old
      go_wp2_with fail
      refine (HP.out _ (Ext.trans _ _ _ E0 hE1)).mono ?_
      rintro e w2 ⟨v, rfl, hv, hE2⟩
      have E2 := Ext.trans _ _ _ hE1 hE2
      go_wp2_with fail
      refine (HT2.out _ _ (Ext.trans _ _ _ E0 E2) hv).mono ?_
      rintro e w3 ⟨rfl, hE3⟩
      have E3 := Ext.trans _ _ _ E2 hE3
      clear hX
      have hX := E3.old
      go_wp2
      refine bodyPost_ret (v := .tuple #[.agg #[.string tn, .string td], .int .i64 0]) (by simp [results, Tryz.results82, go_sem, hX]) rfl ?_
      exact HFIN.out _ 0 _ _ (((Ext.trans _ _ _ E0 E3).set (by simp) _).set (by simp) _) (fun _ => ⟨HQ.out.symm, rfl⟩) (fun h => absurd ⟨HS1.out, HS2.out⟩ h)
    · rw [if_neg hs2, if_neg hs2] at HT2
      have HS2 : Hid (¬ Short q.den) := hs2
      clear hs2
      generalize txtB q.num = tn at *
      go_enter Tryz.func82, Tryz.ntmps82
      go_wp2_with fail
      refine (HT1.out _ E0).mono ?_
      rintro e w1 ⟨rfl, hE1⟩
      have hX := hE1.old
      go_wp2_with fail
      refine (HP.out _ (Ext.trans _ _ _ E0 hE1)).mono ?_
      rintro e w2 ⟨v, rfl, hv, hE2⟩
      have E2 := Ext.trans _ _ _ hE1 hE2
      go_wp2_with fail
      refine (HT2.out _ _ (Ext.trans _ _ _ E0 E2) hv).mono ?_
      rintro e w3 ⟨rfl, hE3⟩
      have E3 := Ext.trans _ _ _ E2 hE3
      clear hX
      have hX := E3.old
      go_wp2
      refine bodyPost_ret (v := .tuple #[.agg #[.string .empty, .string .empty], .int .i64 6]) (by simp [results, Tryz.results82, go_sem, hX]; rfl) rfl ?_
      exact HFIN.out _ 6 _ _ (((Ext.trans _ _ _ E0 E3).set (by simp) _).set (by simp) _) (fun h => absurd h.2 HS2.out) (fun _ => ⟨rfl, rfl⟩)
  · rw [if_neg hs1, if_neg hs1] at HT1
    have HS1 : Hid (¬ Short q.num.natAbs) := hs1
    clear hs1
    generalize (if (Lib.decDigits q.den).length ≤ 600 then txtB (q.den : Int) else .empty) = td at *
    generalize (if (Lib.decDigits q.den).length ≤ 600 then (0 : Int) else 6) = te at *
    go_enter Tryz.func82, Tryz.ntmps82
    go_wp2_with fail
    refine (HT1.out _ E0).mono ?_
    rintro e w1 ⟨rfl, hE1⟩
    have hX := hE1.old
    go_wp2_with fail
    refine (HP.out _ (Ext.trans _ _ _ E0 hE1)).mono ?_
    rintro e w2 ⟨v, rfl, hv, hE2⟩
    have E2 := Ext.trans _ _ _ hE1 hE2
    go_wp2_with fail
    refine (HT2.out _ _ (Ext.trans _ _ _ E0 E2) hv).mono ?_
    rintro e w3 ⟨rfl, hE3⟩
    have E3 := Ext.trans _ _ _ E2 hE3
    clear hX
    have hX := E3.old
    go_wp2
    refine bodyPost_ret (v := .tuple #[.agg #[.string .empty, .string .empty], .int .i64 6]) (by simp [results, Tryz.results82, go_sem, hX]; rfl) rfl ?_
    exact HFIN.out _ 6 _ _ (((Ext.trans _ _ _ E0 E3).set (by simp) _).set (by simp) _) (fun h => absurd h.1 HS1.out) (fun _ => ⟨rfl, rfl⟩)
end Go.Proofs.Xx
end
section
namespace Go.Proofs.Xx
open Go.RowKit Go.V Go.Grow Go.Txt

set_option maxHeartbeats 4000000 in
/-- frac.From. -/
theorem ffrom_any (n : Int) (w : World) (h1 : -9223372036854775808 ≤ n) (h2 : n ≤ 9223372036854775807) : Calls Tryz.prog 79 #[.int .i64 n] w (Ret (.rat (n : Rat)) w) := by
  have HF1 := Lib.hid (fun w' : World => from_any n w' h1 h2)
  have HF2 := Lib.hid (fun w' : World => from_any 1 w' (by omega) (by omega))
  have E0 : Ext w (w.alloc (.cells #[.bool false, .slice none 0 0, .slice none 0 0] 111)) := Ext.alloc _ _
  have HFIN : Hid (∀ (m d : Value) (w' : World), IsMass w' m n.natAbs → IsMass w' d (Int.natAbs 1) → IsRat w' (.agg #[.bool (decide (n < 0)), m, d]) (n : Rat)) := fun m d w' h3 h4 => ⟨m, d, rfl, h3, h4⟩
  clear h1 h2
  go_enter Tryz.func79, Tryz.ntmps79
  go_wp2_with fail
  refine (HF1.out _).mono ?_
  rintro e w1 ⟨v1, rfl, ⟨m1, rfl, hm1⟩, hE1⟩
  have H1 := Lib.hid hm1
  obtain ⟨A1, c1, rfl, _⟩ := hm1
  generalize hp : decide (n < 0) = p at *
  generalize (mass n.natAbs).length = l1 at *
  go_wp2_with fail
  refine (HF2.out _).mono ?_
  rintro e w2 ⟨v2, rfl, ⟨m2, rfl, hm2⟩, hE2⟩
  have HR := Lib.hid (HFIN.out _ _ _ (H1.out.mono hE2) hm2)
  obtain ⟨A2, c2, rfl, _⟩ := hm2
  generalize (mass (Int.natAbs 1)).length = l2 at *
  have hfd := field_num false A2 l2 c2 w2
  have hE3 := Ext.trans _ _ _ hE1 hE2
  have hX := hE3.old
  go_wp2
  refine bodyPost_ret (v := .agg #[.bool p, .slice A1 l1 c1, .slice A2 l2 c2]) (by simp [results, Tryz.results79, go_sem, hX]) rfl ⟨_, rfl, ?_, ?_⟩
  · exact HR.out.stored (x0 := .bool false) (x1 := .slice none 0 0) (x2 := .slice none 0 0) (by go_simp) (by go_simp) (by go_simp) (notInt_bool _) (notInt_slice _ _ _) (notInt_slice _ _ _) _ _ _
  · exact (((Ext.trans _ _ _ E0 hE3).set (by simp) _).set (by simp) _).set (by simp) _
end Go.Proofs.Xx
end
section
namespace Go.Proofs.Xx
open Go.RowKit Go.V Go.Grow Lin Go.Txt

/-- Whether a fraction is valid. -/
def okFr (x : Fr) : Bool := decide (okF x.1.data.toList x.2.data.toList)
theorem fcheckE_eq (x : Fr) : fcheckE x.1 x.2 = if okFr x then 0 else 20 := by
  unfold fcheckE okFr
  by_cases h : okF x.1.data.toList x.2.data.toList <;> simp [h]

set_option maxHeartbeats 1000000 in
theorem wrong1_any (x : Fr) (w : World) (htab : Tab w) : Calls Tryz.prog 110 #[.agg #[.string x.1, .string x.2]] w fun e w' => e = .returned (.bool (!okFr x)) ∧ Ext w w' := by
  obtain ⟨x1, x2⟩ := x
  have E0 : Ext w (w.alloc (.cells #[.string x1, .string x2] 46)) := Ext.alloc _ _
  have HF := Lib.hid (fcheck_any x1 x2 _ (htab.mono E0))
  have he : fcheckE x1 x2 = if okFr (x1, x2) then 0 else 20 := fcheckE_eq (x1, x2)
  rw [he] at HF
  clear he htab
  cases hk : okFr (x1, x2)
  · rw [hk] at HF
    simp only [Bool.false_eq_true, if_false] at HF
    clear hk
    go_enter Tryz.func110, Tryz.ntmps110
    go_wp2_with fail
    refine HF.out.mono ?_
    rintro e w1 ⟨rfl, hE⟩
    go_wp2
    go_ret
    exact ⟨rfl, Ext.trans _ _ _ E0 hE⟩
  · rw [hk] at HF
    simp only [if_true] at HF
    clear hk
    go_enter Tryz.func110, Tryz.ntmps110
    go_wp2_with fail
    refine HF.out.mono ?_
    rintro e w1 ⟨rfl, hE⟩
    go_wp2
    go_ret
    exact ⟨rfl, Ext.trans _ _ _ E0 hE⟩
theorem wrong_any (vl : Value) (l : List Fr) (w : World) (hl : IsFracs w vl l) (htab : Tab w) : Calls Tryz.prog 47 #[vl] w fun e w' => e = .returned (.bool (l.any fun x => !okFr x)) ∧ Ext w w' := by
  have HC := Lib.hid (containsF_any 110 #[] (enters_of Tryz.func110 (by kernel_rfl) rfl) vl l (fun x => !okFr x) w hl (fun i x w' _ hE => wrong1_any x w' (htab.mono hE)))
  clear hl htab
  generalize (l.any fun x => !okFr x) = r at *
  go_enter Tryz.func47, Tryz.ntmps47
  go_wp2_with fail
  refine HC.out.mono ?_
  rintro e w1 ⟨rfl, hE⟩
  go_wp2
  go_ret
  exact ⟨rfl, hE⟩

/-- Whether a table is valid. -/
def okT (t : List (List Fr)) : Bool :=
  decide (1 ≤ t.length) && decide (t.length ≤ 40) && decide (1 ≤ (t.headD []).length) && decide ((t.headD []).length ≤ 10) && t.all fun r => decide (r.length = (t.headD []).length) && r.all okFr
def lcheckE (t : List (List Fr)) : Int := if okT t then 0 else 60
def rowBad (n : Nat) (r : List Fr) : Bool := !decide (r.length = n) || r.any fun x => !okFr x
theorem okT_iff (t : List (List Fr)) : okT t = (decide (1 ≤ t.length) && decide (t.length ≤ 40) && decide (1 ≤ (t.headD []).length) && decide ((t.headD []).length ≤ 10) && !(t.any (rowBad (t.headD []).length))) := by
  unfold okT rowBad
  congr 1
  rw [Bool.eq_iff_iff]
  simp
end Go.Proofs.Xx
end
section
namespace Go.Proofs.Xx
open Go.RowKit Go.V Go.Grow Lin Go.Txt

set_option maxHeartbeats 4000000 in
set_option maxRecDepth 100000 in
theorem lcheck_any (va : Value) (t : List (List Fr)) (w : World) (ht : IsTab w va t) (htab : Tab w) : Calls Tryz.prog 12 #[va] w fun e w' => e = .returned (.int .i64 (lcheckE t)) ∧ Ext w w' := by
  have HT := Lib.hid ht
  obtain ⟨A, c, rfl, hc, hmx, _⟩ := ht
  have HNO : Hid (∀ w', Ext w w' → okT t = false → Ending.returned (.int .i64 60) = .returned (.int .i64 (lcheckE t)) ∧ Ext w w') := fun w' hE h => by
    unfold lcheckE
    rw [h]
    exact ⟨rfl, hE⟩
  have hok := okT_iff t
  cases t with
  | nil =>
    have HF : Hid (okT [] = false) := rfl
    clear hok
    go_enter Tryz.func12, Tryz.ntmps12
    go_wp2
    go_ret
    exact HNO.out _ (Ext.refl _) HF.out
  | cons l0 tl =>
    obtain ⟨b, o, u0, rfl, k1, k2⟩ := IsTab.get HT.out (show (l0 :: tl)[0]? = some l0 from rfl)
    rw [Nat.add_zero] at k1
    obtain ⟨A0, c0, rfl, _⟩ := k2
    have HOK := Lib.hid hok
    have hm1 : 1 ≤ (l0 :: tl).length := by simp
    have hhd : ((l0 :: tl).headD []).length = l0.length := rfl
    generalize hm : (l0 :: tl).length = m at *
    have HM := Lib.hid hm
    have hm1' : ¬ (m : Int) < 1 := by omega
    have hmp : 0 < m := by omega
    have HC := Lib.hid hc
    have hcp : 0 < c := by omega
    clear hok hm hc hmx
    by_cases h1 : m ≤ 40
    · have h1' : (m : Int) ≤ 40 := by omega
      by_cases h2 : 1 ≤ l0.length
      · have h2' : ¬ (l0.length : Int) < 1 := by omega
        by_cases h3 : l0.length ≤ 10
        · have h3' : (l0.length : Int) ≤ 10 := by omega
          have HOK2 : Hid (okT (l0 :: tl) = !((l0 :: tl).any (rowBad l0.length))) := by
            show okT (l0 :: tl) = _
            rw [HOK.out, hhd, decide_eq_true hm1, decide_eq_true h1, decide_eq_true h2, decide_eq_true h3]
            simp
          have H1 := Lib.hid h1
          clear h1 h2 h3 hm1 hhd HOK
          go_enter Tryz.func12, Tryz.ntmps12
          go_wp2_with fail
          go_loopw [29] (fun s wr => ∃ i : Nat, s = .int .i64 (i : Int) ∧ i ≤ m ∧ ((l0 :: tl).take i).any (rowBad l0.length) = false ∧ Ext w wr) (fun s _ => upTo m s)
          case atStart => exact ⟨0, rfl, Nat.zero_le _, rfl, Ext.refl _⟩
          case round =>
            obtain ⟨i, rfl, hi, hany, hE⟩ := hrel
            have r0 := hE.cell k1
            by_cases hlt : i < m
            · obtain ⟨l, hl⟩ : ∃ l, (l0 :: tl)[i]? = some l := ⟨(l0 :: tl)[i]'(by rw [HM.out]; exact hlt), List.getElem?_eq_getElem _⟩
              obtain ⟨b', o', u, he, q1, q2⟩ := IsTab.get HT.out hl
              cases he
              have HW := Lib.hid (wrong_any u l wr (q2.mono hE) (htab.mono hE))
              have ri := hE.cell q1
              obtain ⟨A1, c1, rfl, _⟩ := q2
              have HWI : Hid (wrap64 ((i : Int) + 1) = ((i + 1 : Nat) : Int)) := by
                have := H1.out
                show wrap64 ((i : Int) + 1) = ((i + 1 : Nat) : Int)
                rw [IntWalk.wrap64_in _ (by omega)]
                omega
              have hicap : i < c := by have := HC.out; omega
              have HTK := Lib.hid (show ((l0 :: tl).take (i + 1)).any (rowBad l0.length) = rowBad l0.length l by rw [take_snoc hl, List.any_append, hany]; simp)
              have HBAD : Hid (rowBad l0.length l = true → okT (l0 :: tl) = false) := fun h => by
                rw [HOK2.out, List.any_eq_true.2 ⟨l, List.mem_of_getElem? hl, h⟩]
                rfl
              have HRB : Hid (rowBad l0.length l = (!decide (l.length = l0.length) || l.any fun x => !okFr x)) := rfl
              clear hany q1 hl
              by_cases hll : l.length = l0.length
              · generalize hr : (l.any fun x => !okFr x) = r at *
                have HR := Lib.hid hr
                clear hr
                rw [hll] at ri HW
                have HLL := Lib.hid hll
                clear hll
                cases r with
                | true =>
                  have HB2 : Hid (okT (l0 :: tl) = false) := HBAD.out (by rw [HRB.out]; simp)
                  go_wp2_with fail
                  refine HW.out.mono ?_
                  rintro e w3 ⟨rfl, hE3⟩
                  go_wp2
                  go_ret
                  exact HNO.out _ (Ext.trans _ _ _ hE hE3) HB2.out
                | false =>
                  have HG2 : Hid (((l0 :: tl).take (i + 1)).any (rowBad l0.length) = false) := by
                    show _ = _
                    rw [HTK.out, HRB.out, HLL.out]
                    simp
                  go_wp2_with fail
                  refine HW.out.mono ?_
                  rintro e w3 ⟨rfl, hE3⟩
                  go_wp2_with fail
                  go_roundw
                  case rel => exact ⟨i + 1, rfl, hlt, HG2.out, Ext.trans _ _ _ hE hE3⟩
                  case measure => exact upTo_lt hlt
              · have hll' : ((l.length : Int) == (l0.length : Int)) = false := beq_eq_false_iff_ne.2 (by omega)
                have HB2 : Hid (okT (l0 :: tl) = false) := HBAD.out (by rw [HRB.out, decide_eq_false hll]; simp)
                have hll3 : ¬ (l.length : Int) = (l0.length : Int) := by omega
                go_wp2_with fail
                go_ret
                exact HNO.out _ hE HB2.out
            · have him : i = m := by omega
              have HG : Hid (okT (l0 :: tl) = true) := by
                rw [him, ← HM.out, List.take_length] at hany
                show okT (l0 :: tl) = true
                rw [HOK2.out, hany]
                rfl
              clear him hany
              go_wp2
              go_ret
              refine ⟨?_, hE⟩
              unfold lcheckE
              rw [HG.out]
              rfl
        · have h3' : 10 < (l0.length : Int) := by omega
          have HB2 : Hid (okT (l0 :: tl) = false) := by
            show okT (l0 :: tl) = false
            rw [HOK.out, hhd, decide_eq_false h3]
            simp
          clear h1 h3 hhd HOK
          go_enter Tryz.func12, Tryz.ntmps12
          go_wp2
          go_ret
          exact HNO.out _ (Ext.refl _) HB2.out
      · have h2' : (l0.length : Int) < 1 := by omega
        have HB2 : Hid (okT (l0 :: tl) = false) := by
          show okT (l0 :: tl) = false
          rw [HOK.out, hhd, decide_eq_false h2]
          simp
        clear h1 h2 hhd HOK
        go_enter Tryz.func12, Tryz.ntmps12
        go_wp2
        go_ret
        exact HNO.out _ (Ext.refl _) HB2.out
    · have h1' : 40 < (m : Int) := by omega
      have HB2 : Hid (okT (l0 :: tl) = false) := by
        show okT (l0 :: tl) = false
        rw [HOK.out, decide_eq_false h1]
        simp
      clear h1 hhd HOK
      go_enter Tryz.func12, Tryz.ntmps12
      go_wp2
      go_ret
      exact HNO.out _ (Ext.refl _) HB2.out
end Go.Proofs.Xx
end
section
namespace Go.Proofs.Xx
open Go.RowKit Go.V Go.Grow Lin Go.Txt

/-- The ratio that a fraction's texts spell. -/
def frQ (x : Fr) : Rat := ratF x.1.data.toList x.2.data.toList
theorem okFr_txt {x : Fr} (h : okFr x = true) : x = (txtB (frQ x).num, txtB ((frQ x).den : Int)) ∧ Short (frQ x).num.natAbs ∧ Short (frQ x).den := by
  obtain ⟨q, h1, h2, h3, h4⟩ := (okF_iff _ _).1 (of_decide_eq_true h)
  have e : frQ x = q := by unfold frQ; rw [h1, h2, ratF_itoa]
  rw [e]
  exact ⟨Prod.ext (bytes_ext h1) (bytes_ext h2), h3, h4⟩
theorem okFr_sz {x : Fr} (h : okFr x = true) : Sz (frQ x) 600 := ⟨(okFr_txt h).2.1.mass, (okFr_txt h).2.2.mass⟩

set_option maxRecDepth 100000 in
theorem lread_any (vl : Value) (l : List Fr) (w : World) (hl : IsFracs w vl l) (hlen : l.length ≤ 1099511627776) (hok : l.all okFr = true) :
    Calls Tryz.prog 53 #[vl] w fun e w' => e = .returned (.slice (some ⟨w.heap.size, 0, none⟩) l.length l.length) ∧ RRow w' w.heap.size l.length (fun _ => True) (fun i => frQ (l.getD i default)) ∧ IsRats w' (.slice (some ⟨w.heap.size, 0, none⟩) l.length l.length) (l.map frQ) ∧ Ext w w' := by
  have HM := Lib.hid (mappedFR_any 81 #[] (enters_of Tryz.func81 (by kernel_rfl) rfl) vl l (fun i => frQ (l.getD i default)) w hl hlen (fun i x w' hx hE => by
    have hx2 : okFr x = true := List.all_eq_true.1 hok x (List.mem_of_getElem? hx)
    obtain ⟨h1, h2, h3⟩ := okFr_txt hx2
    have h4 := fread_any (frQ x) w' (by unfold Short at h2; omega) (by unfold Short at h3; omega)
    have e : l.getD i default = x := by rw [List.getD_eq_getElem?_getD, hx]; rfl
    rw [e]
    have e2 : (Value.agg #[.string x.1, .string x.2]) = txtQ (frQ x) := by
      unfold txtQ
      have e3 : x.1 = txtB (frQ x).num := congrArg Prod.fst h1
      have e4 : x.2 = txtB ((frQ x).den : Int) := congrArg Prod.snd h1
      rw [← e3, ← e4]
    rw [e2]
    exact h4))
  have hcm : l.length ≤ maxLen := by unfold maxLen; omega
  have HCM := Lib.hid hcm
  clear hl hlen hok hcm
  go_enter Tryz.func53, Tryz.ntmps53
  go_wp2_with fail
  refine HM.out.mono ?_
  rintro e w1 ⟨rfl, hR, hE⟩
  have HR := Lib.hid hR
  clear hR
  go_wp2
  go_ret
  refine ⟨rfl, HR.out, ?_, hE⟩
  have := HR.out.rats (c := l.length) (fun _ _ => trivial) (Nat.le_refl _) HCM.out
  have e : (List.range l.length).map (fun i => frQ (l.getD i default)) = l.map frQ := by
    apply List.ext_getElem?
    intro i
    by_cases hi : i < l.length
    · rw [List.getElem?_map, List.getElem?_map, List.getElem?_range hi, List.getElem?_eq_getElem hi]
      simp [List.getD_eq_getElem?_getD, List.getElem?_eq_getElem hi]
    · rw [List.getElem?_eq_none (by simpa using hi), List.getElem?_eq_none (by simpa using hi)]
  rw [← e]
  exact this

theorem rank1_any (vl : Value) (l : List Fr) (w : World) (hl : IsFracs w vl l) (hlen : l.length ≤ 1000000) (hok : l.all okFr = true) :
    Calls Tryz.prog 51 #[vl] w fun e w' => ∃ r, e = .returned (.slice (some ⟨r, 0, none⟩) l.length l.length) ∧ w.heap.size ≤ r ∧ r < w'.heap.size ∧ NRow w' r l.length (scaledZ (l.map frQ)) ∧ Ext w w' := by
  have HR := Lib.hid (lread_any vl l w hl (by omega) hok)
  have HS : Hid (∀ (v : Value) (w' : World), IsRats w' v (l.map frQ) → Calls Tryz.prog 52 #[v] w' fun e w'' => ∃ g, e = .returned (.slice (some ⟨g, 0, none⟩) l.length l.length) ∧ w'.heap.size ≤ g ∧ NRow w'' g l.length (scaledZ (l.map frQ)) ∧ Ext w' w'') := fun v w' h => by
    have := scaled_any v (l.map frQ) w' h (by rw [List.length_map]; omega) (s := 600) (fun q hq => by
      obtain ⟨x, hx, rfl⟩ := List.mem_map.1 hq
      exact okFr_sz (List.all_eq_true.1 hok x hx)) (by rw [List.length_map]; omega)
    rw [List.length_map] at this
    exact this
  clear hl hlen hok
  go_enter Tryz.func51, Tryz.ntmps51
  go_wp2_with fail
  refine HR.out.mono ?_
  rintro e w1 ⟨rfl, _, hI, hE1⟩
  have H1 := Lib.hid (HS.out _ _ hI)
  have hsz := hE1.size
  go_wp2_with fail
  refine H1.out.mono ?_
  rintro e w2 ⟨g, rfl, hg, hN, hE2⟩
  go_wp2
  go_ret
  exact ⟨_, rfl, by omega, hN.lt, hN, Ext.trans _ _ _ hE1 hE2⟩
end Go.Proofs.Xx
end
section
namespace Go.Proofs.Xx
open Go.RowKit Go.V Go.Grow Lin Go.Txt

/-- The whole numbers of a table, row by row. -/
def tabZ (t : List (List Fr)) (i : Nat) : Nat → Int := scaledZ ((t.getD i []).map frQ)
/-- What Rank answers. -/
def rankV (t : List (List Fr)) : Value := if okT t then .tuple #[.int .i64 ((runP t.length (tabZ t) (t.headD []).length).steps.length : Int), .int .i64 0] else .tuple #[.int .i64 0, .int .i64 60]
theorem okT_parts {t : List (List Fr)} (h : okT t = true) : 1 ≤ t.length ∧ t.length ≤ 40 ∧ 1 ≤ (t.headD []).length ∧ (t.headD []).length ≤ 10 ∧ ∀ r ∈ t, r.length = (t.headD []).length ∧ r.all okFr = true := by
  unfold okT at h
  simp only [Bool.and_eq_true, decide_eq_true_eq, List.all_eq_true] at h
  obtain ⟨⟨⟨⟨h1, h2⟩, h3⟩, h4⟩, h5⟩ := h
  exact ⟨h1, h2, h3, h4, fun r hr => ⟨(h5 r hr).1, List.all_eq_true.2 (h5 r hr).2⟩⟩
theorem IsTab.isL {w : World} {v : Value} {t : List (List Fr)} (h : IsTab w v t) : ∃ us, IsL w v t.length us ∧ ∀ i l, t[i]? = some l → IsFracs w (us i) l := by
  obtain ⟨A, c, h1, h2, h3, h4⟩ := h
  rcases h4 with h4 | ⟨b, o, h5, h6⟩
  · subst h4
    exact ⟨fun _ => undef, ⟨A, c, h1, h2, h3, .inl rfl⟩, fun i l hl => by simp at hl⟩
  · refine ⟨fun i => (w.cell? ⟨b, o + i, none⟩).getD undef, ⟨A, c, h1, h2, h3, .inr ⟨b, o, h5, fun i hi => ?_⟩⟩, fun i l hl => ?_⟩
    · obtain ⟨u, k1, _⟩ := h6 i _ (List.getElem?_eq_getElem hi)
      exact k1.trans (by show some u = some ((w.cell? ⟨b, o + i, none⟩).getD undef); rw [k1]; rfl)
    · obtain ⟨u, k1, k2⟩ := h6 i l hl
      show IsFracs w ((w.cell? ⟨b, o + i, none⟩).getD undef) l
      rw [k1]; exact k2
/-- What mapped has made of the rows is a table. -/
theorem Mapd.tbl {w w' : World} {gb m n : Nat} {k : Nat → Nat} {M : Nat → Nat → Int} {rb : Nat → Nat} (h : Mapd w w' gb m m k (fun i r w => NRow w r n (M i)) rb) (hk : ∀ i, i < m → k i = n) : Tbl w' gb 0 m n rb M := by
  obtain ⟨⟨cs, hb, hl, _, hc⟩, hu, hj, hlt, hp, _⟩ := h
  refine ⟨fun i hi => ?_, fun i hi e => ?_, fun i j hi hj' e => ?_, fun i hi => hp i hi⟩
  · rw [hb.cell, Nat.zero_add, hc i hi, hk i hi]
  · have := hu i hi; omega
  · rcases Nat.lt_trichotomy i j with q | q | q
    · have := hj i j q hj'; omega
    · exact q
    · have := hj j i q hi; omega
theorem scaledZ_len {qs : List Rat} {s n : Nat} (hs : ∀ q ∈ qs, Sz q s) (hn : qs.length ≤ n) (i : Nat) (hi : i < qs.length) : (mass (scaledZ qs i).natAbs).length ≤ s + (n * s + 1) := by
  unfold scaledZ
  rw [Int.natAbs_mul, Int.natAbs_natCast]
  have hm : qs.getD i 0 ∈ qs := by
    rw [List.getD_eq_getElem?_getD, List.getElem?_eq_getElem hi]
    exact List.getElem_mem hi
  have h1 := (hs _ hm).1
  have h2 := lcmD_len qs (fun q hq => (hs q hq).2)
  have h3 : (mass (lcmD qs / (qs.getD i 0).den)).length ≤ (mass (lcmD qs)).length := mass_len_mono (Nat.div_le_self _ _)
  have h4 := mass_len_mul (qs.getD i 0).num.natAbs (lcmD qs / (qs.getD i 0).den)
  have h5 := Nat.mul_le_mul_right s hn
  omega

set_option maxHeartbeats 2000000 in
set_option maxRecDepth 100000 in
theorem rank_any (va : Value) (t : List (List Fr)) (w : World) (ht : IsTab w va t) (htab : Tab w) : Calls Tryz.prog 16 #[va] w fun e w' => e = .returned (rankV t) ∧ Ext w w' := by
  have HC := Lib.hid (lcheck_any va t w ht htab)
  unfold rankV
  unfold lcheckE at HC
  cases hok : okT t with
  | false =>
    rw [hok] at HC
    simp only [Bool.false_eq_true, if_false] at HC ⊢
    clear hok ht htab
    go_enter Tryz.func16, Tryz.ntmps16
    go_wp2_with fail
    refine HC.out.mono ?_
    rintro e w1 ⟨rfl, hE⟩
    go_wp2
    go_ret2
    exact ⟨rfl, hE⟩
  | true =>
    rw [hok] at HC
    simp only [if_true] at HC ⊢
    obtain ⟨p1, p2, p3, p4, p5⟩ := okT_parts hok
    obtain ⟨us, hL, hus⟩ := IsTab.isL ht
    have hrow : ∀ i, i < t.length → ∃ l, t[i]? = some l ∧ t.getD i [] = l ∧ l.length = (t.headD []).length ∧ l.all okFr = true := fun i hi => by
      have hg := List.getElem?_eq_getElem hi
      have := p5 _ (List.mem_of_getElem? hg)
      exact ⟨_, hg, by rw [List.getD_eq_getElem?_getD, hg]; rfl, this⟩
    have HMP : Hid (∀ w', Ext w w' → Calls Tryz.prog 50 #[va, .func (.func 51) #[] #[]] w' fun e w'' => ∃ rb, e = .returned (.slice (some ⟨w'.heap.size, 0, none⟩) t.length t.length) ∧ Mapd w' w'' w'.heap.size t.length t.length (fun _ => (t.headD []).length) (fun i r w => NRow w r (t.headD []).length (tabZ t i)) rb) := fun w' hE => by
      refine mappedTN_any 51 #[] (enters_of Tryz.func51 (by kernel_rfl) rfl) va t.length us _ _ w' (hL.mono hE) (by omega) (fun j q a b h h1 h2 => h.keep h1 h2) (fun i w2 hi hE2 => ?_)
      obtain ⟨l, g1, g2, g3, g4⟩ := hrow i hi
      have := rank1_any (us i) l w2 ((hus i l g1).mono (Ext.trans _ _ _ hE hE2)) (by omega) g4
      rw [← g3]
      unfold tabZ
      rw [g2]
      exact this
    have HEL : Hid (∀ (g cap : Nat) (rb : Nat → Nat) (w' : World), Tbl w' g 0 t.length (t.headD []).length rb (tabZ t) → t.length ≤ cap → (∀ q, q < t.length → w.heap.size ≤ rb q) → Ext w w' → Calls Tryz.prog 54 #[.agg #[.slice (some ⟨g, 0, none⟩) t.length cap]] w' fun e w'' => ∃ sv, e = .returned sv ∧ Ints w'' w.heap.size sv (runP t.length (tabZ t) (t.headD []).length).steps ∧ Tbl w'' g 0 t.length (t.headD []).length rb (runP t.length (tabZ t) (t.headD []).length).E ∧ Below w.heap.size w' w'') := fun g cap rb w' hT hcap hrb hE => by
      refine elim_any g 0 t.length cap _ rb (tabZ t) w.heap.size w' hT p1 hcap p3 (by omega) (by omega) hrb hE.size 6601 10 (by omega) (fun q x hq hx => ?_) (fun j hj => Nat.le_trans (runP_len2 _ _ j) (by omega)) (by decide)
      obtain ⟨l, g1, g2, g3, g4⟩ := hrow q hq
      unfold tabZ
      rw [g2]
      have := scaledZ_len (qs := l.map frQ) (s := 600) (n := 10) (fun y hy => by
        obtain ⟨z, hz, rfl⟩ := List.mem_map.1 hy
        exact okFr_sz (List.all_eq_true.1 g4 z hz)) (by rw [List.length_map]; omega) x (by rw [List.length_map]; omega)
      omega
    generalize (runP t.length (tabZ t) (t.headD []).length).steps = st at *
    generalize (t.headD []).length = n at *
    have hmc : t.length ≤ 40 := p2
    clear hok hus hrow p1 p2 p3 p4 p5 hL ht htab
    go_enter Tryz.func16, Tryz.ntmps16
    go_wp2_with fail
    refine HC.out.mono ?_
    rintro e w1 ⟨rfl, hE1⟩
    go_wp2_with fail
    refine (HMP.out w1 hE1).mono ?_
    rintro e w2 ⟨rb, rfl, hM⟩
    have hT2 := Mapd.tbl hM (fun _ _ => rfl)
    have hE2 := hM.ext
    have Ea : Ext w2 (w2.alloc (.cells #[.slice (some ⟨w1.heap.size, 0, none⟩) t.length t.length] 88)) := Ext.alloc _ _
    have hsz := hE1.size
    have HE := Lib.hid (HEL.out w1.heap.size t.length rb _ (hT2.ext Ea) (Nat.le_refl _) (fun q hq => by have := hM.up q hq; omega) (Ext.trans _ _ _ hE1 (Ext.trans _ _ _ hE2 Ea)))
    have EA := Ext.trans _ _ _ hE1 (Ext.trans _ _ _ hE2 Ea)
    clear hM hT2
    go_wp2_with fail
    refine HE.out.mono ?_
    rintro e w3 ⟨sv, rfl, hI, _, hB⟩
    obtain ⟨A, c, rfl⟩ := hI.slice
    have HX : Hid (Ext w w3) := Below.trans EA hB
    clear hI hB
    go_wp2
    go_ret2
    exact ⟨rfl, HX.out⟩
end Go.Proofs.Xx
end
