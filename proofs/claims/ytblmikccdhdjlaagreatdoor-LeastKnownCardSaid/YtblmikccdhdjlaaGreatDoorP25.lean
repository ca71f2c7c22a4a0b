/- A part of the proof: the texts W44. -/
import Derived.Test.YtblmikccdhdjlaaGreatDoorP24
import Derived.WalkMore
import Derived.Deep.DeepCutAuto
set_option linter.unusedVariables false
set_option linter.unusedSimpArgs false
section
namespace Go.Proofs.Xx
open Go.RowKit Go.V Go.Grow Lin

theorem findFrom_is {p : Nat → Bool} : ∀ {d r i : Nat}, r ≤ i → i < r + d → p i = true → (∀ x, r ≤ x → x < i → p x = false) → findFrom p d r = some i
  | 0, r, i, h1, h2, _, _ => by omega
  | d + 1, r, i, h1, h2, h3, h4 => by
    unfold findFrom
    by_cases e : r = i
    · subst e; rw [if_pos h3]
    · rw [if_neg (by rw [h4 r (Nat.le_refl _) (by omega)]; simp)]
      exact findFrom_is (by omega) (by omega) h3 (fun x k1 k2 => h4 x (by omega) k2)
theorem findFrom_not {p : Nat → Bool} : ∀ {d r : Nat}, (∀ x, r ≤ x → x < r + d → p x = false) → findFrom p d r = none
  | 0, r, _ => rfl
  | d + 1, r, h => by
    unfold findFrom
    rw [if_neg (by rw [h r (Nat.le_refl _) (by omega)]; simp)]
    exact findFrom_not (fun x k1 k2 => h x (by omega) (by omega))
/-- A pair whose first part is a number. -/
def numFst (z : Int) (v : Value) (w : World) : Prop := ∃ q r, v = .tuple #[q, r] ∧ IsNum w q z
/-- A measure: how far an index is from n. -/
def upTo (n : Nat) : Value → Nat
  | .int _ i => n - i.toNat
  | _ => 0
theorem upTo_lt {n i : Nat} (h : i < n) : upTo n (.int .i64 ((i + 1 : Nat) : Int)) < upTo n (.int .i64 (i : Int)) := by
  show n - (((i + 1 : Nat) : Int)).toNat < n - ((i : Int)).toNat
  omega
set_option maxHeartbeats 8000000 in
set_option maxRecDepth 100000 in
theorem elim_any (b o m cap n : Nat) (rb : Nat → Nat) (M : Nat → Nat → Int) (B : Nat) (w : World) (hT : Tbl w b o m n rb M) (hm : 0 < m) (hmc : m ≤ cap) (hn0 : 0 < n) (hn : n ≤ 1099511627776) (hm1 : m ≤ 1099511627776)
    (hB : ∀ q, q < m → B ≤ rb q) (hBw : B ≤ w.heap.size) (L K : Nat) (hL : 1 ≤ L) (hM : ∀ q x, q < m → x < n → (mass (M q x).natAbs).length ≤ L) (hK : ∀ j, j ≤ n → (runP m M j).steps.length ≤ K) (hLK : (L + 1) * 2 ^ K * 3 ≤ 8796093022208) :
    Calls Tryz.prog 54 #[.agg #[.slice (some ⟨b, o, none⟩) m cap]] w fun e w' => ∃ sv, e = .returned sv ∧ Ints w' B sv (runP m M n).steps ∧ Tbl w' b o m n rb (runP m M n).E ∧ Below B w w' := by
  have hrl : ∀ q, q < m → rb q < w.heap.size := fun q hq => (hT.row q hq).lt
  have h0 := hT.sl 0 hm
  rw [Nat.add_zero] at h0
  have hbl : b < w.heap.size := World.block_lt_of_cell? w _ h0
  have HRL := Lib.hid hrl
  have HTB := Lib.hid hT
  clear hrl
  have E1 : Ext w (w.alloc (.cells #[.slice (some ⟨b, o, none⟩) m cap] 88)) := Ext.alloc _ _
  go_enter Tryz.func54, Tryz.ntmps54
  go_wp2_with fail
  go_step3
  go_wp2_with fail
  refine (from_any 1 _ (by omega) (by omega)).mono ?_
  rintro e w1 ⟨v1, rfl, ⟨m1, rfl, hm1'⟩, hE1⟩
  have HM1 := Lib.hid hm1'
  obtain ⟨A1, c1, rfl, _⟩ := hm1'
  generalize (mass (Int.natAbs 1)).length = l1 at *
  have hE2 : Ext w1 (w1.alloc (.cells #[.bool false, .slice A1 l1 c1] 109)) := Ext.alloc _ _
  have EW := Ext.trans _ _ _ E1 (Ext.trans _ _ _ hE1 hE2)
  have ht1 : (w1.alloc (.cells #[.bool false, .slice A1 l1 c1] 109)).cell? ⟨w.heap.size, 0, none⟩ = some (.slice (some ⟨b, o, none⟩) m cap) := hE2.cell (hE1.cell (by go_simp))
  have hb1 : (w1.alloc (.cells #[.bool false, .slice A1 l1 c1] 109)).cell? ⟨b, o, none⟩ = some (.slice (some ⟨rb 0, 0, none⟩) n n) := EW.cell h0
  have hww : w.heap.size < w1.heap.size := Nat.lt_of_lt_of_le (by simp) hE1.size
  have hLR : NRow (w1.alloc (.cells #[.bool false, .slice A1 l1 c1] 109)) w1.heap.size 1 (fun _ => 1) := ⟨[(false, .slice A1 l1 c1)], Blk.new _ _ _, rfl, fun j p hp => by
    match j, hp with
    | 0, hp => cases hp; exact ⟨_, rfl, HM1.out.mono hE2⟩⟩
  have HLR := Lib.hid hLR
  have hlb : w1.heap.size < (w1.alloc (.cells #[.bool false, .slice A1 l1 c1] 109)).heap.size := by simp
  clear hLR hE1 hE2 E1
  go_wp2_with fail
  go_step3
  go_wp2_with fail
  refine (width_any b o m cap n _ _ _ hb1 hm).mono ?_
  rintro e w2 ⟨rfl, hw2⟩
  subst hw2
  have HB := Lib.hid hB
  have HBW := Lib.hid hBw
  have HSZ := Lib.hid (run_size m n M L hL hM)
  have HKK := Lib.hid hK
  have HLK := Lib.hid hLK
  have HN := Lib.hid hn
  have HM0 := Lib.hid hm1
  have HT1 := Lib.hid (hT.ext EW)
  have HRL' : Hid (∀ q, q < m → rb q < w1.heap.size ∧ rb q < w.heap.size ∧ rb q ≠ b) := fun q hq => ⟨Nat.lt_trans (HRL.out q hq) hww, HRL.out q hq, hT.ne q hq⟩
  have HEB : Hid (Below B w (w1.alloc (.cells #[.bool false, .slice A1 l1 c1] 109))) := EW.mono hBw
  have HBL := Lib.hid hbl
  have HT1C := Lib.hid ht1
  have HLBL := Lib.hid hlb
  have HWW := Lib.hid hww
  have HBW1 : Hid (B ≤ (w1.alloc (.cells #[.bool false, .slice A1 l1 c1] 109)).heap.size) := Nat.le_trans hBw (Nat.le_of_lt (Nat.lt_trans hww hlb))
  clear HRL HTB hT hB hBw hL hM hK hLK hn hm1 EW hbl hww hlb hb1 ht1 h0
  generalize w1.alloc (.cells #[.bool false, .slice A1 l1 c1] 109) = W1 at *
  generalize w1.heap.size = lb at *
  generalize w.heap.size = tb at *
  go_wp2_with fail
  go_loopw [3, 20] (fun s t wr => ∃ j : Nat, t = .int .i64 (j : Int) ∧ j ≤ n ∧ Ints wr W1.heap.size s (runP m M j).steps ∧ EI W1 wr tb lb b o m n cap rb B (runP m M j).E (runP m M j).last) (fun _ t _ => upTo n t)
  case atStart => exact ⟨0, rfl, Nat.zero_le _, Ints.nil _ _, ⟨HT1.out, HLR.out, HT1C.out, Below.refl _ _⟩⟩
  case round =>
    obtain ⟨j, rfl, hj, hS, hI⟩ := hrel
    obtain ⟨wj, hwj⟩ : ∃ wj, wj = wr := ⟨_, rfl⟩
    subst hwj
    by_cases hlt : j < n
    · have hsz := HSZ.out j hj
      have hkk := HKK.out j hj
      have hl0 := runP_last m M j
      have hrm := runP_len m M j
      have hcol : runP m M (j + 1) = colP m (runP m M j) j := rfl
      generalize runP m M j = s at *
      obtain ⟨A3, c3, hsl⟩ := hS.slice
      subst hsl
      have HS := Lib.hid hS
      have HI := Lib.hid hI
      have HCOL := Lib.hid hcol
      have HSZJ := Lib.hid hsz
      have HKJ := Lib.hid hkk
      have HL0 := Lib.hid hl0
      have HJ := Lib.hid hj
      have HWJ : Hid (wrap64 ((j : Int) + 1) = ((j + 1 : Nat) : Int)) := by
        have := HN.out
        show wrap64 ((j : Int) + 1) = ((j + 1 : Nat) : Int)
        rw [IntWalk.wrap64_in _ (by omega)]
        omega
      have ht := hI.t
      clear hS hI hcol hsz hkk hl0 hj
      generalize hr : s.steps.length = r at *
      have HR := Lib.hid hr
      clear hr
      go_wp2_with fail
      go_loopw [3, 8] (fun v t w2 => v = .slice A3 r c3 ∧ ∃ i : Nat, t = .int .i64 (i : Int) ∧ r ≤ i ∧ i ≤ m ∧ (∀ x, r ≤ x → x < i → s.E x j = 0) ∧ Ext wj w2) (fun _ t _ => upTo m t)
      case atStart => exact ⟨rfl, r, rfl, Nat.le_refl _, hrm, fun x h1 h2 => by omega, Ext.refl _⟩
      case round =>
        obtain ⟨w2, hw2⟩ : ∃ w2, w2 = wr := ⟨_, rfl⟩
        subst hw2
        obtain ⟨rfl, i, rfl, hri, him, hz, hE2⟩ := hrel
        have ht2 := hE2.cell ht
        by_cases hi : i < m
        · have hI2 := HI.out.ext hE2 HBW1.out
          have si := hI2.tbl.sl i hi
          obtain ⟨p0, v0, k1, k2, k3, _, _⟩ := (hI2.tbl.row i hi).get hlt
          have HSD := Lib.hid (side_any _ _ w2 k3)
          by_cases hz0 : s.E i j = 0
          · have hsg : (s.E i j).sign = 0 := by rw [hz0]; rfl
            have HZ0 := Lib.hid hz0
            have HZ := Lib.hid hz
            have HI2 := Lib.hid hI2
            clear hz hz0 hI2 k3
            have hwi : wrap64 ((i : Int) + 1) = ((i + 1 : Nat) : Int) := by
              have := HM0.out
              rw [IntWalk.wrap64_in _ (by omega)]
              omega
            have HWI := Lib.hid hwi
            clear hwi
            go_wp2_with fail
            refine HSD.out.mono ?_
            rintro e w3 ⟨rfl, hE3⟩
            rw [hsg]
            go_wp2_with fail
            go_roundw
            case rel =>
              refine ⟨rfl, i + 1, by rw [HWI.out], by omega, hi, fun x h1 h2 => ?_, Ext.trans _ _ _ hE2 hE3⟩
              by_cases e : x = i
              · subst e; exact HZ0.out
              · exact HZ.out x h1 (by omega)
            case measure =>
              rw [HWI.out]
              exact upTo_lt hi
          · have hsg : ((s.E i j).sign == 0) = false := beq_eq_false_iff_ne.2 (fun e => hz0 (Int.sign_eq_zero_iff_zero.1 e))
            have hfind : findFrom (fun i => decide (s.E i j ≠ 0)) (m - s.steps.length) s.steps.length = some i := by
              rw [HR.out]
              exact findFrom_is hri (by omega) (decide_eq_true hz0) (fun x h1 h2 => decide_eq_false (by rw [hz x h1 h2]; simp))
            have hnew := HCOL.out
            unfold colP at hnew
            rw [hfind, HR.out] at hnew
            have HNEW := Lib.hid hnew
            have hrm' : r < m := by omega
            have HSW : Hid (∀ q x, q < m → x < n → (mass (swapR s.E i r q x).natAbs).length + 1 ≤ (L + 1) * 2 ^ r) := by
              have h1 := HSZJ.out.1
              intro q x hq hx
              unfold swapR
              split
              · exact h1 r x hrm' hx
              · split
                · exact h1 i x hi hx
                · exact h1 q x hq hx
            have HI2 := Lib.hid hI2
            have HS2 := Lib.hid (HS.out.ext hE2)
            obtain ⟨LR, HSZ3⟩ : ∃ LR, Hid ((∀ q x, q < m → x < n → (mass (swapR s.E i r q x).natAbs).length ≤ LR) ∧ (mass s.last.natAbs).length ≤ LR ∧ 3 * LR + 1 ≤ 8796093022208) := by
              refine ⟨(L + 1) * 2 ^ r - 1, fun q x hq hx => Nat.le_sub_one_of_lt (HSW.out q x hq hx), Nat.le_sub_one_of_lt HSZJ.out.2, ?_⟩
              have h1 := HLK.out
              have h2 : 2 ^ r ≤ 2 ^ K := Nat.pow_le_pow_right (by omega) HKJ.out
              have h3 := Nat.mul_le_mul_left (L + 1) h2
              omega
            clear hz hz0 hI2 k3 hfind hnew
            go_wp2_with fail
            refine HSD.out.mono ?_
            rintro e w3 ⟨rfl, hE3⟩
            have HI3 := Lib.hid (HI2.out.ext hE3 HBW1.out)
            have HS3 := Lib.hid (HS2.out.ext hE3)
            have ht3 := HI3.out.t
            have hE3s := hE3
            go_upto_if 45 with fail
            go_cut [] (fun wx => EI W1 wx tb lb b o m n cap rb B (swapR s.E i r) s.last ∧ Ints wx W1.heap.size (.slice A3 r c3) s.steps)
            case first =>
              by_cases hir : i = r
              · subst hir
                go_wp2
                go_meet
                case rel =>
                  refine ⟨HI3.out.congr (fun q x _ _ => ?_), HS3.out⟩
                  unfold swapR
                  by_cases e : q = i
                  · subst e; simp
                  · simp [e]
              · have hne : ((i : Int) == (r : Int)) = false := beq_eq_false_iff_ne.2 (by omega)
                have HSWP := Lib.hid (swap_any b o m cap n i r rb s.E B w3 HI3.out.tbl hi hrm' hir hmc HN.out HB.out (Nat.le_trans HBW1.out HI3.out.below.size))
                go_wp2_with fail
                refine HSWP.out.mono ?_
                rintro e w4 ⟨rfl, hT4, hB4, hK4, hO4⟩
                have HX : Hid (EI W1 w4 tb lb b o m n cap rb B (swapR s.E i r) s.last ∧ Ints w4 W1.heap.size (.slice A3 r c3) s.steps) := by
                  refine ⟨HI3.out.swapped hT4 hB4 hK4 hO4 hi hrm' (fun q hq e => by have := (HRL'.out q hq).1; omega) (fun q hq e => by have := (HRL'.out q hq).2.1; omega), HS3.out.same fun g hg hg2 => hO4 g hg (fun e => by have h1 := (HS3.out.own hg2).1; have h2 := (HRL'.out i hi).1; have h3 := HLBL.out; omega) (fun e => by have h1 := (HS3.out.own hg2).1; have h2 := (HRL'.out r hrm').1; have h3 := HLBL.out; omega)⟩
                clear hT4 hB4 hK4 hO4
                go_wp2
                go_meet
                case rel => exact HX.out
            case rest =>
              obtain ⟨hI5, hS5⟩ := hcut
              obtain ⟨w5, hw5⟩ : ∃ w5, w5 = wc := ⟨_, rfl⟩
              subst hw5
              have ht5 := hI5.t
              have sr := hI5.tbl.sl r hrm'
              obtain ⟨pp, pm, q1, q2, q3, _, _⟩ := (hI5.tbl.row r hrm').get hlt
              have HPN := Lib.hid q3
              obtain ⟨A6, c6, hpm, _⟩ := IsNum.isMass q3
              subst hpm
              have HI5 := Lib.hid hI5
              have HS5 := Lib.hid hS5
              have HE5 := Lib.hid hE2
              clear hI5 hS5 q3 HI3 HS3 HI2 HS2
              generalize hE : swapR s.E i r = E at *
              have HEQ := Lib.hid hE
              clear hE
              generalize (mass (E r j).natAbs).length = l6 at *
              have hEp : Ext w5 (w5.alloc (.cells #[.bool pp, .slice A6 l6 c6] 109)) := Ext.alloc _ _
              have HPR : Hid (NRow (w5.alloc (.cells #[.bool pp, .slice A6 l6 c6] 109)) w5.heap.size 1 (fun _ => E r j)) := ⟨[(pp, .slice A6 l6 c6)], Blk.new _ _ _, rfl, fun j p hp => by
                match j, hp with
                | 0, hp => cases hp; exact IsNum.mono HPN.out hEp⟩
              have HI6 := Lib.hid (HI5.out.ext hEp HBW1.out)
              have HS6 := Lib.hid (HS5.out.ext hEp)
              have HPB : Hid (w5.heap.size < (w5.alloc (.cells #[.bool pp, .slice A6 l6 c6] 109)).heap.size ∧ lb < w5.heap.size ∧ B ≤ w5.heap.size) := ⟨by simp, HI5.out.lst.lt, Nat.le_trans HBW1.out HI5.out.below.size⟩
              have hwr1 : wrap64 ((r : Int) + 1) = (r : Int) + 1 := by
                have := HM0.out
                rw [IntWalk.wrap64_in _ (by omega)]
              have HWR1 := Lib.hid hwr1
              clear hEp hwr1
              go_wp2_with fail
              rw [HWR1.out]
              generalize w5.alloc (.cells #[.bool pp, .slice A6 l6 c6] 109) = W6 at *
              generalize w5.heap.size = pb at *
              go_loopw [10] (fun t w7 => ∃ k : Nat, t = .int .i64 (k : Int) ∧ r + 1 ≤ k ∧ k ≤ m ∧ EI W1 w7 tb lb b o m n cap rb B (stepTo E r j s.last k j) s.last ∧ Ints w7 W1.heap.size (.slice A3 r c3) s.steps ∧ NRow w7 pb 1 (fun _ => E r j) ∧ W6.heap.size ≤ w7.heap.size) (fun t _ => upTo m t)
              case atStart => exact ⟨r + 1, rfl, Nat.le_refl _, hrm', HI6.out.congr (fun q x _ _ => stepTo_start (E := E) (r := r) (j := j) (last := s.last) q x), HS6.out, HPR.out, Nat.le_refl _⟩
              case round =>
                obtain ⟨w7, hw7⟩ : ∃ w7, w7 = wr := ⟨_, rfl⟩
                subst hw7
                obtain ⟨k, rfl, hk1, hk2, hI7, hS7, hP7, hsz7⟩ := hrel
                have ht7 := hI7.t
                by_cases hkm : k < m
                · have sk := hI7.tbl.sl k hkm
                  obtain ⟨fp, fm, q1, q2, q3, _, _⟩ := (hI7.tbl.row k hkm).get hlt
                  rw [stepTo_here] at q3
                  have HFN := Lib.hid q3
                  obtain ⟨A7, c7, hfm, _⟩ := IsNum.isMass q3
                  subst hfm
                  generalize (mass (E k j).natAbs).length = l7 at *
                  have hEp : Ext w7 (w7.alloc (.cells #[.bool fp, .slice A7 l7 c7] 109)) := Ext.alloc _ _
                  have HFR : Hid (NRow (w7.alloc (.cells #[.bool fp, .slice A7 l7 c7] 109)) w7.heap.size 1 (fun _ => E k j)) := ⟨[(fp, .slice A7 l7 c7)], Blk.new _ _ _, rfl, fun j p hp => by
                    match j, hp with
                    | 0, hp => cases hp; exact IsNum.mono HFN.out hEp⟩
                  have HI8 := Lib.hid (hI7.ext hEp HBW1.out)
                  have HS8 := Lib.hid (hS7.ext hEp)
                  have HP8 := Lib.hid (hP7.ext hEp)
                  have HFB : Hid (w7.heap.size < (w7.alloc (.cells #[.bool fp, .slice A7 l7 c7] 109)).heap.size ∧ pb < w7.heap.size ∧ W6.heap.size ≤ w7.heap.size) := ⟨by simp, hP7.lt, hsz7⟩
                  clear hI7 hS7 hP7 hsz7 q3 hEp
                  go_wp2_with fail
                  generalize w7.alloc (.cells #[.bool fp, .slice A7 l7 c7] 109) = W8 at *
                  generalize w7.heap.size = fb at *
                  go_loopw [12] (fun t w9 => ∃ c : Nat, t = .int .i64 (c : Int) ∧ j ≤ c ∧ c ≤ n ∧ EI W1 w9 tb lb b o m n cap rb B (stepTo E r j s.last k c) s.last ∧ Ints w9 W1.heap.size (.slice A3 r c3) s.steps ∧ NRow w9 pb 1 (fun _ => E r j) ∧ NRow w9 fb 1 (fun _ => E k j) ∧ W8.heap.size ≤ w9.heap.size) (fun t _ => upTo n t)
                  case atStart => exact ⟨j, rfl, Nat.le_refl _, HJ.out, HI8.out, HS8.out, HP8.out, HFR.out, Nat.le_refl _⟩
                  case round =>
                    obtain ⟨w9, hw9⟩ : ∃ w9, w9 = wr := ⟨_, rfl⟩
                    subst hw9
                    obtain ⟨c, rfl, hc1, hc2, hI9, hS9, hP9, hF9, hsz9⟩ := hrel
                    have ht9 := hI9.t
                    have hs0 := hI9.tbl.sl 0 hm
                    rw [Nat.add_zero] at hs0
                    have HWID := Lib.hid (width_any b o m cap n _ _ w9 hs0 hm)
                    by_cases hcn : c < n
                    · go_wp2_with fail
                      refine HWID.out.mono ?_
                      rintro e w10 ⟨rfl, hw10⟩
                      subst hw10
                      have sk9 := hI9.tbl.sl k hkm
                      have sr9 := hI9.tbl.sl r hrm'
                      obtain ⟨a1, a2, a3, a4, a5, _, _⟩ := (hI9.tbl.row k hkm).get hcn
                      obtain ⟨b1, b2, b3, b4, b5, _, _⟩ := (hI9.tbl.row r hrm').get hcn
                      have hp9 := hP9.get (j := 0) (by omega)
                      rw [Nat.zero_mul, Nat.zero_add] at hp9
                      obtain ⟨p1, p2, p3, p4, p5, _, _⟩ := hp9
                      have hf9 := hF9.get (j := 0) (by omega)
                      rw [Nat.zero_mul, Nat.zero_add] at hf9
                      obtain ⟨f1, f2, f3, f4, f5, _, _⟩ := hf9
                      rw [stepTo_here] at a5
                      rw [stepTo_row] at b5
                      have HCELL : Hid (∀ w2, Ext w10 w2 → w2.cell? ⟨tb, 0, none⟩ = some (.slice (some ⟨b, o, none⟩) m cap) ∧ w2.cell? ⟨b, o + k, none⟩ = some (.slice (some ⟨rb k, 0, none⟩) n n) ∧ w2.cell? ⟨b, o + r, none⟩ = some (.slice (some ⟨rb r, 0, none⟩) n n) ∧ w2.cell? ⟨rb k, c * 2, none⟩ = some (.bool a1) ∧ w2.cell? ⟨rb k, c * 2 + 1, none⟩ = some a2 ∧ w2.cell? ⟨rb r, c * 2, none⟩ = some (.bool b1) ∧ w2.cell? ⟨rb r, c * 2 + 1, none⟩ = some b2 ∧ w2.cell? ⟨pb, 0, none⟩ = some (.bool p1) ∧ w2.cell? ⟨pb, 1, none⟩ = some p2 ∧ w2.cell? ⟨fb, 0, none⟩ = some (.bool f1) ∧ w2.cell? ⟨fb, 1, none⟩ = some f2) := fun w2 hE => ⟨hE.cell ht9, hE.cell sk9, hE.cell sr9, hE.cell a3, hE.cell a4, hE.cell b3, hE.cell b4, hE.cell p3, hE.cell p4, hE.cell f3, hE.cell f4⟩
                      have HP1 : Hid (∀ w2, Ext w10 w2 → Calls Tryz.prog 115 #[.agg #[.bool a1, a2], .agg #[.bool p1, p2]] w2 (Ret (.num (E k c * E r j)) w2)) := fun w2 hE => product_any _ _ _ _ _ (IsNum.mono a5 hE) (IsNum.mono p5 hE) (by have h1 := HSZ3.out.1 k c hkm hcn; have h2 := HSZ3.out.1 r j hrm' hlt; have h3 := HSZ3.out.2.2; omega)
                      have HP2 : Hid (∀ w2, Ext w10 w2 → Calls Tryz.prog 115 #[.agg #[.bool f1, f2], .agg #[.bool b1, b2]] w2 (Ret (.num (E k j * E r c)) w2)) := fun w2 hE => product_any _ _ _ _ _ (IsNum.mono f5 hE) (IsNum.mono b5 hE) (by have h1 := HSZ3.out.1 k j hkm hlt; have h2 := HSZ3.out.1 r c hrm' hcn; have h3 := HSZ3.out.2.2; omega)
                      have HLS : Hid (∀ (va vb : Value) (w2 : World), IsNum w2 va (E k c * E r j) → IsNum w2 vb (E k j * E r c) → Calls Tryz.prog 121 #[va, vb] w2 (Ret (.num (E k c * E r j - E k j * E r c)) w2)) := fun va vb w2 h1 h2 => less_any _ _ _ _ _ h1 h2 (by have h3 := size_step (e := 1) (HSZ3.out.1 k c hkm hcn) (HSZ3.out.1 r j hrm' hlt) (HSZ3.out.1 k j hkm hlt) (HSZ3.out.1 r c hrm' hcn); have h4 := h3.1; have h5 := h3.2.1; have h6 := HSZ3.out.2.2; omega)
                      have HI9 := Lib.hid hI9
                      have HS9 := Lib.hid hS9
                      have HP9 := Lib.hid hP9
                      have HF9 := Lib.hid hF9
                      have HSZ9 := Lib.hid hsz9
                      have hw9s : lb < w10.heap.size ∧ fb < w10.heap.size := ⟨hI9.lst.lt, hF9.lt⟩
                      clear hI9 hS9 hP9 hF9 hsz9 sk9 sr9 a3 a4 a5 b3 b4 b5 p3 p4 p5 f3 f4 f5 ht9
                      go_wp2_with fail
                      refine ro_region 22 [none, none, none, none, none, none, none, none, none, some (.num (E k c * E r j)), none, none, none, none, none, none, none, none, none, some (.num (E k j * E r c)), some (.num (E k c * E r j - E k j * E r c)), some (freshNum w10.heap.size)] (by kernel_rfl) (by kernel_rfl) ?_
                      go_simp
                      repeat (apply ro_quiet rfl; (intro w2 hE2' _; have hX := HCELL.out w2 (Ext.trans _ _ _ (Ext.drew _) hE2'); go_simp; exact rfl); go_simp)
                      apply ro_call rfl (fun w => by go_simp; exact ⟨rfl, rfl⟩)
                      · intro w2 hE2' hd
                        exact HP1.out w2 (Ext.trans _ _ _ (Ext.drew _) hE2')
                      intro v92
                      go_simp
                      repeat (apply ro_quiet rfl; (intro w2 hE2' _; have hX := HCELL.out w2 (Ext.trans _ _ _ (Ext.drew _) hE2'); go_simp; exact rfl); go_simp)
                      apply ro_call rfl (fun w => by go_simp; exact ⟨rfl, rfl⟩)
                      · intro w2 hE2' hd
                        exact HP2.out w2 (Ext.trans _ _ _ (Ext.drew _) hE2')
                      intro v102
                      go_simp
                      apply ro_call rfl (fun w => by go_simp; exact ⟨rfl, rfl⟩)
                      · intro w2 hE2' hd
                        simp [depsHold, Region.binds] at hd
                        exact HLS.out _ _ _ hd.1 hd.2
                      intro v103
                      go_simp
                      apply ro_run rfl
                      · intro w2 hE2' hd
                        go_simp
                        exact ⟨_, _, ⟨rfl, rfl⟩, Ext.alloc _ _, _, rfl, hE2'.size, heap_alloc_new _ _⟩
                      intro v13
                      go_simp
                      refine ro_done (fun w11 hE11 hf => ?_)
                      simp [-List.cons_append] at hf
                      obtain ⟨_, _, hx, g, rfl, hg, hgc⟩ := hf
                      have E11 : Ext w10 w11 := Ext.trans _ _ _ (Ext.drew _) hE11
                      obtain ⟨hg0, hg1, hgf0, hgf1⟩ := fresh_cells hgc
                      have HX := Lib.hid hx
                      obtain ⟨m13, rfl, hm13⟩ := hx
                      obtain ⟨A13, c13, rfl, _⟩ := hm13
                      have hGR : NRow ((w11.setCell ⟨g, 0, none⟩ (.bool (decide (E k c * E r j - E k j * E r c < 0)))).setCell ⟨g, 1, none⟩ (.slice A13 (mass (E k c * E r j - E k j * E r c).natAbs).length c13)) g 1 (fun _ => E k c * E r j - E k j * E r c) := by
                        have h0 : NRow w11 g 1 (fun _ => 0) := ⟨[(false, .slice none 0 0)], ⟨_, hgc⟩, rfl, fun q p hp => by
                          match q, hp with
                          | 0, hp => cases hp; exact zero_num _⟩
                        obtain ⟨vs, k1, k2, k3⟩ := (h0.set (j := 0) (by omega) HX.out).1
                        refine ⟨vs, k1, k2, fun q p hp => ?_⟩
                        have hq : q = 0 := by have := (List.getElem?_eq_some_iff.1 hp).1; omega
                        have := k3 q p hp
                        subst hq
                        simpa using this
                      have E12 := (E11.set (p := ⟨g, 0, none⟩) hg (.bool (decide (E k c * E r j - E k j * E r c < 0)))).set (p := ⟨g, 1, none⟩) hg (.slice A13 (mass (E k c * E r j - E k j * E r c).natAbs).length c13)
                      clear HP1 HP2 HLS HX hgc
                      simp only [List.drop_succ_cons, List.drop_zero]
                      generalize (mass (E k c * E r j - E k j * E r c).natAbs).length = l13 at *
                      generalize decide (E k c * E r j - E k j * E r c < 0) = p13 at *
                      go_upto_region 23 with fail
                      generalize (w11.setCell ⟨g, 0, none⟩ (.bool p13)).setCell ⟨g, 1, none⟩ (.slice A13 l13 c13) = W12 at *
                      clear hE11 hg0 hg1 hgf0 hgf1
                      obtain ⟨X, hXdef⟩ : ∃ X, X = E k c * E r j - E k j * E r c := ⟨_, rfl⟩
                      rw [← hXdef] at hGR
                      have HXD := Lib.hid hXdef
                      obtain ⟨R, hR⟩ : ∃ R : (Nat → Nat → Int) → World → Prop, R = fun F w' => EI W1 w' tb lb b o m n cap rb B F s.last ∧ Ints w' W1.heap.size (.slice A3 r c3) s.steps ∧ NRow w' pb 1 (fun _ => E r j) ∧ NRow w' fb 1 (fun _ => E k j) ∧ NRow w' g 1 (fun _ => X) ∧ W8.heap.size ≤ w'.heap.size := ⟨_, rfl⟩
                      have hRE : ∀ F u v, Ext u v → R F u → R F v := fun F u v hE h => by
                        rw [hR] at h ⊢
                        obtain ⟨h1, h2, h3, h4, h5, h6⟩ := h
                        exact ⟨h1.ext hE HBW1.out, h2.ext hE, h3.ext hE, h4.ext hE, h5.ext hE, Nat.le_trans h6 hE.size⟩
                      have hrk := (HRL'.out k hkm).1
                      have hpb' := HPB.out
                      have hfb' := HFB.out
                      have hRS : ∀ (F : Nat → Nat → Int) u (p : Bool) (v : Value) (z : Int), R F u → IsNum u (.agg #[.bool p, v]) z → R (fun q x => if q = k ∧ x = c then z else F q x) ((u.setCell ⟨rb k, c * 2, none⟩ (.bool p)).setCell ⟨rb k, c * 2 + 1, none⟩ v) ∧ Keep u ((u.setCell ⟨rb k, c * 2, none⟩ (.bool p)).setCell ⟨rb k, c * 2 + 1, none⟩ v) := fun F u p v z h hz => by
                        rw [hR] at h ⊢
                        obtain ⟨h1, h2, h3, h4, h5, h6⟩ := h
                        have hK := (h1.tbl.set hkm hcn hz).2
                        have hs : ∀ q, q ≠ rb k → ((u.setCell ⟨rb k, c * 2, none⟩ (.bool p)).setCell ⟨rb k, c * 2 + 1, none⟩ v).heap[q]? = u.heap[q]? := fun q hq => by
                          rw [Below.heap_setCell _ _ _ _ hq, Below.heap_setCell _ _ _ _ hq]
                        refine ⟨⟨h1.set hkm hcn hz (by omega) (fun e => by have := (HRL'.out k hkm).2.1; omega) (HB.out k hkm), h2.same fun q hq hq2 => hs q (fun e => by have := (h2.own hq2).1; have := HLBL.out; omega), h3.keep (hs _ (by omega)) hK, h4.keep (hs _ (by omega)) hK, h5.keep (hs _ (by omega)) hK, ?_⟩, hK⟩
                        simp [World.setCell]
                        exact h6
                      have hR12 : R (stepTo E r j s.last k c) W12 := by
                        rw [hR]
                        exact ⟨HI9.out.ext E12 HBW1.out, HS9.out.ext E12, HP9.out.ext E12, HF9.out.ext E12, hGR, Nat.le_trans HSZ9.out E12.size⟩
                      have hR12' := hR12
                      rw [hR] at hR12'
                      obtain ⟨hI12, _, _, _, hG12, _⟩ := hR12'
                      have ht12 := hI12.t
                      have sk12 := hI12.tbl.sl k hkm
                      have hgg := hG12.get (j := 0) (by omega)
                      rw [Nat.zero_mul, Nat.zero_add] at hgg
                      obtain ⟨g1, g2, g3, g4, g5, _, _⟩ := hgg
                      have hll := hI12.lst.get (j := 0) (by omega)
                      rw [Nat.zero_mul, Nat.zero_add] at hll
                      obtain ⟨l1', l2', l3', l4', l5', _, _⟩ := hll
                      obtain ⟨EE, hEE⟩ : ∃ EE, EE = EK (rb k) (R (stepTo E r j s.last k c)) (R (stepTo E r j s.last k (c + 1))) := ⟨_, rfl⟩
                      have hDE : EE W12 W12.drew := by rw [hEE]; exact Ext.ek (Ext.drew _) (hRE _ _ _ (Ext.drew _)) (hRE _ _ _ (Ext.drew _))
                      have htr : ∀ a b c, EE a b → EE b c → EE a c := by rw [hEE]; exact EK.trans _ _ _
                      have HC12 : Hid (∀ w2, EE W12.drew w2 → w2.cell? ⟨tb, 0, none⟩ = some (.slice (some ⟨b, o, none⟩) m cap) ∧ w2.cell? ⟨b, o + k, none⟩ = some (.slice (some ⟨rb k, 0, none⟩) n n) ∧ w2.cell? ⟨g, 0, none⟩ = some (.bool g1) ∧ w2.cell? ⟨g, 1, none⟩ = some g2 ∧ w2.cell? ⟨lb, 0, none⟩ = some (.bool l1') ∧ w2.cell? ⟨lb, 1, none⟩ = some l2') := fun w2 hE => by
                        have h := htr _ _ _ hDE hE
                        rw [hEE] at h
                        have hk1 := HRL'.out k hkm
                        exact ⟨EK.cell h ht12 (by show tb ≠ rb k; omega), EK.cell h sk12 (by show b ≠ rb k; exact fun e => hk1.2.2 e.symm), EK.cell h g3 (by show g ≠ rb k; omega), EK.cell h g4 (by show g ≠ rb k; omega), EK.cell h l3' (by show lb ≠ rb k; omega), EK.cell h l4' (by show lb ≠ rb k; omega)⟩
                      have hsx := size_step (e := s.last) (HSZ3.out.1 k c hkm hcn) (HSZ3.out.1 r j hrm' hlt) (HSZ3.out.1 k j hkm hlt) (HSZ3.out.1 r c hrm' hcn)
                      rw [← hXdef] at hsx
                      have HPA : Hid (∀ w2, EE W12.drew w2 → Calls Tryz.prog 122 #[.agg #[.bool g1, g2], .agg #[.bool l1', l2']] w2 fun e w' => ∃ v, e = .returned v ∧ numFst (X / s.last) v w' ∧ EE w2 w') := fun w2 hE => by
                        have h := htr _ _ _ hDE hE
                        have hK : Keep W12 w2 := by rw [hEE] at h; exact h.1
                        refine (parts_any _ _ _ _ w2 (IsNum.keep g5 hK) (IsNum.keep l5' hK) HL0.out (by have h1 := hsx.2.2.1; have h2 := HSZ3.out.2; omega)).mono ?_
                        rintro e w' ⟨q, r', rfl, k1, _, k3⟩
                        exact ⟨_, rfl, ⟨q, r', rfl, k1⟩, by rw [hEE]; exact Ext.ek k3 (hRE _ _ _ k3) (hRE _ _ _ k3)⟩
                      have HST : Hid (∀ w2 (p : Bool) (v : Value), EE W12.drew w2 → IsNum w2 (.agg #[.bool p, v]) (X / s.last) → (∃ x0 x1, w2.cell? ⟨rb k, c * 2, none⟩ = some x0 ∧ w2.cell? ⟨rb k, c * 2 + 1, none⟩ = some x1 ∧ w2.frozen? ⟨rb k, c * 2, none⟩ = false ∧ w2.frozen? ⟨rb k, c * 2 + 1, none⟩ = false) ∧ EE w2 ((w2.setCell ⟨rb k, c * 2, none⟩ (.bool p)).setCell ⟨rb k, c * 2 + 1, none⟩ v) ∧ R (stepTo E r j s.last k (c + 1)) ((w2.setCell ⟨rb k, c * 2, none⟩ (.bool p)).setCell ⟨rb k, c * 2 + 1, none⟩ v)) := fun w2 p v hE hz => by
                        have h := htr _ _ _ hDE hE
                        rw [hEE] at h
                        have hst := fun q x => stepTo_set (E := E) (j := j) (last := s.last) (show r < k by omega) hc1 q x
                        have h01 := h.2.2.2.1 hR12
                        have hnow : ∃ F, R F w2 ∧ (fun q x => if q = k ∧ x = c then X / s.last else F q x) = stepTo E r j s.last k (c + 1) := by
                          rcases h01 with h01 | h01
                          · refine ⟨_, h01, ?_⟩
                            funext q x
                            rw [hXdef]
                            exact hst q x
                          · refine ⟨_, h01, ?_⟩
                            funext q x
                            rw [← hst q x, hXdef]
                            split <;> rfl
                        obtain ⟨F, hF, hFe⟩ := hnow
                        obtain ⟨hS, hK⟩ := hRS F w2 p v _ hF hz
                        rw [hFe] at hS
                        have hF' := hF
                        rw [hR] at hF'
                        obtain ⟨x0, x1, y1, y2, _, y4, y5⟩ := (hF'.1.tbl.row k hkm).get hcn
                        refine ⟨⟨_, _, y1, y2, y4, y5⟩, ?_, hS⟩
                        rw [hEE]
                        refine ⟨hK, by simp [World.setCell], fun q hq hq2 => ?_, fun _ => .inr hS, fun _ => hS⟩
                        rw [Below.heap_setCell _ _ _ _ hq2, Below.heap_setCell _ _ _ _ hq2]
                      have hEK : ∀ u v, EE u v → Keep u v := fun u v h => by rw [hEE] at h; exact h.1
                      have hES : ∀ u v, EE u v → R (stepTo E r j s.last k (c + 1)) u → R (stepTo E r j s.last k (c + 1)) v := fun u v h => by rw [hEE] at h; exact h.2.2.2.2
                      have hrefl : ∀ u, EE u u := fun u => by rw [hEE]; exact EK.refl _ _ _ u
                      have HRR := Lib.hid hR
                      clear hXdef hR hEE hDE hI12 hG12 hGR hRE hRS hR12 ht12 sk12 g3 g4 g5 l3' l4' l5' hsx HI9 HS9 HP9 HF9 HSZ9 HCELL
                      refine roE_region EE 14 [none, none, none, none, none, none, none, none, some (numFst (X / s.last)), some (numFst (X / s.last)), some (fun v w' => IsNum w' v (X / s.last)), some (fun _ _ => True), none, some (fun _ w' => R (stepTo E r j s.last k (c + 1)) w')] (by kernel_rfl) (by kernel_rfl) hrefl htr ?_ ?_
                      · intro S hS v u u' hE hs
                        simp only [List.mem_cons, List.not_mem_nil, or_false, Option.some.injEq, reduceCtorEq, false_or] at hS
                        rcases hS with rfl | rfl | rfl | rfl | rfl
                        · obtain ⟨q, r', h1, h2⟩ := hs
                          exact ⟨q, r', h1, IsNum.keep h2 (hEK _ _ hE)⟩
                        · obtain ⟨q, r', h1, h2⟩ := hs
                          exact ⟨q, r', h1, IsNum.keep h2 (hEK _ _ hE)⟩
                        · exact IsNum.keep hs (hEK _ _ hE)
                        · trivial
                        · exact hES _ _ hE hs
                      go_simp
                      repeat (apply roE_quiet rfl; (intro w2 hE2' _; have hX := HC12.out w2 hE2'; go_simp; exact rfl); go_simp)
                      apply roE_call rfl (fun w => by go_simp; exact ⟨rfl, rfl⟩)
                      · intro w2 hE2' hd
                        exact HPA.out w2 hE2'
                      intro v113
                      go_simp
                      apply roE_run rfl
                      · intro w2 hE2' hd
                        simp [depsHold, Region.binds] at hd
                        go_simp
                        exact ⟨_, _, ⟨rfl, rfl⟩, hrefl _, hd⟩
                      intro v104
                      go_simp
                      apply roE_run rfl
                      · intro w2 hE2' hd
                        simp [depsHold, Region.binds] at hd
                        obtain ⟨q, r', rfl, h⟩ := hd
                        go_simp
                        exact ⟨_, _, ⟨rfl, rfl⟩, hrefl _, h⟩
                      intro v114
                      go_simp
                      apply roE_run rfl
                      · intro w2 hE2' hd
                        simp [depsHold, Region.binds] at hd
                        obtain ⟨q, r', rfl, h⟩ := hd
                        go_simp
                        exact ⟨_, _, ⟨rfl, rfl⟩, hrefl _⟩
                      intro v115
                      go_simp
                      apply roE_quiet rfl (by intro w2 hE2' _; have hX := HC12.out w2 hE2'; go_simp; exact rfl)
                      go_simp
                      apply roE_store rfl rfl
                      · intro w2 hE2' hd
                        simp [depsHold, Region.binds] at hd
                        obtain ⟨⟨m14, rfl, hm14⟩, _⟩ := hd
                        have hz : IsNum w2 (.agg #[.bool (decide (X / s.last < 0)), m14]) (X / s.last) := ⟨_, rfl, hm14⟩
                        obtain ⟨A14, c14, rfl, _⟩ := hm14
                        obtain ⟨⟨x0, x1, y1, y2, y3, y4⟩, h5, h6⟩ := HST.out w2 _ _ hE2' hz
                        have H5 := Lib.hid h5
                        have H6 := Lib.hid h6
                        clear hz h5 h6
                        generalize (mass (X / s.last).natAbs).length = l14 at *
                        generalize decide (X / s.last < 0) = p14 at *
                        go_simp
                        exact ⟨H5.out, H6.out⟩
                      intro v0
                      go_simp
                      refine roE_done (fun w14 hE14 hf => ?_)
                      simp [-List.cons_append] at hf
                      obtain ⟨_, _, _, h14⟩ := hf
                      rw [HRR.out] at h14
                      obtain ⟨hI14, hS14, hP14, hF14, _, hs14⟩ := h14
                      have HI14 := Lib.hid hI14
                      have HS14 := Lib.hid hS14
                      have HP14 := Lib.hid hP14
                      have HF14 := Lib.hid hF14
                      have HSZ14 := Lib.hid hs14
                      have HWC : Hid (wrap64 ((c : Int) + 1) = ((c + 1 : Nat) : Int)) := by
                        have := HN.out
                        show wrap64 ((c : Int) + 1) = ((c + 1 : Nat) : Int)
                        rw [IntWalk.wrap64_in _ (by omega)]
                        omega
                      clear hI14 hS14 hP14 hF14 hs14 HPA HST hEK hES hrefl htr
                      simp only [List.drop_succ_cons, List.drop_zero, List.drop_nil]
                      go_wp2_with fail
                      go_roundw
                      case rel => exact ⟨c + 1, by rw [HWC.out], by omega, hcn, HI14.out, HS14.out, HP14.out, HF14.out, HSZ14.out⟩
                      case measure =>
                        rw [HWC.out]
                        exact upTo_lt hcn
                    · have hcn' : c = n := by omega
                      have HI9 : Hid (EI W1 w9 tb lb b o m n cap rb B (stepTo E r j s.last (k + 1) j) s.last) := hI9.congr (fun q x _ hx => by rw [hcn']; exact stepTo_next q x hx)
                      have HS9 := Lib.hid hS9
                      have HP9 := Lib.hid hP9
                      have HSZ9 := Lib.hid hsz9
                      have HWK : Hid (wrap64 ((k : Int) + 1) = ((k + 1 : Nat) : Int)) := by
                        have := HM0.out
                        show wrap64 ((k : Int) + 1) = ((k + 1 : Nat) : Int)
                        rw [IntWalk.wrap64_in _ (by omega)]
                        omega
                      have hcn2 : ¬ (c : Int) < (n : Int) := by omega
                      clear hI9 hS9 hP9 hF9 hsz9 hcn'
                      go_wp2_with fail
                      refine HWID.out.mono ?_
                      rintro e w10 ⟨rfl, hw10⟩
                      subst hw10
                      go_wp2_with fail
                      go_roundw
                      case rel => exact ⟨k + 1, by rw [HWK.out], by omega, hkm, HI9.out, HS9.out, HP9.out, by have h1 := HFB.out; have h2 := HSZ9.out; omega⟩
                      case measure =>
                        rw [HWK.out]
                        exact upTo_lt hkm
                · obtain hkm' : k = m := by omega
                  have hp := hP7.get (j := 0) (by omega)
                  rw [Nat.zero_mul, Nat.zero_add] at hp
                  obtain ⟨y1, y2, y3, y4, y5, _, _⟩ := hp
                  have hL7 := hI7.lst.get (j := 0) (by omega)
                  rw [Nat.zero_mul, Nat.zero_add] at hL7
                  obtain ⟨z1, z2, z3, z4, z5, z6, z7⟩ := hL7
                  obtain ⟨A8, c8, hy2, _⟩ := IsNum.isMass y5
                  subst hy2
                  have HY5 := Lib.hid y5
                  generalize (mass (E r j).natAbs).length = l8 at *
                  have hIL : EI W1 ((w7.setCell ⟨lb, 0, none⟩ (.bool y1)).setCell ⟨lb, 1, none⟩ (.slice A8 l8 c8)) tb lb b o m n cap rb B (stepTo E r j s.last k j) (E r j) := hI7.setLast HY5.out (fun q hq e => by have := (HRL'.out q hq).1; omega) (fun e => by have := HBL.out; have := HWW.out; omega) (fun e => by have := HWW.out; omega) (by have := HBW.out; have := HWW.out; omega)
                  have hSL : Ints ((w7.setCell ⟨lb, 0, none⟩ (.bool y1)).setCell ⟨lb, 1, none⟩ (.slice A8 l8 c8)) W1.heap.size (.slice A3 r c3) s.steps := hS7.same fun g hg hg2 => by
                    have h1 := (hS7.own hg2).1
                    have h2 := HLBL.out
                    rw [Below.heap_setCell _ _ _ _ (by show g ≠ lb; omega), Below.heap_setCell _ _ _ _ (by show g ≠ lb; omega)]
                  have hz7 : w7.heap.size = ((w7.setCell ⟨lb, 0, none⟩ (.bool y1)).setCell ⟨lb, 1, none⟩ (.slice A8 l8 c8)).heap.size := by simp [World.setCell]
                  have hwn : ((((w7.setCell ⟨lb, 0, none⟩ (.bool y1)).setCell ⟨lb, 1, none⟩ (.slice A8 l8 c8)).alloc (.cells #[.int .i64 (j : Int)] 3))).cell? ⟨w7.heap.size, 0, none⟩ = some (.int .i64 (j : Int)) := by
                    rw [hz7]
                    exact (Blk.new _ [.int .i64 (j : Int)] 3).cell 0
                  have hEa : Ext ((w7.setCell ⟨lb, 0, none⟩ (.bool y1)).setCell ⟨lb, 1, none⟩ (.slice A8 l8 c8)) (((w7.setCell ⟨lb, 0, none⟩ (.bool y1)).setCell ⟨lb, 1, none⟩ (.slice A8 l8 c8)).alloc (.cells #[.int .i64 (j : Int)] 3)) := Ext.alloc _ _
                  have hIa := hIL.ext hEa HBW1.out
                  obtain ⟨sv, W10, hap, hS10, hK10, hG10⟩ := (hSL.ext hEa).append j ⟨w7.heap.size, 0, none⟩ 1 hwn (by have := HM0.out; rw [HR.out]; omega) hIa.below.size 89
                  have HAP := Lib.hid hap
                  have HIL := Lib.hid hIa
                  have HSL := Lib.hid hS10
                  have HKG := Lib.hid (And.intro hK10 hG10)
                  have HOWN : Hid (∀ {g}, (Value.slice A3 r c3).ownBlock = some g → W1.heap.size ≤ g ∧ g < w7.heap.size) := fun {g} hg => hS7.own hg
                  clear hI7 hS7 hP7 y5 z5 hIL hSL hz7 hwn hap hIa hS10 hK10 hG10 hEa
                  go_wp2_with (first | (at_builtin; refine wp_app rfl _ _ _ rfl rfl rfl HAP.out ?_) | fail)
                  go_roundw
                  case rel =>
                    refine ⟨j + 1, by rw [HWJ.out], hlt, ?_, ?_⟩
                    · rw [HNEW.out]
                      exact HSL.out
                    · rw [HNEW.out]
                      refine EI.congr (HIL.out.grown HKG.out.1 HKG.out.2 (fun g hg => ?_) (fun q hq => Nat.lt_trans (HRL'.out q hq).1 HLBL.out) HLBL.out (Nat.lt_trans HWW.out HLBL.out) (Nat.lt_trans HBL.out (Nat.lt_trans HWW.out HLBL.out)) HBW1.out) (fun q x hq _ => stepTo_end (E := E) (r := r) (j := j) (last := s.last) q x (by omega))
                      exact (HOWN.out hg).1
                  case measure =>
                    rw [HWJ.out]
                    exact upTo_lt hlt
        · have him' : i = m := by omega
          have hfind : findFrom (fun i => decide (s.E i j ≠ 0)) (m - s.steps.length) s.steps.length = none := by
            rw [HR.out]
            exact findFrom_not (fun x h1 h2 => decide_eq_false (by rw [hz x h1 (by omega)]; simp))
          have hnew := HCOL.out
          unfold colP at hnew
          rw [hfind] at hnew
          have HNEW := Lib.hid hnew
          have HI2 := Lib.hid (HI.out.ext hE2 HBW1.out)
          have HS2 := Lib.hid (HS.out.ext hE2)
          have him2 : ¬ (i : Int) < (m : Int) := by omega
          clear hz hfind hnew him'
          go_wp2_with fail
          go_roundw
          case rel =>
            refine ⟨j + 1, by rw [HWJ.out], hlt, ?_, ?_⟩
            · rw [HNEW.out]
              exact HS2.out
            · rw [HNEW.out]
              exact HI2.out
          case measure =>
            rw [HWJ.out]
            exact upTo_lt hlt
    · obtain rfl : j = n := by omega
      have HS := Lib.hid hS
      have HI := Lib.hid hI
      clear hS hI
      go_wp2_with fail
      rw [Exit.noGoto_ret]
      go_ret
      exact ⟨_, rfl, HS.out.weaken HBW1.out, HI.out.tbl, HEB.out.trans HI.out.below⟩
end Go.Proofs.Xx
end
