/- A part of the proof: the texts W70. -/
import Derived.Test.YtblmikccdhdjlaaGreatDoorP41
set_option linter.unusedVariables false
set_option linter.unusedSimpArgs false
section
namespace Go.Proofs.Xx
open Go.RowKit Go.V Go.Grow Lin Go.Txt

/-- A variable that was just made: nil. -/
def freshVal (B : Nat) : Fact := ⟨fun v w => ∃ g, v = .pointer (some ⟨g, 0, none⟩) ∧ B ≤ g ∧ Blk w g [.slice none 0 0], fun _ _ _ hE ⟨g, h1, h0, h2⟩ => ⟨g, h1, h0, h2.ext hE⟩⟩
set_option maxHeartbeats 8000000 in
set_option maxRecDepth 100000 in
theorem lleast_any (va vb vw : Value) (t : List (List Fr)) (b lw : List Fr) (w : World) (ht : IsTab w va t) (hb : IsFracs w vb b) (hw : IsFracs w vw lw) (htab : Tab w) :
    Calls Tryz.prog 22 #[va, vb, vw] w fun e w' => ∃ v, e = .returned (.tuple #[v, .int .i64 (leastC t b lw).2]) ∧ IsFracs w' v (leastC t b lw).1 ∧ Ext w w' := by
  obtain ⟨A, c, rfl, hc⟩ := ht.slice
  obtain ⟨Ab, cb, rfl, hcb⟩ := hb.slice
  obtain ⟨Aw, cw, rfl, hcw⟩ := hw.slice
  obtain ⟨W0, hW0⟩ : ∃ W0, W0 = (((w.alloc (.cells #[.slice A t.length c] 22)).alloc (.cells #[.slice Ab b.length cb] 23)).alloc (.cells #[.slice Aw lw.length cw] 23)) := ⟨_, rfl⟩
  have E0 : Ext w W0 := by rw [hW0]; exact Ext.trans _ _ _ (Ext.trans _ _ _ (Ext.alloc _ _) (Ext.alloc _ _)) (Ext.alloc _ _)
  have hs0 : W0.heap.size = w.heap.size + 3 := by rw [hW0]; simp
  have hb1 : Blk W0 w.heap.size [.slice A t.length c] := by
    rw [hW0]
    exact ((Blk.new' 22 rfl rfl).ext (Ext.alloc _ _)).ext (Ext.alloc _ _)
  have hb2 : Blk W0 (w.heap.size + 1) [.slice Ab b.length cb] := by
    rw [hW0]
    exact (Blk.new' 23 (by simp) rfl).ext (Ext.alloc _ _)
  have hb3 : Blk W0 (w.heap.size + 2) [.slice Aw lw.length cw] := by
    rw [hW0]
    exact Blk.new' 23 (by simp) rfl
  have EB : Ext W0 (W0.alloc (.cells #[.slice Ab b.length cb, .slice Aw lw.length cw] 23)) := Ext.alloc _ _
  have hb4 : Blk (W0.alloc (.cells #[.slice Ab b.length cb, .slice Aw lw.length cw] 23)) (w.heap.size + 3) [.slice Ab b.length cb, .slice Aw lw.length cw] := Blk.new' 23 hs0 rfl
  have E1 := Ext.trans _ _ _ E0 EB
  obtain ⟨r, hr⟩ : ∃ r, r = (decide (b.length = t.length) && decide (lw.length = t.length) && !negL lw) := ⟨_, rfl⟩
  have HF := Lib.hid (lfits_any (.slice A t.length c) (.slice (some ⟨w.heap.size + 3, 0, none⟩) 2 2) t [b, lw] 66 #[.pointer (some ⟨w.heap.size + 1, 0, none⟩), .pointer (some ⟨w.heap.size, 0, none⟩), .pointer (some ⟨w.heap.size + 2, 0, none⟩)] r _ (ht.mono E1) (IsTab.two hb4 (hb.mono E1) (hw.mono E1)) (htab.mono E1) (enters_of Tryz.func66 (by kernel_rfl) rfl) (fun w' hok hbad hE => by
    rw [hr]
    have hbw : badL lw = false := by
      simp at hbad
      exact hbad.2
    exact least1_any (w.heap.size + 1) w.heap.size (w.heap.size + 2) t.length c b.length cb lw.length cw A Ab Aw lw w' (hE.cell (EB.cell (hb1.cell 0))) (hE.cell (EB.cell (hb2.cell 0))) (hE.cell (EB.cell (hb3.cell 0))) (hw.mono (Ext.trans _ _ _ E1 hE)) hbw))
  have hC := leastC_eq t b lw
  rw [← hr] at hC
  have HOK : Hid (fitsE t [b, lw] r = 0 → okT t = true ∧ b.all okFr = true ∧ lw.all okFr = true ∧ b.length = t.length ∧ lw.length = t.length) := fun h => by
    obtain ⟨k1, k2, k3⟩ := fitsE_ok h
    rw [hr] at k3
    simp only [Bool.and_eq_true, decide_eq_true_eq] at k3
    simp at k2
    exact ⟨k1, badL_ok k2.1, badL_ok k2.2, k3.1.1, k3.1.2⟩
  generalize fitsE t [b, lw] r = f at *
  by_cases hf : f = 0
  · subst hf
    rw [if_pos rfl] at hC
    obtain ⟨k1, k2, k3, k4, k5⟩ := HOK.out rfl
    obtain ⟨p1, p2, p3, p4, p5⟩ := okT_parts k1
    obtain ⟨bA, oA, u0, A0, c0, hA, hr0, hu0, hc0, hu0f⟩ := IsTab.first ht (by omega)
    subst hA hu0
    obtain ⟨n, hn⟩ : ∃ n, n = (t.headD []).length := ⟨_, rfl⟩
    obtain ⟨m, hm⟩ : ∃ m, m = t.length := ⟨_, rfl⟩
    rw [← hn] at p3 p4 hc0 hr0 hC
    have HRR : Hid (∀ u, Ext W0 u → Calls Tryz.prog 60 #[.slice (some ⟨bA, oA, none⟩) m c, .func (.func 53) #[] #[]] u (Ret (.rowsQ m (tabR t)) u)) := fun u hE => by
      rw [hm]
      exact rows_read _ t u (ht.mono (Ext.trans _ _ _ E0 hE)) k1
    have HRB : Hid (∀ u, Ext W0 u → Calls Tryz.prog 53 #[.slice Ab b.length cb] u (Ret (.rats (b.map frQ)) u)) := fun u hE => (lread_any _ b u (hb.mono (Ext.trans _ _ _ E0 hE)) (by omega) k2).mono (by
      rintro e u' ⟨rfl, _, h2, h3⟩
      exact ⟨_, rfl, h2, h3⟩)
    have HRW : Hid (∀ u, Ext W0 u → Calls Tryz.prog 53 #[.slice Aw lw.length cw] u (Ret (.rats (lw.map frQ)) u)) := fun u hE => (lread_any _ lw u (hw.mono (Ext.trans _ _ _ E0 hE)) (by omega) k3).mono (by
      rintro e u' ⟨rfl, _, h2, h3⟩
      exact ⟨_, rfl, h2, h3⟩)
    have HTD : Hid (∀ v u, Ext W0 u → IsRats u v (solX n (leastA t b lw)) → (∀ q ∈ solX n (leastA t b lw), Sz q 1000000000000) → Calls Tryz.prog 61 #[v] u fun e w' => ∃ v', e = .returned (.tuple #[v', .int .i64 (toldC (solX n (leastA t b lw))).2]) ∧ IsFracs w' v' (toldC (solX n (leastA t b lw))).1 ∧ Ext u w') := fun v u hE h1 h2 => told_list v _ u h1 (htab.mono (Ext.trans _ _ _ E0 hE)) (by
      unfold solX
      split
      · simp
      · simp; omega) h2
    have hC2 := solC_eq n (leastA t b lw)
    have HCC : Hid (solE n (leastA t b lw) = 0 → leastC t b lw = toldC (solX n (leastA t b lw))) := fun h => by rw [hC, hC2, if_pos h]
    have HCN : Hid (¬ solE n (leastA t b lw) = 0 → leastC t b lw = ([], solE n (leastA t b lw))) := fun h => by rw [hC, hC2, if_neg h]
    have HG : Hid (∀ u, Ext W0 u → u.cell? ⟨w.heap.size, 0, none⟩ = some (.slice (some ⟨bA, oA, none⟩) m c) ∧ u.cell? ⟨w.heap.size + 1, 0, none⟩ = some (.slice Ab b.length cb) ∧ u.cell? ⟨w.heap.size + 2, 0, none⟩ = some (.slice Aw lw.length cw) ∧ u.cell? ⟨bA, oA, none⟩ = some (.slice A0 n c0)) := fun u hE => by
      rw [hm]
      exact ⟨hE.cell (hb1.cell 0), hE.cell (hb2.cell 0), hE.cell (hb3.cell 0), (Ext.trans _ _ _ E0 hE).cell hr0⟩
    have hg0 := HG.out W0 (Ext.refl _)
    have hmk := make_TV n (by omega)
    have HE0 := Lib.hid E0
    have HEB := Lib.hid EB
    have K1 := Lib.hid k1
    have K2 := Lib.hid k2
    have K3 := Lib.hid k3
    have K4 := Lib.hid k4
    have K5 := Lib.hid k5
    have HM := Lib.hid hm
    have HN := Lib.hid hn
    rw [← hm] at hc p1 p2 HF hW0 ⊢
    have hm1 : 0 < m := p1
    have hn1 : 0 < n := p3
    have hcp : 0 < c := by omega
    have P2 := Lib.hid p2
    have P4 := Lib.hid p4
    simp only [List.toArray_replicate] at hmk
    clear hb1 hb2 hb3 hb4 E0 E1 EB HOK hC hC2 hr k1 k2 k3 k4 k5 p1 p2 p3 p4 p5 ht hb hw htab hr0 hu0f hm hn hcb hcw
    go_enter Tryz.func22, Tryz.ntmps22
    go_wp2_with fail
    rw [← hW0]
    refine HF.out.mono ?_
    rintro e w1 ⟨rfl, hE1⟩
    have EW1 := Ext.trans _ _ _ HEB.out hE1
    have hg1 := HG.out w1 EW1
    have hlt1 : w.heap.size < w1.heap.size := World.block_lt_of_cell? w1 _ hg1.1
    obtain ⟨W2, hW2⟩ : ∃ W2, W2 = (w1.alloc (.cells (Array.replicate n (.slice none 0 0)) 83)).alloc (.cells #[.slice (some ⟨w1.heap.size, 0, none⟩) n n] 98) := ⟨_, rfl⟩
    have E2 : Ext w1 W2 := by rw [hW2]; exact Ext.trans _ _ _ (Ext.alloc _ _) (Ext.alloc _ _)
    have hkb2 : Blk W2 w1.heap.size (List.replicate n (.slice none 0 0)) := by
      rw [hW2]
      exact (Blk.new' 83 rfl (by simp)).ext (Ext.alloc _ _)
    have hcp2 : Blk W2 (w1.heap.size + 1) [.slice (some ⟨w1.heap.size, 0, none⟩) n n] := by
      rw [hW2]
      exact Blk.new' 98 (by simp) rfl
    have EW2 := Ext.trans _ _ _ EW1 E2
    have HKB2 := Lib.hid hkb2
    have HCP2 := Lib.hid hcp2
    have HEW2 := Lib.hid EW2
    clear hkb2 hcp2 E2
    go_wp2_with fail
    rw [← hW2]
    have HWK := Lib.hid EW1.size
    generalize hkbe : w1.heap.size = kb at *
    have HKE := Lib.hid hkbe
    clear hkbe
    refine (HRR.out W2 HEW2.out).mono ?_
    rintro e wb ⟨vr, rfl, ⟨us, hL, hus⟩, hE3⟩
    obtain ⟨Ar, cr, rfl, hcr, _⟩ := id hL
    have HL := Lib.hid hL
    have HUS := Lib.hid hus
    have hkb : Blk wb kb (List.replicate n (.slice none 0 0)) := HKB2.out.ext hE3
    have hcp : wb.cell? ⟨kb + 1, 0, none⟩ = some (.slice (some ⟨kb, 0, none⟩) n n) := (HCP2.out.ext hE3).cell 0
    have hcpl : kb + 1 < wb.heap.size := World.block_lt_of_cell? wb _ hcp
    have HC0 := Lib.hid (Cols.init t hkb (by omega : kb + 1 ≠ kb) hcpl)
    have HKB := Lib.hid hkb
    have HCP := Lib.hid hcp
    have HEB3 := Lib.hid (Ext.trans _ _ _ HEW2.out hE3)
    clear hL hus hkb hE3 hg1 hlt1 HKB2 HCP2 hg0 EW1 EW2 hmk
    go_wp2_with fail
    go_loopw [38] (fun s wr => ∃ i : Nat, s = .int .i64 (i : Int) ∧ i ≤ m ∧ ∃ vv, Cols wb wr kb (kb + 1) n (colQ t i) vv) (fun s _ => upTo m s)
    case atStart => exact ⟨0, rfl, Nat.zero_le _, _, HC0.out⟩
    case round =>
      obtain ⟨w4, hw4⟩ : ∃ w4, w4 = wr := ⟨_, rfl⟩
      subst hw4
      obtain ⟨i, rfl, hi, vv0, hCo⟩ := hrel
      by_cases hlt : i < m
      · obtain ⟨bv, ov, rfl, k1⟩ := IsL.get HL.out hlt
        have hri := HUS.out i hlt
        have hrl : (tabR t i).length = n := by
          obtain ⟨l, g1, g2, g3, _⟩ := okT_row K1.out (by have := HM.out; omega : i < t.length)
          unfold tabR
          rw [g2, List.length_map, g3, HN.out]
        have hbv : bv ≠ kb := by
          rintro rfl
          rw [HKB.out.cell, List.getElem?_replicate] at k1
          split at k1
          · have e := Option.some.inj k1
            rw [← e] at hri
            obtain ⟨A', c', e2, _⟩ := hri
            rw [hrl] at e2
            injection e2 with _ e3 _
            omega
          · cases k1
        have HOLD : Hid (∀ wr vv qs, Cols wb wr kb (kb + 1) n qs vv → wr.cell? ⟨bv, ov + i, none⟩ = some (us i) ∧ wr.cell? ⟨kb + 1, 0, none⟩ = some (.slice (some ⟨kb, 0, none⟩) n n)) := fun wr vv qs h => ⟨h.old k1 hbv, h.old HCP.out (by simp)⟩
        have hq4 := HOLD.out w4 vv0 _ hCo
        have HCo := Lib.hid hCo
        obtain ⟨Ai, ci, hui, hci, hcim, hrow⟩ := id hri
        rw [hrl] at hci hui
        have HUI := Lib.hid hui
        rw [hui] at hq4
        have HRI := Lib.hid hri
        have HRL := Lib.hid hrl
        have hicr : i < cr := by omega
        have HWI : Hid (wrap64 ((i : Int) + 1) = ((i + 1 : Nat) : Int)) := by
          have := P2.out
          show wrap64 ((i : Int) + 1) = ((i + 1 : Nat) : Int)
          rw [IntWalk.wrap64_in _ (by omega)]
          omega
        clear hCo hri hrow hui hcim hrl hbv k1
        go_wp2_with fail
        go_loopw [44] (fun s wr => ∃ (j : Nat) (vv : Nat → Value), s = .int .i64 (j : Int) ∧ j ≤ n ∧ Cols wb wr kb (kb + 1) n (fun l => colQ t (if l < j then i + 1 else i) l) vv) (fun s _ => upTo n s)
        case atStart => exact ⟨0, vv0, rfl, Nat.zero_le _, HCo.out.congr fun l _ => by simp⟩
        case round =>
          obtain ⟨w5, hw5⟩ : ∃ w5, w5 = wr := ⟨_, rfl⟩
          subst hw5
          obtain ⟨j, vv, rfl, hj, hCo5⟩ := hrel
          by_cases hjl : j < n
          · obtain ⟨q, hq⟩ : ∃ q, (tabR t i)[j]? = some q := ⟨_, List.getElem?_eq_getElem (by have := HRL.out; omega)⟩
            have hqe : tabE t i j = q := by unfold tabE; rw [List.getD_eq_getElem?_getD, hq]; rfl
            have hri := HRI.out
            rw [HUI.out] at hri
            obtain ⟨bi, oi, p, mm, dd, hAi, y1, y2, y3, y4⟩ := IsRats.get hri hq
            have hbi : bi ≠ kb := by
              rintro rfl
              rw [HKB.out.cell, List.getElem?_replicate] at y1
              split at y1 <;> cases y1
            have z1 := hCo5.old y1 hbi
            have z2 := hCo5.old y2 hbi
            have z3 := hCo5.old y3 hbi
            have hy5 := y4.keep hCo5.keep
            obtain ⟨hpq, hmm, hdd⟩ := y4.parts
            clear hpq
            obtain ⟨A3, c3, hm3, _⟩ := hmm
            obtain ⟨A4, c4, hd4, _⟩ := hdd
            subst hm3 hd4
            generalize hl3 : (mass q.num.natAbs).length = l3 at *
            generalize hl4 : (mass q.den).length = l4 at *
            obtain ⟨vs, hLs, hPs⟩ := hCo5.lst j hjl
            simp only [Nat.lt_irrefl, if_false, colQ_len] at hLs hPs
            obtain ⟨Ao, co, hvo⟩ := hLs.slice
            have hcellj := hCo5.cell j hjl
            have hfroj := hCo5.fro j
            rw [hvo] at hcellj
            obtain ⟨ob, hob⟩ : ∃ ob, ob = (vv j).ownBlock := ⟨_, rfl⟩
            have hobr : ∀ g, ob = some g → wb.heap.size ≤ g ∧ g < w5.heap.size := fun g hg => hCo5.own hjl (hob.symm.trans hg)
            obtain ⟨cs, hcs⟩ : ∃ cs, cs = ratCells vs := ⟨_, rfl⟩
            obtain ⟨bs, hbs⟩ : ∃ bs, bs = [Value.bool p, .slice A3 l3 c3, .slice A4 l4 c4] := ⟨_, rfl⟩
            have hbs1 : ∀ u ∈ bs, u.oneCell' = true ∧ NotU u := fun u hu => by
              rw [hbs] at hu
              simp at hu
              rcases hu with rfl | rfl | rfl
              · exact ⟨rfl, (notInt_bool _).u⟩
              · exact ⟨rfl, (notInt_slice _ _ _).u⟩
              · exact ⟨rfl, (notInt_slice _ _ _).u⟩
            have hcp5 := (HOLD.out w5 vv _ hCo5).2
            have hkb5 : kb < w5.heap.size := World.block_lt_of_cell? w5 _ hcellj
            obtain ⟨w6, hw6⟩ : ∃ w6, w6 = w5.alloc (.cells #[.bool p, .slice A3 l3 c3, .slice A4 l4 c4] 111) := ⟨_, rfl⟩
            have E6 : Ext w5 w6 := hw6 ▸ Ext.alloc _ _
            have hb6 : Blk w6 w5.heap.size [.bool p, .slice A3 l3 c3, .slice A4 l4 c4] := hw6 ▸ Blk.new' 111 rfl rfl
            have hsw : wb.heap.size ≤ w5.heap.size := hCo5.grw.size
            obtain ⟨EE, hEE⟩ : ∃ EE, EE = ED wb.heap.size 111 ob cs bs := ⟨_, rfl⟩
            have hrefl : ∀ u, EE u u := fun u => by rw [hEE]; exact ED.refl u
            have htr : ∀ a b c, EE a b → EE b c → EE a c := by rw [hEE]; exact ED.trans
            have h56 : EE w5 w6 := by rw [hEE]; exact ED.ofExt E6 hsw
            have h66 : EE w6 w6.drew := by rw [hEE]; exact ED.ofExt (Ext.drew _) (Nat.le_trans hsw E6.size)
            have hsz2 : ∀ u v, EE u v → u.heap.size ≤ v.heap.size := fun u v h => by rw [hEE] at h; exact h.size
            have hfrom : ∀ u, EE w6.drew u → EE w5 u := fun u h => htr _ _ _ h56 (htr _ _ _ h66 h)
            have hext : ∀ u v, EE w6.drew u → Ext u v → EE u v := fun u v h hE => by
              have := hsz2 _ _ (hfrom u h)
              rw [hEE]
              exact ED.ofExt hE (Nat.le_trans hsw this)
            have hobk : ob ≠ some kb := fun e => by have := (hobr kb e).1; have := hCo5.lt; omega
            have hobc : ob ≠ some (kb + 1) := fun e => by have := (hobr _ e).1; have := hCo5.cpn.2; omega
            have hobx : ob ≠ some w5.heap.size := fun e => by have := (hobr _ e).2; omega
            have HCELL : Hid (∀ u, EE w6.drew u → u.cell? ⟨kb + 1, 0, none⟩ = some (.slice (some ⟨kb, 0, none⟩) n n) ∧ u.cell? ⟨kb, j, none⟩ = some (.slice Ao i co) ∧ u.cell? ⟨w5.heap.size, 0, none⟩ = some (.bool p) ∧ u.cell? ⟨w5.heap.size, 1, none⟩ = some (.slice A3 l3 c3) ∧ u.cell? ⟨w5.heap.size, 2, none⟩ = some (.slice A4 l4 c4) ∧ u.frozen? ⟨kb, j, none⟩ = false) := fun u hE => by
              have h1 := hfrom u hE
              have h2 := htr _ _ _ h66 hE
              rw [hEE] at h1 h2
              exact ⟨h1.cell hcp5 hobc, h1.cell hcellj hobk, h2.cell (hb6.cell 0) hobx, h2.cell (hb6.cell 1) hobx, h2.cell (hb6.cell 2) hobx, h1.frozen hkb5 hfroj hobk⟩
            let F56 : Value → World → Prop := fun v u => ∃ h, v = .slice (some ⟨h, 0, none⟩) 1 1 ∧ Blk u h bs
            let F57 : Value → World → Prop := fun v u => Lst u wb.heap.size 111 3 v (i + 1) (cs ++ bs) ∧ (v.ownBlock = ob ∨ ∀ g, v.ownBlock = some g → w5.heap.size ≤ g)
            have hst56 : ∀ v, Grow.Stable EE (F56 v) := fun v u u' hE h => by
              rw [hEE] at hE
              obtain ⟨x, e, hx⟩ := h
              exact ⟨x, e, hE.same hx⟩
            have hst57 : ∀ v, Grow.Stable EE (F57 v) := fun v u u' hE h => by
              rw [hEE] at hE
              exact ⟨hE.ec.lst1 h.1, h.2⟩
            have HAPP : Hid (∀ u h, EE w6.drew u → Blk u h bs → ∃ v' u', (Builtin.append_ #[83, 83] 83 #[.slice Ao i co, .slice (some ⟨h, 0, none⟩) 1 1]).run Tryz.prog u = .ok v' u' ∧ EE u u' ∧ F57 v' u') := fun u h hE hh => by
              have h1 := hfrom u hE
              have hlu : Lst u wb.heap.size 111 3 (.slice Ao i co) i cs := by
                rw [hEE] at h1
                rw [hcs, ← hvo]
                rw [hcs] at h1
                exact h1.ec.lst0 (fun x hx => (hbs1 x hx).2) hLs
              obtain ⟨v', u', k1, k2, k3, k4, k5, k6⟩ := app_rats hlu ⟨h, 0, none⟩ 1 1 bs (by rw [hbs]; rfl) (fun j x hx => by rw [add0, hh.cell]; exact hx) hbs1 (by decide) (by have := P2.out; omega) (Nat.le_trans hsw (hsz2 _ _ h1)) 83 83 Tryz.underlying83
              rw [← hvo, ← hob] at k4 k5 k6
              refine ⟨v', u', k1, ?_, k2, ?_⟩
              · rw [hEE]
                refine ⟨⟨k4.os, k4.tape, k4.output, k4.size, fun q hq => k4.block q (Nat.lt_of_lt_of_le hq (Nat.le_trans hsw (hsz2 _ _ h1))) (fun e => by have := (hobr q e.symm).1; omega)⟩, k3, fun q hq => ?_⟩
                by_cases e : ob = some q
                · rcases k6 q e with x | x
                  · exact .inl x
                  · exact .inr ⟨e, x⟩
                · exact .inl (k4.block q hq (fun e2 => e e2.symm))
              · rcases k5 with e | e
                · exact .inl e
                · refine .inr fun g hg => ?_
                  rw [e] at hg
                  have := Option.some.inj hg
                  have := hsz2 _ _ h1
                  omega
            have H56i : Hid (∀ u h, Blk u h bs → F56 (.slice (some ⟨h, 0, none⟩) 1 1) u) := fun u h hh => ⟨h, rfl, hh⟩
            have H56e : Hid (∀ v u, F56 v u → ∃ h, v = .slice (some ⟨h, 0, none⟩) 1 1 ∧ Blk u h bs) := fun v u h => h
            have HSTEP : Hid (∀ u v, EE w6.drew u → F57 v u → (∃ A c, v = .slice A (i + 1) c) ∧ Cols wb (u.setCell ⟨kb, j, none⟩ v) kb (kb + 1) n (fun l => colQ t (if l < j + 1 then i + 1 else i) l) (fun l => if l = j then v else vv l)) := fun u v hE hF => by
              have h1 := hfrom u hE
              rw [hEE, hob] at h1
              have h2 := hF.1
              rw [hcs, hbs, show ratCells vs ++ [Value.bool p, .slice A3 l3 c3, .slice A4 l4 c4] = ratCells (vs ++ [(p, .slice A3 l3 c3, .slice A4 l4 c4)]) from (ratCells_snoc vs (p, .slice A3 l3 c3, .slice A4 l4 c4)).symm] at h2
              refine ⟨h2.slice, ?_⟩
              have h3 := hCo5.step hjl h1 (v' := v) (q := q) (vs' := vs ++ [(p, .slice A3 l3 c3, .slice A4 l4 c4)]) (by simp only [Nat.lt_irrefl, if_false, colQ_len]; exact h2) (by
                simp only [Nat.lt_irrefl, if_false]
                exact (hPs.keep h1.2.1).snoc (hy5.keep h1.2.1)) (by rw [← hob]; exact hF.2)
              refine h3.congr fun l hl => ?_
              by_cases e : l = j
              · subst e
                simp only [if_true, Nat.lt_irrefl, if_false]
                rw [if_pos (by omega), colQ_succ, hqe]
              · simp only [if_neg e]
                by_cases e2 : l < j
                · rw [if_pos e2, if_pos (by omega)]
                · rw [if_neg e2, if_neg (by omega)]
            have HBS := Lib.hid hbs
            have HEXT := Lib.hid hext
            have HFROM := Lib.hid hfrom
            have HWJ : Hid (wrap64 ((j : Int) + 1) = ((j + 1 : Nat) : Int)) := by
              have := P4.out
              show wrap64 ((j : Int) + 1) = ((j + 1 : Nat) : Int)
              rw [IntWalk.wrap64_in _ (by omega)]
              omega
            have hjci : j < ci := by omega
            subst hAi
            clear_value F56 F57
            clear hEE hext hfrom h56 h66 hsz2 hobk hobc hobx hobr hb6 E6 hcp5 hkb5 hcellj hfroj hLs hPs hy5 y1 y2 y3 y4 hri hbs1 hcs hbs hq hqe hl3 hl4 hCo5 hsw hvo hob
            go_wp2_with fail
            rw [← hw6]
            clear hw6
            refine roE_region EE 9 [none, none, none, none, none, none, none, some F56, some F57] (by kernel_rfl) (by kernel_rfl) hrefl htr ?_ ?_
            · intro S hS v
              simp only [List.mem_cons, List.not_mem_nil, or_false, Option.some.injEq, reduceCtorEq, false_or] at hS
              rcases hS with rfl | rfl
              · exact hst56 v
              · exact hst57 v
            go_simp
            repeat (apply roE_quiet rfl; (intro w2 hE2' _; have hX := HCELL.out w2 hE2'; go_simp; exact rfl); go_simp)
            apply roE_run rfl
            · intro w2 hE2' hd
              go_simp
              exact ⟨_, _, ⟨rfl, rfl⟩, HEXT.out _ _ hE2' (Ext.alloc _ _), H56i.out _ _ (by rw [HBS.out]; exact Blk.new w2 [Value.bool p, .slice A3 l3 c3, .slice A4 l4 c4] _)⟩
            intro v56
            go_simp
            apply roE_run rfl
            · intro w2 hE2' hd
              simp [depsHold, Region.binds] at hd
              obtain ⟨q1, rfl, q2⟩ := H56e.out _ _ hd
              obtain ⟨v', u', k1, k2, k3⟩ := HAPP.out w2 q1 hE2' q2
              exact ⟨v', u', app_exec (v := .slice Ao i co) (u := .slice (some ⟨q1, 0, none⟩) 1 1) _ _ 83 rfl rfl rfl k1, k2, k3⟩
            intro v57
            go_simp
            refine roE_done (fun w2 hE2' hf => ?_)
            simp [-List.cons_append] at hf
            have HX := HCELL.out w2 hE2'
            obtain ⟨⟨A9, c9, hv9⟩, hst⟩ := HSTEP.out w2 v57 hE2' hf.2
            subst hv9
            have HST := Lib.hid hst
            clear hst hf hst56 hst57 hrefl htr HAPP HCELL HSTEP hE2' HEXT HFROM
            simp only [List.drop_succ_cons, List.drop_zero]
            go_wp2_with fail
            refine ⟨⟨j + 1, _, by rw [HWJ.out], hjl, HST.out⟩, ?_⟩
            rw [HWJ.out]
            exact upTo_lt hjl
          · have hjn : j = n := by omega
            have HCN : Hid (Cols wb w5 kb (kb + 1) n (colQ t (i + 1)) vv) := hCo5.congr fun l hl => by rw [if_pos (by omega)]
            clear hCo5
            go_wp2_with fail
            refine ⟨⟨i + 1, by rw [HWI.out], hlt, vv, HCN.out⟩, ?_⟩
            rw [HWI.out]
            exact upTo_lt hlt
      · have him : i = m := by omega
        subst him
        have HCo := Lib.hid hCo
        have EW4 : Ext W0 w4 := hCo.ext HEB3.out HWK.out
        have HL4 : Hid (IsL w4 (.slice (some ⟨kb, 0, none⟩) n n) n vv0) := hCo.isL (by have := P4.out; omega)
        have HQ4 : Hid (∀ l, l < n → IsRats w4 (vv0 l) (colQ t i l)) := fun l hl => hCo.rats hl (by rw [colQ_len]; exact hm1)
        have hcp4 := hCo.old HCP.out (by simp)
        have hg4 := HG.out w4 EW4
        have HG4 : Hid (∀ u, Ext w4 u → u.cell? ⟨w.heap.size + 1, 0, none⟩ = some (.slice Ab b.length cb) ∧ u.cell? ⟨w.heap.size + 1 + 1, 0, none⟩ = some (.slice Aw lw.length cw)) := fun u hE => ⟨hE.cell hg4.2.1, hE.cell hg4.2.2.1⟩
        have HEW4 := Lib.hid EW4
        have HCP4 := Lib.hid hcp4
        clear hCo hg4 EW4 hcp4
        go_wp2_with fail
        refine ro_region_new 6 [none, some (.rats (lw.map frQ)), none, some (.rats (b.map frQ)), some (freshVal w4.heap.size), some (freshVal w4.heap.size)] [(4, 15), (5, 16)] (by kernel_rfl) (by kernel_rfl) (by kernel_rfl) ?_ ?_ ?_
        · intro p hp o ho f u
          simp at hp
          rcases hp with rfl | rfl
          · simp at ho
            subst ho
            exact ⟨u.alloc (.cells #[.slice none 0 0] 83), by go_simp, by simp⟩
          · simp at ho
            subst ho
            exact ⟨u.alloc (.cells #[.slice none 0 0] 83), by go_simp, by simp⟩
        · intro p hp
          simp at hp
          rcases hp with rfl | rfl <;> simp
        go_simp
        repeat (apply ro_quiet rfl; (intro u hE _; have hX := HG4.out u (Ext.trans _ _ _ (Ext.drew _) hE); go_simp; exact rfl); go_simp)
        apply ro_call rfl (fun w => by go_simp; exact ⟨rfl, rfl⟩)
        · intro u hE hd
          exact HRW.out u (Ext.trans _ _ _ HEW4.out (Ext.trans _ _ _ (Ext.drew _) hE))
        intro v62
        go_simp
        repeat (apply ro_quiet rfl; (intro u hE _; have hX := HG4.out u (Ext.trans _ _ _ (Ext.drew _) hE); go_simp; exact rfl); go_simp)
        apply ro_call rfl (fun w => by go_simp; exact ⟨rfl, rfl⟩)
        · intro u hE hd
          exact HRB.out u (Ext.trans _ _ _ HEW4.out (Ext.trans _ _ _ (Ext.drew _) hE))
        intro v64
        go_simp
        apply ro_run rfl
        · intro u hE hd
          go_simp
          exact ⟨_, _, ⟨rfl, rfl⟩, Ext.alloc _ _, _, rfl, hE.size, Blk.new u [Value.slice none 0 0] _⟩
        intro v15
        go_simp
        apply ro_run rfl
        · intro u hE hd
          go_simp
          exact ⟨_, _, ⟨rfl, rfl⟩, Ext.alloc _ _, _, rfl, hE.size, Blk.new u [Value.slice none 0 0] _⟩
        intro v16
        go_simp
        refine ro_done_new (fun u hE hf hD => ?_)
        have hD := hD (4, 15) (by simp) (5, 16) (by simp) (by decide)
        simp at hD
        simp [-List.cons_append] at hf
        obtain ⟨hw62, hb64, ⟨g5, rfl, hg5, hb5⟩, ⟨g6, rfl, hg6, hb6⟩⟩ := hf
        have hw62 : IsRats u v62 (lw.map frQ) := hw62
        have hb64 : IsRats u v64 (b.map frQ) := hb64
        have h56 : g5 ≠ g6 := fun e => hD (by rw [e])
        have EU : Ext w4 u := Ext.trans _ _ _ (Ext.drew _) hE
        have hb6' : Blk (u.setCell ⟨g5, 0, none⟩ v62) g6 [.slice none 0 0] := hb6.other h56 _
        have hW62 : IsRats ((u.setCell ⟨g5, 0, none⟩ v62).setCell ⟨g6, 0, none⟩ v64) v62 (lw.map frQ) := (hw62.setOne hb5 _).setOne hb6' _
        have hW64 : IsRats ((u.setCell ⟨g5, 0, none⟩ v62).setCell ⟨g6, 0, none⟩ v64) v64 (b.map frQ) := (hb64.setOne hb5 _).setOne hb6' _
        have EW7 : Ext w4 ((u.setCell ⟨g5, 0, none⟩ v62).setCell ⟨g6, 0, none⟩ v64) := (EU.set (p := ⟨g5, 0, none⟩) hg5 _).set (p := ⟨g6, 0, none⟩) hg6 _
        have hc5 : ((u.setCell ⟨g5, 0, none⟩ v62).setCell ⟨g6, 0, none⟩ v64).cell? ⟨g5, 0, none⟩ = some v62 := by
          rw [World.cell?_setCell_other _ _ _ _ (by simp <;> omega)]
          exact World.cell?_setCell_same _ _ _ (hb5.cell 0)
        have hc6 : ((u.setCell ⟨g5, 0, none⟩ v62).setCell ⟨g6, 0, none⟩ v64).cell? ⟨g6, 0, none⟩ = some v64 := World.cell?_setCell_same _ _ _ (hb6'.cell 0)
        have c5 := hb5.cell 0
        have f5 := hb5.frozen 0
        have c6 := hb6'.cell 0
        have f6 := hb6.frozen 0
        simp only [List.getElem?_cons_zero] at c5 c6
        obtain ⟨W7, hW7⟩ : ∃ W7, W7 = (u.setCell ⟨g5, 0, none⟩ v62).setCell ⟨g6, 0, none⟩ v64 := ⟨_, rfl⟩
        rw [← hW7] at hW62 hW64 EW7 hc5 hc6
        obtain ⟨qw, hqw⟩ : ∃ qw, qw = lw.map frQ := ⟨_, rfl⟩
        obtain ⟨qb, hqb⟩ : ∃ qb, qb = b.map frQ := ⟨_, rfl⟩
        rw [← hqw] at hW62
        rw [← hqb] at hW64
        have lqw : qw.length = i := by rw [hqw, List.length_map, K5.out, HM.out]
        have lqb : qb.length = i := by rw [hqb, List.length_map, K4.out, HM.out]
        have zqw : ∀ q ∈ qw, Sz q 34 := hqw ▸ frs_sz K3.out
        have zqb : ∀ q ∈ qb, Sz q 34 := hqb ▸ frs_sz K2.out
        have zcol : ∀ j, j < n → ∀ q ∈ colQ t i j, Sz q 34 := fun j hj q hq => by
          obtain ⟨x, hx, rfl⟩ := List.mem_map.1 hq
          exact tabE_sz K1.out (by have := HM.out; have := List.mem_range.1 hx; omega) j (by rw [← HN.out]; exact hj)
        obtain ⟨Z, hZ⟩ : ∃ Z : Nat → Nat → Rat, Z = fun j l => wsum i (fun x => qw.getD x 0) (fun x => (colQ t i j).getD x 0) (fun x => (colQ t i l).getD x 0) := ⟨_, rfl⟩
        obtain ⟨Zb, hZb⟩ : ∃ Zb : Nat → Rat, Zb = fun j => wsum i (fun x => qw.getD x 0) (fun x => (colQ t i j).getD x 0) (fun x => qb.getD x 0) := ⟨_, rfl⟩
        have hi40 := P2.out
        have hn10 := P4.out
        have HCPu : Hid (∀ u, Ext w4 u → u.cell? ⟨kb + 1, 0, none⟩ = some (.slice (some ⟨kb, 0, none⟩) n n)) := fun u hE => hE.cell HCP4.out
        have HVV : Hid (Calls Tryz.prog 68 #[.slice (some ⟨kb, 0, none⟩) n n, .func (.func 69) #[] #[.pointer (some ⟨kb + 1, 0, none⟩), .pointer (some ⟨g5, 0, none⟩)]] W7 fun e w' => ∃ rb, e = .returned (.slice (some ⟨W7.heap.size, 0, none⟩) n n) ∧ Mapd W7 w' W7.heap.size n n (fun _ => n) (fun j r w => RRow w r n (fun _ => True) (Z j)) rb) := by
          refine mappedVV_any 69 _ (enters_of Tryz.func69 (by kernel_rfl) rfl) _ n vv0 (fun _ => n) (fun j r w => RRow w r n (fun _ => True) (Z j)) W7 (HL4.out.mono EW7) (by omega) (fun j q a b h h1 h2 => h.keep h1 h2) (fun j w' hj hE' => ?_)
          rw [hZ]
          exact least2_any (kb + 1) g5 _ _ _ n i vv0 (colQ t i) qw (colQ t i j) w' (hE'.cell (EW7.cell HCP4.out)) (hE'.cell hc5) ((HL4.out.mono EW7).mono hE') (fun l hl => ((HQ4.out l hl).mono EW7).mono hE') (hW62.mono hE') (((HQ4.out j hj).mono EW7).mono hE') lqw (colQ_len t i j) (fun l _ => colQ_len t i l) (by omega) (by omega) zqw (zcol j hj) zcol
        have HVR : Hid (∀ w8, Ext W7 w8 → Calls Tryz.prog 70 #[.slice (some ⟨kb, 0, none⟩) n n, .func (.func 73) #[] #[.pointer (some ⟨g5, 0, none⟩), .pointer (some ⟨g6, 0, none⟩)]] w8 fun e w' => e = .returned (.slice (some ⟨w8.heap.size, 0, none⟩) n n) ∧ RRow w' w8.heap.size n (fun _ => True) Zb ∧ Ext w8 w') := fun w8 hE8 => by
          refine mappedVR_any 73 _ (enters_of Tryz.func73 (by kernel_rfl) rfl) _ n vv0 Zb w8 ((HL4.out.mono EW7).mono hE8) (by omega) (fun j w' hj hE' => ?_)
          rw [hZb]
          have e9 := Ext.trans _ _ _ hE8 hE'
          exact least3_any g5 g6 _ _ _ qw (colQ t i j) qb i w' (e9.cell hc5) (e9.cell hc6) (hW62.mono e9) (((HQ4.out j hj).mono EW7).mono e9) (hW64.mono e9) lqw (colQ_len t i j) lqb (by omega) zqw (zcol j hj) zqb
        have hA : augA (fun j => (List.range n).map (Z j)) ((List.range n).map Zb) = leastA t b lw := by
          unfold leastA
          rw [← HN.out, ← HM.out, hZ, hZb]
          congr 1
          · funext j
            refine List.map_congr_left fun l _ => wsum_congr (fun x _ => by rw [hqw]; rfl) (fun x hx => colQ_get t hx) (fun x hx => colQ_get t hx)
          · refine List.map_congr_left fun l _ => wsum_congr (fun x _ => by rw [hqw]; rfl) (fun x hx => colQ_get t hx) (fun x _ => by rw [hqb]; rfl)
        have zZ : ∀ j l, j < n → l < n → Sz (Z j l) 5000 := fun j l hj hl => by
          rw [hZ]
          refine Sz.mono (Sz.rsum (S := 34 + 34 + 34) fun x hx => ?_) (by have : i * (34 + 34 + 34 + 1) ≤ 40 * 103 := Nat.mul_le_mul hi40 (by omega); omega)
          have g1 : qw[x]? = some (qw.getD x 0) := by rw [List.getD_eq_getElem?_getD, List.getElem?_eq_getElem (by omega)]; rfl
          show Sz (qw.getD x 0 * (colQ t i j).getD x 0 * (colQ t i l).getD x 0) _
          rw [colQ_get t hx, colQ_get t hx]
          exact ((zqw _ (List.mem_of_getElem? g1)).mul (tabE_sz K1.out (by have := HM.out; omega) j (by rw [← HN.out]; exact hj))).mul (tabE_sz K1.out (by have := HM.out; omega) l (by rw [← HN.out]; exact hl))
        have zZb : ∀ j, j < n → Sz (Zb j) 5000 := fun j hj => by
          rw [hZb]
          refine Sz.mono (Sz.rsum (S := 34 + 34 + 34) fun x hx => ?_) (by have : i * (34 + 34 + 34 + 1) ≤ 40 * 103 := Nat.mul_le_mul hi40 (by omega); omega)
          have g1 : qw[x]? = some (qw.getD x 0) := by rw [List.getD_eq_getElem?_getD, List.getElem?_eq_getElem (by omega)]; rfl
          have g2 : qb[x]? = some (qb.getD x 0) := by rw [List.getD_eq_getElem?_getD, List.getElem?_eq_getElem (by omega)]; rfl
          show Sz (qw.getD x 0 * (colQ t i j).getD x 0 * qb.getD x 0) _
          rw [colQ_get t hx]
          exact ((zqw _ (List.mem_of_getElem? g1)).mul (tabE_sz K1.out (by have := HM.out; omega) j (by rw [← HN.out]; exact hj))).mul (zqb _ (List.mem_of_getElem? g2))
        have HSV : Hid (∀ v1 v2 us2 w9, IsL w9 v1 n us2 → (∀ j, j < n → IsRats w9 (us2 j) ((List.range n).map (Z j))) → IsRats w9 v2 ((List.range n).map Zb) → Calls Tryz.prog 59 #[v1, v2] w9 (Ret (.ratsE (solX n (leastA t b lw)) (solE n (leastA t b lw))) w9)) := fun v1 v2 us2 w9 h1 h2 h3 => by
          rw [← hA]
          refine solve_any v1 v2 n us2 _ _ w9 h1 (fun j hj => ⟨h2 j hj, by simp⟩) h3 (by simp) hn1 hn10 5000 (fun j hj q hq => ?_) (by omega)
          unfold augQ at hq
          rcases List.mem_append.1 hq with h | h
          · obtain ⟨l, hl, rfl⟩ := List.mem_map.1 h
            exact zZ j l hj (List.mem_range.1 hl)
          · rw [List.mem_singleton] at h
            subst h
            rw [List.getD_eq_getElem?_getD, List.getElem?_map, List.getElem?_range hj]
            exact zZb j hj
        have HEW7 := Lib.hid (Ext.trans _ _ _ HEW4.out EW7)
        have HE7 := Lib.hid EW7
        have HC56 : Hid (∀ w8, Ext W7 w8 → w8.cell? ⟨kb + 1, 0, none⟩ = some (.slice (some ⟨kb, 0, none⟩) n n)) := fun w8 h => h.cell (EW7.cell HCP4.out)
        have c7 := HC56.out W7 (Ext.refl _)
        obtain ⟨Aw2, cw2, hw62v, _⟩ := hw62
        obtain ⟨Ab2, cb2, hb64v, _⟩ := hb64
        rw [List.length_map] at hw62v hb64v
        subst hw62v hb64v
        rw [hW7] at c7
        clear hW62 hW64 EW7 hc5 hc6 EU hb5 hb6 hb6' hE hg5 hg6 zqw zqb zcol zZ zZb hA lqw lqb hqw hqb hZ hZb hi40 hn10 hD h56
        simp only [List.drop_succ_cons, List.drop_zero]
        go_wp2_with fail
        rw [← hW7]
        clear hW7 c7 c5 c6 f5 f6
        refine HVV.out.mono ?_
        rintro e w8 ⟨rb, rfl, hM8⟩
        have E8 := hM8.ext
        have c8 := HC56.out w8 E8
        have HM8 := Lib.hid hM8
        have HVR8 := Lib.hid (HVR.out w8 E8)
        have HE8 := Lib.hid E8
        clear hM8 E8
        go_wp2_with fail
        refine HVR8.out.mono ?_
        rintro e w9 ⟨rfl, hR9, hE9⟩
        have hn10 := P4.out
        have HS9 : Hid (Calls Tryz.prog 59 #[.slice (some ⟨W7.heap.size, 0, none⟩) n n, .slice (some ⟨w8.heap.size, 0, none⟩) n n] w9 (Ret (.ratsE (solX n (leastA t b lw)) (solE n (leastA t b lw))) w9)) := by
          refine HSV.out _ _ (fun j => .slice (some ⟨rb j, 0, none⟩) n n) w9 ⟨_, _, rfl, Nat.le_refl _, by unfold maxLen; omega, .inr ⟨W7.heap.size, 0, rfl, fun j hj => ?_⟩⟩ (fun j hj => ?_) (hR9.rats (fun _ _ => trivial) (Nat.le_refl _) (by unfold maxLen; omega))
          · obtain ⟨cs, hb, hl, _, hc⟩ := HM8.out.blk
            rw [Nat.zero_add, (hb.ext hE9).cell]
            exact hc j hj
          · exact ((HM8.out.p j hj).ext hE9).rats (fun _ _ => trivial) (Nat.le_refl _) (by unfold maxLen; omega)
        have HE9 := Lib.hid (Ext.trans _ _ _ HE8.out hE9)
        clear hR9 hE9
        go_wp2_with fail
        refine HS9.out.mono ?_
        rintro e w10 ⟨v10, rfl, ⟨l10, rfl, hl10, hsz10⟩, hE10⟩
        have EU10 := Ext.trans _ _ _ HEW7.out (Ext.trans _ _ _ HE9.out hE10)
        have HTL := Lib.hid (HTD.out l10 w10 EU10 hl10 hsz10)
        have HEU := Lib.hid (Ext.trans _ _ _ HE0.out EU10)
        obtain ⟨A9, c9, rfl, _⟩ := hl10
        clear HRR HRB HRW HVV HVR HSV HTD hE10 EU10 HF HG hsz10 HS9 HVR8 HM8
        generalize solX n (leastA t b lw) = xs at *
        generalize solE n (leastA t b lw) = ce at *
        by_cases hce : ce = 0
        · subst hce
          go_wp2_with fail
          refine HTL.out.mono ?_
          rintro e w11 ⟨v', rfl, h3, hE3⟩
          have H3 := Lib.hid h3
          obtain ⟨A8, c8, rfl, _⟩ := h3
          go_wp2
          go_ret2
          rw [HCC.out trivial]
          exact ⟨_, rfl, H3.out, Ext.trans _ _ _ HEU.out hE3⟩
        · have hce' : (ce == 0) = false := beq_eq_false_iff_ne.2 hce
          go_wp2
          go_ret2
          rw [HCN.out hce]
          exact ⟨_, rfl, ⟨none, 0, rfl, Nat.le_refl _, Nat.zero_le _, .inl rfl⟩, HEU.out⟩
  · rw [if_neg hf] at hC
    have hf' : (f == 0) = false := beq_eq_false_iff_ne.2 hf
    rw [hC]
    have HE0 := Lib.hid E0
    have HEB := Lib.hid EB
    have hg1 := hb1.cell 0
    have hg2 := hb2.cell 0
    have hg3 := hb3.cell 0
    simp only [List.getElem?_cons_zero] at hg1 hg2 hg3
    clear hb1 hb2 hb3 hb4 E0 E1 EB HOK hC hr ht hb htab hw
    go_enter Tryz.func22, Tryz.ntmps22
    go_wp2_with fail
    rw [← hW0]
    refine HF.out.mono ?_
    rintro e w1 ⟨rfl, hE1⟩
    go_wp2
    go_ret2
    exact ⟨_, rfl, ⟨none, 0, rfl, Nat.le_refl _, Nat.zero_le _, .inl rfl⟩, Ext.trans _ _ _ HE0.out (Ext.trans _ _ _ HEB.out hE1)⟩
end Go.Proofs.Xx
end
