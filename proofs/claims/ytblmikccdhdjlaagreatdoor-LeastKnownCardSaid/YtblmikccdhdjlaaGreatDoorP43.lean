/- A part of the proof: the texts W71, W72, XSeq. -/
import Derived.Test.YtblmikccdhdjlaaGreatDoorP42
set_option linter.unusedVariables false
set_option linter.unusedSimpArgs false
section
namespace Go.V
open Go.RowKit
section
variable {P : Program} {ops : Array Oper} {w0 : World} {Q : Exit → Act → World → Prop} {T : Act → World → Prop} {ms : List (Option Fact)} {a : Act} {o : Oper} {rest : List Oper} {fs : List (World → Prop)}
/-- As ro_call, of an operation that is wanted. -/
theorem ro_callw {F : Fact} {f : FuncId} {args : Array Value} (hw : Region.wanted o (yielded ops a.tmps) = true) (hr : ∀ w : World, (execOp a.eval o).run P w = .ok (.enter f args) w) (h1 : ∀ w : World, Ext w0 w → Grow.depsHold o fs w → Calls P f args w (Ret F w))
    (h2 : ∀ v : Value, Ro P ops w0 Q T ms rest (fs ++ [F.S v]) (a.put o.dst v)) : Ro P ops w0 Q T (some F :: ms) (o :: rest) fs a := by
  unfold Ro Grow.Rounds
  rw [if_pos hw]
  refine ⟨fun w hE hd => ?_, h2⟩
  unfold wpList
  rw [if_pos hw]
  left
  unfold Oper.wp
  rw [hr w, Oper.upon_enter]
  refine (h1 w hE hd).mono ?_
  rintro e w' ⟨v, rfl, hS, hE'⟩
  exact ⟨v, rfl, hE', hS⟩
/-- As ro_run, of an operation that is wanted. -/
theorem ro_runw {F : Fact} (hw : Region.wanted o (yielded ops a.tmps) = true)
    (h1 : ∀ w : World, Ext w0 w → Grow.depsHold o fs w → ∃ v w', (execOp a.eval o).run P w = .ok (.value v) w' ∧ Ext w w' ∧ F.S v w')
    (h2 : ∀ v : Value, Ro P ops w0 Q T ms rest (fs ++ [F.S v]) (a.put o.dst v)) : Ro P ops w0 Q T (some F :: ms) (o :: rest) fs a := by
  unfold Ro Grow.Rounds
  rw [if_pos hw]
  refine ⟨fun w hE hd => ?_, h2⟩
  obtain ⟨v, w', hr, hE', hS⟩ := h1 w hE hd
  unfold wpList
  rw [if_pos hw]
  left
  unfold Oper.wp
  rw [hr]
  exact ⟨v, rfl, hE', hS⟩
end
end Go.V
namespace Go.Proofs.Xx
open Go.RowKit Go.V Go.Grow Lin Go.Txt

set_option maxHeartbeats 2000000 in
set_option maxRecDepth 100000 in
theorem measure1_any (gb ga gw gx n ca mb cb mw cw mx cx n0 c0 ba oa : Nat) (Ab Aw Ax A0 : Option Addr) (lw : List Fr) (u : World) (h1 : u.cell? ⟨ga, 0, none⟩ = some (.slice (some ⟨ba, oa, none⟩) n ca)) (h2 : u.cell? ⟨gb, 0, none⟩ = some (.slice Ab mb cb)) (h3 : u.cell? ⟨gw, 0, none⟩ = some (.slice Aw mw cw)) (h4 : u.cell? ⟨gx, 0, none⟩ = some (.slice Ax mx cx)) (h5 : u.cell? ⟨ba, oa, none⟩ = some (.slice A0 n0 c0)) (hn : 0 < n) (hw : IsFracs u (.slice Aw mw cw) lw) (hok : badL lw = false) :
    Calls Tryz.prog 76 #[.pointer (some ⟨gb, 0, none⟩), .pointer (some ⟨ga, 0, none⟩), .pointer (some ⟨gw, 0, none⟩), .pointer (some ⟨gx, 0, none⟩)] u fun e u' => e = .returned (.bool (decide (mb = n) && decide (mw = n) && decide (mx = n0) && !negL lw)) ∧ Ext u u' := by
  have HNG : Hid (∀ u', Ext u u' → Calls Tryz.prog 67 #[.slice Aw mw cw] u' (Ret (.val (.bool (negL lw))) u')) := fun u' hE => (negative_any _ lw u' (hw.mono hE) hok).mono (by
    rintro e u2 ⟨rfl, h⟩
    exact ⟨_, rfl, rfl, h⟩)
  have hn' : (0 : Int) < n := by omega
  clear hw hok
  generalize negL lw = ng at *
  by_cases k1 : mb = n
  · subst k1
    have d1 : ((mb : Int) == (mb : Int)) = true := beq_self_eq_true _
    by_cases k2 : mw = mb
    · subst k2
      by_cases k3 : mx = n0
      · subst k3
        have d3 : ((mx : Int) == (mx : Int)) = true := beq_self_eq_true _
        simp only [decide_true, Bool.true_and]
        have HCE : Hid (∀ u', Ext u u' → u'.cell? ⟨ga, 0, none⟩ = some (.slice (some ⟨ba, oa, none⟩) mw ca) ∧ u'.cell? ⟨gb, 0, none⟩ = some (.slice Ab mw cb) ∧ u'.cell? ⟨gw, 0, none⟩ = some (.slice Aw mw cw) ∧ u'.cell? ⟨gx, 0, none⟩ = some (.slice Ax mx cx) ∧ u'.cell? ⟨ba, oa, none⟩ = some (.slice A0 mx c0)) := fun u' h => ⟨h.cell h1, h.cell h2, h.cell h3, h.cell h4, h.cell h5⟩
        go_enter Tryz.func76, Tryz.ntmps76
        go_wp2_with fail
        refine ro_region 26 [none, none, none, none, none, none, none, none, none, none, none, none, none, none, none, none, none, none, none, none, none, none, none, some (.val (.bool ng)), some (.val (.bool (!ng))), some (.val (.bool (!ng)))] (by kernel_rfl) (by kernel_rfl) ?_
        go_simp
        repeat (apply ro_want (by rfl); (intro u' hE _; have hX := HCE.out u' (Ext.trans _ _ _ (Ext.drew _) hE); go_simp; exact rfl); go_simp)
        apply ro_callw (by rfl) (fun w => by go_simp; exact ⟨rfl, rfl⟩)
        · intro u' hE hd
          exact HNG.out u' (Ext.trans _ _ _ (Ext.drew _) hE)
        intro v28
        go_simp
        apply ro_runw (by rfl)
        · intro u' hE hd
          simp [depsHold, Region.binds] at hd
          have hd : v28 = .bool ng := hd
          subst hd
          go_simp
          exact ⟨_, _, ⟨rfl, rfl⟩, Ext.refl _, rfl⟩
        intro v29
        go_simp
        apply ro_runw (by rfl)
        · intro u' hE hd
          simp [depsHold, Region.binds] at hd
          have hd : v29 = .bool (!ng) := hd
          subst hd
          go_simp
          exact ⟨_, _, ⟨rfl, rfl⟩, Ext.refl _, rfl⟩
        intro v30
        go_simp
        refine ro_done (fun u' hE hf => ?_)
        simp [-List.cons_append] at hf
        have h30 : v30 = .bool (!ng) := hf.2.2
        subst h30
        have EU : Ext u u' := Ext.trans _ _ _ (Ext.drew _) hE
        simp only [List.drop_succ_cons, List.drop_zero]
        go_wp2
        go_ret
        exact ⟨rfl, EU⟩
      · have d3 : ((mx : Int) == (n0 : Int)) = false := beq_eq_false_iff_ne.2 (by omega)
        simp only [decide_true, Bool.true_and, decide_eq_false k3, Bool.false_and]
        go_enter Tryz.func76, Tryz.ntmps76
        go_wp2_with fail
        go_quiet (fail)
        go_wp2
        go_ret
        exact ⟨rfl, Ext.drewN _ _⟩
    · have d2 : ((mw : Int) == (mb : Int)) = false := beq_eq_false_iff_ne.2 (by omega)
      simp only [decide_true, Bool.true_and, decide_eq_false k2, Bool.false_and]
      go_enter Tryz.func76, Tryz.ntmps76
      go_wp2_with fail
      go_quiet (fail)
      go_wp2
      go_ret
      exact ⟨rfl, Ext.drewN _ _⟩
  · have d1 : ((mb : Int) == (n : Int)) = false := beq_eq_false_iff_ne.2 (by omega)
    simp only [decide_eq_false k1, Bool.false_and]
    go_enter Tryz.func76, Tryz.ntmps76
    go_wp2_with fail
    go_quiet (fail)
    go_wp2
    go_ret
    exact ⟨rfl, Ext.drewN _ _⟩

set_option maxHeartbeats 2000000 in
theorem measure2_any (x : Fr) (w : World) : Calls Tryz.prog 78 #[.agg #[.string x.1, .string x.2]] w (Ret (.rat (1 : Rat)) w) := by
  obtain ⟨x1, x2⟩ := x
  have HF : Hid (∀ u, Calls Tryz.prog 79 #[.int .i64 1] u (Ret (.rat (1 : Rat)) u)) := fun u => ffrom_any 1 u (by omega) (by omega)
  have E0 : Ext w ((w.alloc (.cells #[.string x1, .string x2] 46)).alloc (.cells #[.bool false, .slice none 0 0, .slice none 0 0] 111)) := Ext.trans _ _ _ (Ext.alloc _ _) (Ext.alloc _ _)
  go_enter Tryz.func78, Tryz.ntmps78
  go_wp2_with fail
  refine (HF.out _).mono ?_
  rintro e w1 ⟨v, rfl, hv, hE⟩
  have HV := Lib.hid hv
  obtain ⟨mm, dd, rfl, hmm, hdd⟩ := hv
  obtain ⟨A5, c5, rfl, _⟩ := hmm
  obtain ⟨A6, c6, rfl, _⟩ := hdd
  generalize (mass (1 : Rat).num.natAbs).length = l5 at *
  generalize (mass (1 : Rat).den).length = l6 at *
  generalize decide ((1 : Rat).num < 0) = p5 at *
  have hX := hE.old
  go_wp2
  have hR := ratCell (w.alloc (.cells #[.string x1, .string x2] 46)) w1 hE HV.out
  rw [show (w.alloc (.cells #[.string x1, .string x2] 46)).heap.size = w.heap.size + 1 by simp] at hR
  refine bodyPost_ret (v := .agg #[.bool p5, .slice A5 l5 c5, .slice A6 l6 c6]) (by simp [results, Tryz.results78, go_sem, hX]) rfl ⟨_, rfl, hR.1, Ext.trans _ _ _ (Ext.alloc _ _) hR.2⟩
end Go.Proofs.Xx
end
section
namespace Go.Proofs.Xx
open Go.RowKit Go.V Go.Grow Lin Go.Txt

/-- A fraction's two texts as a value. -/
def frV (x : Fr) : Value := .agg #[.string x.1, .string x.2]
theorem toldQ_eq (q : Rat) : toldQ q = frV (told1 q).1 ∧ toldQE q = (told1 q).2 := by
  unfold toldQ toldQE told1
  by_cases h : Short q.num.natAbs ∧ Short q.den
  · rw [if_pos h, if_pos h, if_pos (show ShortQ q from h)]; exact ⟨rfl, rfl⟩
  · rw [if_neg h, if_neg h, if_neg (show ¬ ShortQ q from h)]; exact ⟨rfl, rfl⟩
theorem if_four (p q r : Prop) [Decidable p] [Decidable q] [Decidable r] (ng : Bool) (X Z : Fr × Int) (o : Fr) (h : Z = (o, 2)) : (if ¬ (p ∧ q ∧ r ∧ ng = false) then Z else X) = if (if (decide p && decide q && decide r && !ng) = false then (2 : Int) else 0) = 0 then X else (o, if (decide p && decide q && decide r && !ng) = false then 2 else 0) := by
  subst h
  by_cases h1 : p <;> by_cases h2 : q <;> by_cases h3 : r <;> cases ng <;> simp [h1, h2, h3]
theorem measureC_eq (t : List (List Fr)) (b w x : List Fr) : measureC t b w x = if fitsE t [b, w, x] (decide (b.length = t.length) && decide (w.length = t.length) && decide (x.length = (t.headD []).length) && !negL w) = 0 then told1 (wsum t.length (lisE w) (resQ t b x (t.headD []).length) (resQ t b x (t.headD []).length)) else ((.empty, .empty), fitsE t [b, w, x] (decide (b.length = t.length) && decide (w.length = t.length) && decide (x.length = (t.headD []).length) && !negL w)) := by
  unfold measureC fitsE
  cases okT t
  · rfl
  · simp only [Bool.true_eq_false, if_false, List.any_cons, List.any_nil, Bool.or_false, Bool.or_assoc]
    cases badL b || (badL w || badL x)
    · simp only [Bool.false_eq_true, if_false]
      exact if_four _ _ _ _ _ _ _ rfl
    · rfl
theorem stored2 {w : World} {g : Nat} {x0 x1 : Value} (h0 : w.cell? ⟨g, 0, none⟩ = some x0) (h1 : w.cell? ⟨g, 1, none⟩ = some x1) (a b : Value) :
    (w.setCell ⟨g, 0, none⟩ a).cell? ⟨g, 0, none⟩ = some a ∧ ((w.setCell ⟨g, 0, none⟩ a).setCell ⟨g, 1, none⟩ b).cell? ⟨g, 1, none⟩ = some b := by
  have h1' : (w.setCell ⟨g, 0, none⟩ a).cell? ⟨g, 1, none⟩ = some x1 := by rw [World.cell?_setCell_other _ _ _ _ (by simp)]; exact h1
  exact ⟨World.cell?_setCell_same _ _ _ h0, World.cell?_setCell_same _ _ _ h1'⟩
/-- One element in a block of its own. -/
def blkRat (q : Rat) : Fact := ⟨fun v w => ∃ h p A l c A' l' c', v = .slice (some ⟨h, 0, none⟩) 1 1 ∧ Blk w h [.bool p, .slice A l c, .slice A' l' c'] ∧ IsRat w (.agg #[.bool p, .slice A l c, .slice A' l' c']) q, fun _ _ _ hE ⟨h, p, A, l, c, A', l', c', h1, h2, h3⟩ => ⟨h, p, A, l, c, A', l', c', h1, h2.ext hE, h3.mono hE⟩⟩
/-- The residuals. -/
def resL (t : List (List Fr)) (b x : List Fr) (n k : Nat) : List Rat := (List.range k).map fun i => resQ t b x n i
theorem resL_succ (t : List (List Fr)) (b x : List Fr) (n k : Nat) : resL t b x n (k + 1) = resL t b x n k ++ [resQ t b x n k] := by
  unfold resL
  rw [List.range_succ, List.map_append]
  rfl
theorem resL_len (t : List (List Fr)) (b x : List Fr) (n k : Nat) : (resL t b x n k).length = k := by simp [resL]
theorem resQ_sz {t : List (List Fr)} {b x : List Fr} {n i : Nat} (hok : okT t = true) (hb : b.all okFr = true) (hx : x.all okFr = true) (hi : i < t.length) (hbl : b.length = t.length) (hxl : x.length = n) (hn : n = (t.headD []).length) (hn10 : n ≤ 10) : Sz (resQ t b x n i) 800 := by
  unfold resQ
  rw [Rat.sub_eq_add_neg]
  have h1 : Sz (wsum n (fun _ => 1) (tabE t i) (lisE x)) (1 + n * (1 + 34 + 34 + 1)) := Sz.rsum fun j hj => by
    have g1 : (x.map frQ)[j]? = some (lisE x j) := by unfold lisE; rw [List.getD_eq_getElem?_getD, List.getElem?_eq_getElem (by rw [List.length_map]; omega)]; rfl
    exact ((sz_int (z := 1) (L := 1) (by decide) (Nat.le_refl _)).mul (tabE_sz hok hi j (by omega))).mul (frs_sz hx _ (List.mem_of_getElem? g1))
  have g2 : (b.map frQ)[i]? = some (lisE b i) := by unfold lisE; rw [List.getD_eq_getElem?_getD, List.getElem?_eq_getElem (by rw [List.length_map]; omega)]; rfl
  have h2 := h1.add (frs_sz hb _ (List.mem_of_getElem? g2)).neg
  refine h2.mono ?_
  have : n * (1 + 34 + 34 + 1) ≤ 10 * 70 := Nat.mul_le_mul hn10 (Nat.le_refl _)
  omega

set_option maxHeartbeats 8000000 in
set_option maxRecDepth 100000 in
theorem lmeasure_any (va vb vw vx : Value) (t : List (List Fr)) (b lw x : List Fr) (w : World) (ht : IsTab w va t) (hb : IsFracs w vb b) (hw : IsFracs w vw lw) (hx : IsFracs w vx x) (htab : Tab w) :
    Calls Tryz.prog 24 #[va, vb, vw, vx] w fun e w' => e = .returned (.tuple #[frV (measureC t b lw x).1, .int .i64 (measureC t b lw x).2]) ∧ Ext w w' := by
  obtain ⟨A, c, rfl, hc⟩ := ht.slice
  obtain ⟨Ab, cb, rfl, hcb⟩ := hb.slice
  obtain ⟨Aw, cw, rfl, hcw⟩ := hw.slice
  obtain ⟨Ax, cx, rfl, hcx⟩ := hx.slice
  obtain ⟨W0, hW0⟩ : ∃ W0, W0 = (((((w.alloc (.cells #[.slice A t.length c] 22)).alloc (.cells #[.slice Ab b.length cb] 23)).alloc (.cells #[.slice Aw lw.length cw] 23)).alloc (.cells #[.slice Ax x.length cx] 23)).alloc (.cells #[.string ⟨#[]⟩, .string ⟨#[]⟩] 46)) := ⟨_, rfl⟩
  have E0 : Ext w W0 := by rw [hW0]; exact Ext.trans _ _ _ (Ext.trans _ _ _ (Ext.trans _ _ _ (Ext.trans _ _ _ (Ext.alloc _ _) (Ext.alloc _ _)) (Ext.alloc _ _)) (Ext.alloc _ _)) (Ext.alloc _ _)
  have hs0 : W0.heap.size = w.heap.size + 5 := by rw [hW0]; simp
  have hb1 : Blk W0 w.heap.size [.slice A t.length c] := by
    rw [hW0]
    exact ((((Blk.new' 22 rfl rfl).ext (Ext.alloc _ _)).ext (Ext.alloc _ _)).ext (Ext.alloc _ _)).ext (Ext.alloc _ _)
  have hb2 : Blk W0 (w.heap.size + 1) [.slice Ab b.length cb] := by
    rw [hW0]
    exact (((Blk.new' 23 (by simp) rfl).ext (Ext.alloc _ _)).ext (Ext.alloc _ _)).ext (Ext.alloc _ _)
  have hb3 : Blk W0 (w.heap.size + 2) [.slice Aw lw.length cw] := by
    rw [hW0]
    exact ((Blk.new' 23 (by simp) rfl).ext (Ext.alloc _ _)).ext (Ext.alloc _ _)
  have hb4 : Blk W0 (w.heap.size + 3) [.slice Ax x.length cx] := by
    rw [hW0]
    exact (Blk.new' 23 (by simp) rfl).ext (Ext.alloc _ _)
  have hb5 : Blk W0 (w.heap.size + 4) [.string ⟨#[]⟩, .string ⟨#[]⟩] := by
    rw [hW0]
    exact Blk.new' 46 (by simp) rfl
  have EB : Ext W0 (W0.alloc (.cells #[.slice Ab b.length cb, .slice Aw lw.length cw, .slice Ax x.length cx] 23)) := Ext.alloc _ _
  have hb6 : Blk (W0.alloc (.cells #[.slice Ab b.length cb, .slice Aw lw.length cw, .slice Ax x.length cx] 23)) (w.heap.size + 5) [.slice Ab b.length cb, .slice Aw lw.length cw, .slice Ax x.length cx] := Blk.new' 23 hs0 rfl
  have E1 := Ext.trans _ _ _ E0 EB
  obtain ⟨r, hr⟩ : ∃ r, r = (decide (b.length = t.length) && decide (lw.length = t.length) && decide (x.length = (t.headD []).length) && !negL lw) := ⟨_, rfl⟩
  have HF := Lib.hid (lfits_any (.slice A t.length c) (.slice (some ⟨w.heap.size + 5, 0, none⟩) 3 3) t [b, lw, x] 76 #[.pointer (some ⟨w.heap.size + 1, 0, none⟩), .pointer (some ⟨w.heap.size, 0, none⟩), .pointer (some ⟨w.heap.size + 2, 0, none⟩), .pointer (some ⟨w.heap.size + 3, 0, none⟩)] r _ (ht.mono E1) (IsTab.three hb6 (hb.mono E1) (hw.mono E1) (hx.mono E1)) (htab.mono E1) (enters_of Tryz.func76 (by kernel_rfl) rfl) (fun w' hok hbad hE => by
    rw [hr]
    obtain ⟨p1, p2, p3, p4, p5⟩ := okT_parts hok
    obtain ⟨bA, oA, u, A0, c0, k1, k2, k3, k4, _⟩ := IsTab.first ht (by omega)
    subst k1 k3
    have hbw : badL lw = false := by
      simp at hbad
      exact hbad.2.1
    exact measure1_any (w.heap.size + 1) w.heap.size (w.heap.size + 2) (w.heap.size + 3) t.length c b.length cb lw.length cw x.length cx (t.headD []).length c0 bA oA Ab Aw Ax A0 lw w' (hE.cell (EB.cell (hb1.cell 0))) (hE.cell (EB.cell (hb2.cell 0))) (hE.cell (EB.cell (hb3.cell 0))) (hE.cell (EB.cell (hb4.cell 0))) ((Ext.trans _ _ _ E1 hE).cell k2) (by omega) (hw.mono (Ext.trans _ _ _ E1 hE)) hbw))
  have hC := measureC_eq t b lw x
  rw [← hr] at hC
  have HOK : Hid (fitsE t [b, lw, x] r = 0 → okT t = true ∧ b.all okFr = true ∧ lw.all okFr = true ∧ x.all okFr = true ∧ b.length = t.length ∧ lw.length = t.length ∧ x.length = (t.headD []).length) := fun h => by
    obtain ⟨k1, k2, k3⟩ := fitsE_ok h
    rw [hr] at k3
    simp only [Bool.and_eq_true, decide_eq_true_eq] at k3
    simp at k2
    exact ⟨k1, badL_ok k2.1, badL_ok k2.2.1, badL_ok k2.2.2, k3.1.1.1, k3.1.1.2, k3.1.2⟩
  generalize fitsE t [b, lw, x] r = f at *
  by_cases hf : f = 0
  · subst hf
    rw [if_pos rfl] at hC
    obtain ⟨k1, k2, k3, k6, k4, k5, k7⟩ := HOK.out rfl
    obtain ⟨p1, p2, p3, p4, p5⟩ := okT_parts k1
    obtain ⟨n, hn⟩ : ∃ n, n = (t.headD []).length := ⟨_, rfl⟩
    obtain ⟨m, hm⟩ : ∃ m, m = t.length := ⟨_, rfl⟩
    rw [← hn] at p3 p4 hC
    have HRR : Hid (∀ u, Ext W0 u → Calls Tryz.prog 60 #[.slice A m c, .func (.func 53) #[] #[]] u (Ret (.rowsQ m (tabR t)) u)) := fun u hE => by
      rw [hm]
      exact rows_read _ t u (ht.mono (Ext.trans _ _ _ E0 hE)) k1
    have HRX : Hid (∀ u, Ext W0 u → Calls Tryz.prog 53 #[.slice Ax x.length cx] u (Ret (.rats (x.map frQ)) u)) := fun u hE => (lread_any _ x u (hx.mono (Ext.trans _ _ _ E0 hE)) (by omega) k6).mono (by
      rintro e u' ⟨rfl, _, h2, h3⟩
      exact ⟨_, rfl, h2, h3⟩)
    have HRW : Hid (∀ u, Ext W0 u → Calls Tryz.prog 53 #[.slice Aw lw.length cw] u (Ret (.rats (lw.map frQ)) u)) := fun u hE => (lread_any _ lw u (hw.mono (Ext.trans _ _ _ E0 hE)) (by omega) k3).mono (by
      rintro e u' ⟨rfl, _, h2, h3⟩
      exact ⟨_, rfl, h2, h3⟩)
    have HON : Hid (∀ u, Ext W0 u → Calls Tryz.prog 77 #[.slice Ax x.length cx, .func (.func 78) #[] #[]] u (Ret (.rats ((List.range n).map fun _ => (1 : Rat))) u)) := fun u hE => (mappedFR_any 78 #[] (enters_of Tryz.func78 (by kernel_rfl) rfl) _ x (fun _ => 1) u (hx.mono (Ext.trans _ _ _ E0 hE)) (by omega) (fun i y w' _ _ => measure2_any y w')).mono (by
      rintro e u' ⟨rfl, h2, h3⟩
      refine ⟨_, rfl, ?_, h3⟩
      have := h2.rats (c := x.length) (fun _ _ => trivial) (Nat.le_refl _) (by unfold maxLen; omega)
      rw [k7, ← hn] at this ⊢
      exact this)
    have HTD : Hid (∀ v q u, Ext W0 u → IsRat u v q → Sz q 1000000000000 → Calls Tryz.prog 82 #[v] u fun e w' => e = .returned (.tuple #[frV (told1 q).1, .int .i64 (told1 q).2]) ∧ Ext u w') := fun v q u hE h1 h2 => by
      have := rtold_any v q u h1 (htab.mono (Ext.trans _ _ _ E0 hE)) h2.1 h2.2
      rw [(toldQ_eq q).1, (toldQ_eq q).2] at this
      exact this
    have HFB : Hid (∀ i, i < m → ∃ y, b[i]? = some y ∧ y = txtFr (lisE b i) ∧ ∀ u, Calls Tryz.prog 81 #[.agg #[.string y.1, .string y.2]] u (Ret (.rat (lisE b i)) u)) := fun i hi => by
      have hg : b[i]? = some (b[i]'(by omega)) := List.getElem?_eq_getElem _
      have hy : okFr (b[i]'(by omega)) = true := List.all_eq_true.1 k2 _ (List.getElem_mem _)
      have he : lisE b i = frQ (b[i]'(by omega)) := by
        unfold lisE
        rw [List.getD_eq_getElem?_getD, List.getElem?_eq_getElem (by rw [List.length_map]; omega), Option.getD_some, List.getElem_map]
      obtain ⟨h1, h2⟩ := (okFr_iff _).1 hy
      refine ⟨_, hg, by rw [he]; exact h1, fun u => ?_⟩
      rw [he]
      have h4 := fread_any (frQ (b[i]'(by omega))) u (by have := h2.1; unfold Short at this; omega) (by have := h2.2; unfold Short at this; omega)
      rw [txtQ_fr, ← h1] at h4
      exact h4
    have hres : Hid (∀ i, i < m → Sz (resQ t b x n i) 800) := fun i hi => resQ_sz k1 k2 k6 (by omega) k4 (by omega) hn p4
    have HWT : Hid (∀ i v1 v2 v3 u, i < m → IsRats u v1 ((List.range n).map fun _ => (1 : Rat)) → IsRats u v2 (tabR t i) → IsRats u v3 (x.map frQ) → Calls Tryz.prog 72 #[v1, v2, v3] u (Ret (.rat (wsum n (fun _ => 1) (tabE t i) (lisE x))) u)) := fun i v1 v2 v3 u hi h1 h2 h3 => by
      obtain ⟨l, g1, g2, g3, g4⟩ := okT_row k1 (by omega : i < t.length)
      have := weighted_any v1 v2 v3 _ (tabR t i) (x.map frQ) n u h1 h2 h3 (by simp) (by unfold tabR; rw [g2, List.length_map, g3, hn]) (by rw [List.length_map, k7, hn]) (by omega) (s1 := 1) (s2 := 34) (s3 := 34) (fun q hq => by
        obtain ⟨_, _, rfl⟩ := List.mem_map.1 hq
        exact sz_int (z := 1) (L := 1) (by decide) (Nat.le_refl _)) (by unfold tabR; rw [g2]; exact frs_sz g4) (frs_sz k6) (by omega)
      have e : wsum n (fun i => ((List.range n).map fun _ => (1 : Rat)).getD i 0) (fun j => (tabR t i).getD j 0) (fun j => (x.map frQ).getD j 0) = wsum n (fun _ => 1) (tabE t i) (lisE x) := wsum_congr (fun j hj => by
        rw [List.getD_eq_getElem?_getD, List.getElem?_map, List.getElem?_range hj]; rfl) (fun _ _ => rfl) (fun _ _ => rfl)
      rw [e] at this
      exact this
    have HMI : Hid (∀ i v1 v2 u, i < m → IsRat u v1 (wsum n (fun _ => 1) (tabE t i) (lisE x)) → IsRat u v2 (lisE b i) → Calls Tryz.prog 80 #[v1, v2] u (Ret (.rat (resQ t b x n i)) u)) := fun i v1 v2 u hi h1 h2 => by
      have hs1 : Sz (wsum n (fun _ => 1) (tabE t i) (lisE x)) (1 + n * (1 + 34 + 34 + 1)) := Sz.rsum fun j hj => by
        have g1 : (x.map frQ)[j]? = some (lisE x j) := by unfold lisE; rw [List.getD_eq_getElem?_getD, List.getElem?_eq_getElem (by rw [List.length_map]; omega)]; rfl
        exact ((sz_int (z := 1) (L := 1) (by decide) (Nat.le_refl _)).mul (tabE_sz k1 (by omega) j (by omega))).mul (frs_sz k6 _ (List.mem_of_getElem? g1))
      have g2 : (b.map frQ)[i]? = some (lisE b i) := by unfold lisE; rw [List.getD_eq_getElem?_getD, List.getElem?_eq_getElem (by rw [List.length_map]; omega)]; rfl
      have hn10 : n * (1 + 34 + 34 + 1) ≤ 10 * 70 := Nat.mul_le_mul p4 (Nat.le_refl _)
      exact rminus_any v1 v2 _ _ u h1 h2 hs1 (frs_sz k2 _ (List.mem_of_getElem? g2)) (by omega)
    obtain ⟨R, hR⟩ : ∃ R, R = wsum m (lisE lw) (resQ t b x n) (resQ t b x n) := ⟨_, rfl⟩
    have HWW : Hid (∀ v1 v2 u, IsRats u v1 (lw.map frQ) → IsRats u v2 (resL t b x n m) → Calls Tryz.prog 72 #[v1, v2, v2] u (Ret (.rat R) u)) := fun v1 v2 u h1 h2 => by
      have hz : ∀ q ∈ resL t b x n m, Sz q 800 := fun q hq => by
        obtain ⟨i, hi, rfl⟩ := List.mem_map.1 hq
        exact hres.out i (List.mem_range.1 hi)
      have := weighted_any v1 v2 v2 (lw.map frQ) (resL t b x n m) (resL t b x n m) m u h1 h2 h2 (by rw [List.length_map, k5, hm]) (resL_len ..) (resL_len ..) (by omega) (frs_sz k3) hz hz (by omega)
      rw [hR]
      have hg : ∀ i, i < m → (resL t b x n m).getD i 0 = resQ t b x n i := fun i hi => by
        unfold resL
        rw [List.getD_eq_getElem?_getD, List.getElem?_map, List.getElem?_range hi]; rfl
      have e : wsum m (fun i => (lw.map frQ).getD i 0) (fun i => (resL t b x n m).getD i 0) (fun i => (resL t b x n m).getD i 0) = wsum m (lisE lw) (resQ t b x n) (resQ t b x n) := wsum_congr (fun _ _ => rfl) (fun i hi => hg i hi) (fun i hi => hg i hi)
      rw [e] at this
      exact this
    have hRS : Sz R 1000000000000 := by
      rw [hR]
      refine Sz.mono (Sz.rsum (S := 34 + 800 + 800) fun i hi => ?_) (by have : m * (34 + 800 + 800 + 1) ≤ 40 * 1635 := Nat.mul_le_mul (by omega) (by omega); omega)
      have g2 : (lw.map frQ)[i]? = some (lisE lw i) := by unfold lisE; rw [List.getD_eq_getElem?_getD, List.getElem?_eq_getElem (by rw [List.length_map]; omega)]; rfl
      exact ((frs_sz k3 _ (List.mem_of_getElem? g2)).mul (hres.out i hi)).mul (hres.out i hi)
    have HRS := Lib.hid hRS
    rw [← hm, ← hR] at hC
    have HCC := Lib.hid hC
    have HXF : Hid (∀ u i y, Ext W0 u → b[i]? = some y → ∃ bb ob, Ab = some ⟨bb, ob, none⟩ ∧ u.cell? ⟨bb, ob + i * 2, none⟩ = some (.string y.1) ∧ u.cell? ⟨bb, ob + i * 2 + 1, none⟩ = some (.string y.2)) := fun u i y hE hy => IsFracs.get (hb.mono (Ext.trans _ _ _ E0 hE)) hy
    have HG : Hid (∀ u, Ext W0 u → u.cell? ⟨w.heap.size, 0, none⟩ = some (.slice A m c) ∧ u.cell? ⟨w.heap.size + 1, 0, none⟩ = some (.slice Ab b.length cb) ∧ u.cell? ⟨w.heap.size + 2, 0, none⟩ = some (.slice Aw lw.length cw) ∧ u.cell? ⟨w.heap.size + 3, 0, none⟩ = some (.slice Ax x.length cx)) := fun u hE => by
      rw [hm]
      exact ⟨hE.cell (hb1.cell 0), hE.cell (hb2.cell 0), hE.cell (hb3.cell 0), hE.cell (hb4.cell 0)⟩
    have HRC : Hid (∀ u, Ext W0 u → u.cell? ⟨w.heap.size + 4, 0, none⟩ = some (.string ⟨#[]⟩) ∧ u.cell? ⟨w.heap.size + 4, 1, none⟩ = some (.string ⟨#[]⟩) ∧ u.frozen? ⟨w.heap.size + 4, 0, none⟩ = false ∧ u.frozen? ⟨w.heap.size + 4, 1, none⟩ = false) := fun u hE => by
      have := hb5.ext hE
      exact ⟨this.cell 0, this.cell 1, this.frozen 0, this.frozen 1⟩
    have hg0 := HG.out W0 (Ext.refl _)
    have HE0 := Lib.hid E0
    have HEB := Lib.hid EB
    have HM := Lib.hid hm
    have HN := Lib.hid hn
    rw [← hm] at hc p1 p2 HF hW0 k4 ⊢
    have HBL := Lib.hid k4
    clear k4
    generalize b.length = lb at *
    have hm1 : 0 < m := p1
    have P2 := Lib.hid p2
    clear hb1 hb2 hb3 hb4 hb5 hb6 E0 E1 EB HOK hC hr k1 k2 k3 k5 k6 k7 p1 p2 p3 p4 p5 ht hb hw hx htab hm hn hcw hcx hR hRS hres
    go_enter Tryz.func24, Tryz.ntmps24
    go_wp2_with fail
    rw [← hW0]
    refine HF.out.mono ?_
    rintro e w1 ⟨rfl, hE1⟩
    have EW1 := Ext.trans _ _ _ HEB.out hE1
    have hg1 := HG.out w1 EW1
    go_wp2_with fail
    refine (HON.out w1 EW1).mono ?_
    rintro e w2 ⟨v12, rfl, h12, hE2⟩
    have EW2 := Ext.trans _ _ _ EW1 hE2
    have hg2 := HG.out w2 EW2
    have H12 : Hid (IsRats w2 v12 ((List.range n).map fun _ => (1 : Rat))) := h12
    obtain ⟨A12, c12, h12e, _⟩ := h12
    rw [List.length_map, List.length_range] at h12e
    subst h12e
    clear hg1
    go_wp2_with fail
    refine (HRR.out w2 EW2).mono ?_
    rintro e wb ⟨vr, rfl, ⟨us, hL, hus⟩, hE3⟩
    obtain ⟨Ar, cr, rfl, hcr, _⟩ := id hL
    have HL := Lib.hid hL
    have HUS := Lib.hid hus
    have EWB := Ext.trans _ _ _ EW2 hE3
    have H12b := Lib.hid (H12.out.mono hE3)
    have HEWB := Lib.hid EWB
    clear hL hus hE3 hg2 hg0
    go_wp2_with fail
    go_loopw [13, 33] (fun off s wr => ∃ i : Nat, s = .int .i64 (i : Int) ∧ i ≤ m ∧ (∃ vs, Lst wr wb.heap.size 111 3 off i (ratCells vs) ∧ Parts wr vs (resL t b x n i)) ∧ Ext wb wr) (fun _ s _ => upTo m s)
    case atStart => exact ⟨0, rfl, Nat.zero_le _, ⟨[], Lst.nil _ _ _ _, rfl, fun i q hq => by simp [resL] at hq⟩, Ext.refl _⟩
    case round =>
      obtain ⟨w4, hw4⟩ : ∃ w4, w4 = wr := ⟨_, rfl⟩
      subst hw4
      obtain ⟨i, rfl, hi, ⟨vs, hLs, hPs⟩, hE4⟩ := hrel
      obtain ⟨Ao, co, hvo⟩ := hLs.slice
      subst hvo
      by_cases hlt : i < m
      · obtain ⟨bv, ov, rfl, k1⟩ := IsL.get HL.out hlt
        have hri := HUS.out i hlt
        obtain ⟨Ai, ci, hui, _⟩ := id hri
        have q1 := hE4.cell k1
        rw [hui] at q1 hri
        have HRI := Lib.hid (hri.mono hE4)
        obtain ⟨y, hy, hyt, hyf⟩ := HFB.out i hlt
        have EW4 := Ext.trans _ _ _ HEWB.out hE4
        obtain ⟨bb, ob, hAb, y1, y2⟩ := HXF.out w4 i y EW4 hy
        subst hAb
        obtain ⟨y0, y9⟩ := y
        simp only at y1 y2 hyf
        have HYF := Lib.hid hyf
        have HLS := Lib.hid hLs
        have HPS := Lib.hid hPs
        have HE4 := Lib.hid hE4
        have HEW4 := Lib.hid EW4
        have H124 := Lib.hid (H12b.out.mono hE4)
        have HWI : Hid (wrap64 ((i : Int) + 1) = ((i + 1 : Nat) : Int)) := by
          have := P2.out
          show wrap64 ((i : Int) + 1) = ((i + 1 : Nat) : Int)
          rw [IntWalk.wrap64_in _ (by omega)]
          omega
        have hicr : i < cr := by omega
        have hilb : i < lb := by have := HBL.out; omega
        have hicb : i < cb := by omega
        have HCE : Hid (∀ u, Ext w4 u → u.cell? ⟨w.heap.size + 1, 0, none⟩ = some (.slice (some ⟨bb, ob, none⟩) lb cb) ∧ u.cell? ⟨w.heap.size + 1 + 1 + 1, 0, none⟩ = some (.slice Ax x.length cx) ∧ u.cell? ⟨bb, ob + i * 2, none⟩ = some (.string y0) ∧ u.cell? ⟨bb, ob + i * 2 + 1, none⟩ = some (.string y9)) := fun u hE => by
          have := HG.out u (Ext.trans _ _ _ HEW4.out hE)
          exact ⟨this.2.1, this.2.2.2, hE.cell y1, hE.cell y2⟩
        clear hLs hPs hE4 EW4 hri hui k1 hy hyt hyf y1 y2
        go_wp2_with fail
        refine ro_region 13 [none, none, none, none, some (.rats (x.map frQ)), some (.rat (wsum n (fun _ => 1) (tabE t i) (lisE x))), none, none, none, none, some (.rat (lisE b i)), some (.rat (resQ t b x n i)), some (blkRat (resQ t b x n i))] (by kernel_rfl) (by kernel_rfl) ?_
        go_simp
        repeat (apply ro_quiet rfl; (intro u hE _; have hX := HCE.out u (Ext.trans _ _ _ (Ext.drew _) hE); go_simp; exact rfl); go_simp)
        apply ro_call rfl (fun w => by go_simp; exact ⟨rfl, rfl⟩)
        · intro u hE hd
          exact HRX.out u (Ext.trans _ _ _ HEW4.out (Ext.trans _ _ _ (Ext.drew _) hE))
        intro v42
        go_simp
        apply ro_call rfl (fun w => by go_simp; exact ⟨rfl, rfl⟩)
        · intro u hE hd
          simp [depsHold, Region.binds] at hd
          have e4 := Ext.trans _ _ _ (Ext.drew _) hE
          exact HWT.out i _ _ v42 u hlt (H124.out.mono e4) (HRI.out.mono e4) hd
        intro v43
        go_simp
        repeat (apply ro_quiet rfl; (intro u hE _; have hX := HCE.out u (Ext.trans _ _ _ (Ext.drew _) hE); go_simp; exact rfl); go_simp)
        apply ro_call rfl (fun w => by go_simp; exact ⟨rfl, rfl⟩)
        · intro u hE hd
          exact HYF.out u
        intro v48
        go_simp
        apply ro_call rfl (fun w => by go_simp; exact ⟨rfl, rfl⟩)
        · intro u hE hd
          simp [depsHold, Region.binds] at hd
          exact HMI.out i v43 v48 u hlt hd.1 hd.2
        intro v49
        go_simp
        apply ro_run rfl
        · intro u hE hd
          simp [depsHold, Region.binds] at hd
          have hd : IsRat u v49 (resQ t b x n i) := hd
          have hd2 := hd
          obtain ⟨mm, dd, rfl, hmm, hdd⟩ := hd
          obtain ⟨A5, c5, rfl, _⟩ := hmm
          obtain ⟨A6, c6, rfl, _⟩ := hdd
          go_simp
          exact ⟨_, _, ⟨rfl, rfl⟩, Ext.alloc _ _, _, _, _, _, _, _, _, _, rfl, Blk.new u [_, _, _] _, hd2.mono (Ext.alloc _ _)⟩
        intro v50
        go_simp
        refine ro_done (fun u hE hf => ?_)
        simp [-List.cons_append] at hf
        obtain ⟨_, _, _, _, ⟨h5, p5, A5, l5, c5, A6, l6, c6, rfl, hbk, hir⟩⟩ := hf
        have EU : Ext w4 u := Ext.trans _ _ _ (Ext.drew _) hE
        have hlu := HLS.out.ext EU
        have hsz : wb.heap.size ≤ u.heap.size := (Ext.trans _ _ _ HE4.out EU).size
        obtain ⟨v', u', hrun, k2, k3, k4, k5, _⟩ := app_rats hlu ⟨h5, 0, none⟩ 1 1 [.bool p5, .slice A5 l5 c5, .slice A6 l6 c6] rfl (fun j x hx => by rw [add0, hbk.cell]; exact hx) (fun x hx => by
          simp at hx
          rcases hx with rfl | rfl | rfl
          · exact ⟨rfl, (notInt_bool _).u⟩
          · exact ⟨rfl, (notInt_slice _ _ _).u⟩
          · exact ⟨rfl, (notInt_slice _ _ _).u⟩) (by decide) (by have := P2.out; omega) hsz 83 83 Tryz.underlying83
        have HRN := Lib.hid hrun
        have HGX : Hid (Ext wb u') := grown_ext (Ext.trans _ _ _ HE4.out EU) k4 (fun g hg => (hlu.own hg).1)
        have HPN : Hid (∃ vs, Lst u' wb.heap.size 111 3 v' (i + 1) (ratCells vs) ∧ Parts u' vs (resL t b x n (i + 1))) := by
          refine ⟨vs ++ [(p5, .slice A5 l5 c5, .slice A6 l6 c6)], by rw [ratCells_snoc]; exact k2, ?_⟩
          rw [resL_succ]
          exact ((HPS.out.keep EU.keep).snoc hir).keep k3
        clear hrun k2 k3 k4 k5 hlu hsz hbk hir EU hE HCE
        simp only [List.drop_succ_cons, List.drop_zero]
        go_wp2_with (first | (at_builtin; refine wp_app rfl _ _ _ rfl rfl rfl HRN.out ?_) | fail)
        refine ⟨⟨i + 1, by rw [HWI.out], hlt, HPN.out, HGX.out⟩, ?_⟩
        rw [HWI.out]
        exact upTo_lt hlt
      · have him : i = m := by omega
        subst him
        have EW4 := Ext.trans _ _ _ HEWB.out hE4
        have hIR : IsRats w4 (.slice Ao i co) (resL t b x n i) := Lst.rats (by rw [resL_len]; exact hLs) hPs (by rw [resL_len]; exact hm1)
        have HIR := Lib.hid hIR
        have HEW4 := Lib.hid EW4
        have hg4 := HG.out w4 EW4
        clear hLs hPs hE4 EW4 hIR
        go_wp2_with fail
        refine (HRW.out w4 HEW4.out).mono ?_
        rintro e w5 ⟨v54, rfl, h54, hE5⟩
        have H55 := Lib.hid (HWW.out v54 _ w5 h54 (HIR.out.mono hE5))
        have HE5 := Lib.hid (Ext.trans _ _ _ HEW4.out hE5)
        clear h54 hE5
        go_wp2_with fail
        refine H55.out.mono ?_
        rintro e w6 ⟨v57, rfl, h57, hE6⟩
        have HE6 := Lib.hid (Ext.trans _ _ _ HE5.out hE6)
        have H58 := Lib.hid (HTD.out v57 R w6 HE6.out h57 HRS.out)
        clear h57 hE6
        go_wp2_with fail
        refine H58.out.mono ?_
        rintro e w7 ⟨rfl, hE7⟩
        have EW7 := Ext.trans _ _ _ HE6.out hE7
        obtain ⟨r1, r2, r3, r4⟩ := HRC.out w7 EW7
        have HE7 := Lib.hid (Ext.trans _ _ _ HE0.out EW7)
        have HTC : Hid (measureC t b lw x = told1 R) := HCC
        generalize hz : told1 R = z at *
        obtain ⟨⟨z1, z2⟩, z3⟩ := z
        have s1 : w7.cell? ⟨w.heap.size + 1 + 1 + 1 + 1, 0, none⟩ = some (.string ⟨#[]⟩) := r1
        have s2 : w7.cell? ⟨w.heap.size + 1 + 1 + 1 + 1, 1, none⟩ = some (.string ⟨#[]⟩) := r2
        have s3 : w7.frozen? ⟨w.heap.size + 1 + 1 + 1 + 1, 0, none⟩ = false := r3
        have s4 : w7.frozen? ⟨w.heap.size + 1 + 1 + 1 + 1, 1, none⟩ = false := r4
        obtain ⟨e0, e1⟩ := stored2 s1 s2 (.string z1) (.string z2)
        clear hE7 EW7 hg4 r1 r2 r3 r4
        unfold frV
        go_wp2
        refine bodyPost_ret (v := .tuple #[.agg #[.string z1, .string z2], .int .i64 z3]) (by simp [results, Tryz.results24, go_sem, e0, e1]) rfl ?_
        rw [HCC.out]
        exact ⟨rfl, (HE7.out.set (p := ⟨w.heap.size + 1 + 1 + 1 + 1, 0, none⟩) (by show w.heap.size ≤ w.heap.size + 1 + 1 + 1 + 1; omega) _).set (p := ⟨w.heap.size + 1 + 1 + 1 + 1, 1, none⟩) (by show w.heap.size ≤ w.heap.size + 1 + 1 + 1 + 1; omega) _⟩
  · rw [if_neg hf] at hC
    have hf' : (f == 0) = false := beq_eq_false_iff_ne.2 hf
    rw [hC]
    have HE0 := Lib.hid E0
    have HEB := Lib.hid EB
    have hg1 := hb1.cell 0
    have hg2 := hb2.cell 0
    have hg3 := hb3.cell 0
    have hg4 := hb4.cell 0
    simp only [List.getElem?_cons_zero] at hg1 hg2 hg3 hg4
    have HRC : Hid (∀ u, Ext W0 u → u.cell? ⟨w.heap.size + 1 + 1 + 1 + 1, 0, none⟩ = some (.string ⟨#[]⟩) ∧ u.cell? ⟨w.heap.size + 1 + 1 + 1 + 1, 1, none⟩ = some (.string ⟨#[]⟩) ∧ u.frozen? ⟨w.heap.size + 1 + 1 + 1 + 1, 0, none⟩ = false ∧ u.frozen? ⟨w.heap.size + 1 + 1 + 1 + 1, 1, none⟩ = false) := fun u hE => by
      have := hb5.ext hE
      exact ⟨this.cell 0, this.cell 1, this.frozen 0, this.frozen 1⟩
    clear hb1 hb2 hb3 hb4 hb5 hb6 E0 E1 EB HOK hC hr ht hb htab hw hx
    go_enter Tryz.func24, Tryz.ntmps24
    go_wp2_with fail
    rw [← hW0]
    refine HF.out.mono ?_
    rintro e w1 ⟨rfl, hE1⟩
    have EW1 := Ext.trans _ _ _ HEB.out hE1
    obtain ⟨s1, s2, s3, s4⟩ := HRC.out w1 EW1
    obtain ⟨e0, e1⟩ := stored2 s1 s2 (.string ⟨#[]⟩) (.string ⟨#[]⟩)
    clear hg1 hg2 hg3 hg4
    go_wp2
    refine bodyPost_ret (v := .tuple #[.agg #[.string ⟨#[]⟩, .string ⟨#[]⟩], .int .i64 f]) (by simp [results, Tryz.results24, go_sem, e0, e1]) rfl ?_
    exact ⟨rfl, ((Ext.trans _ _ _ HE0.out EW1).set (p := ⟨w.heap.size + 1 + 1 + 1 + 1, 0, none⟩) (by show w.heap.size ≤ w.heap.size + 1 + 1 + 1 + 1; omega) _).set (p := ⟨w.heap.size + 1 + 1 + 1 + 1, 1, none⟩) (by show w.heap.size ≤ w.heap.size + 1 + 1 + 1 + 1; omega) _⟩
end Go.Proofs.Xx
end
section
namespace Go.V
open Go.RowKit Go.Grow
section
variable {P : Program} {ops : Array Oper} {E : World → World → Prop} {w0 : World} {Q : Exit → Act → World → Prop} {T : Act → World → Prop}
/-- What is asked of the operations in any order serves in the text's order. -/
theorem seq_of_rounds (htr : ∀ a b c, E a b → E b c → E a c) (tail : List Oper) (hT : ∀ a w, T a w → wpList P ops Q tail a w) : ∀ (l : List Oper) (ms : List (Option (Value → World → Prop))) (fs : List (World → Prop)) (a : Act) (w : World), Rounds P ops E w0 Q T ms l fs a → E w0 w → (∀ f ∈ fs, f w ∧ Stable E f) → (∀ S, some S ∈ ms → ∀ v, Stable E (S v)) → wpList P ops Q (l ++ tail) a w
  | [], ms, fs, a, w, h, hE, hf, _ => hT _ _ (h w hE fun f hm => (hf f hm).1)
  | o :: rest, ms, fs, a, w, h, hE, hf, hst => by
    have hd : depsHold o fs w := fun e _ _ => by
      rw [List.getD_eq_getElem?_getD]
      cases hg : fs[e.on]? with
      | none => trivial
      | some f => exact (hf f (List.mem_of_getElem? hg)).1
    have hms : ∀ S, some S ∈ ms.tail → ∀ v, Stable E (S v) := fun S hS => hst S (List.mem_of_mem_tail hS)
    have htrue : ∀ (w1 : World), (∀ f ∈ fs, f w1 ∧ Stable E f) → ∀ f ∈ fs ++ [fun _ : World => True], f w1 ∧ Stable E f := fun w1 h f hm => by
      rcases List.mem_append.1 hm with k | k
      · exact h f k
      · rw [List.mem_singleton.1 k]; exact ⟨trivial, fun _ _ _ _ => trivial⟩
    unfold Rounds at h
    rw [List.cons_append]
    unfold wpList
    by_cases hw : Region.wanted o (yielded ops a.tmps) = true
    · rw [if_pos hw] at h ⊢
      cases hm : ms.headD (none : Option (Value → World → Prop)) with
      | none =>
        rw [hm] at h
        obtain ⟨u, h1, h2⟩ := h
        left
        unfold Oper.wp
        rw [h1 w hE hd, Oper.upon_value]
        exact seq_of_rounds htr tail hT rest ms.tail _ _ w h2 hE (htrue w hf) hms
      | some S =>
        rw [hm] at h
        have hS : some S ∈ ms := by
          cases ms with
          | nil => cases hm
          | cons x xs => rw [← hm]; exact List.mem_cons_self ..
        refine run_one (E := E) rfl rfl hw (h.1 w hE hd) fun v w' hE' hSv _ => ?_
        refine seq_of_rounds htr tail hT rest ms.tail _ _ w' (h.2 v) (htr _ _ _ hE hE') (fun f hm2 => ?_) hms
        rcases List.mem_append.1 hm2 with k | k
        · exact ⟨(hf f k).2 _ _ hE' (hf f k).1, (hf f k).2⟩
        · rw [List.mem_singleton.1 k]; exact ⟨hSv, hst S hS v⟩
    · rw [if_neg hw] at h ⊢
      exact seq_of_rounds htr tail hT rest ms.tail _ _ w h hE (htrue w hf) hms
/-- A region in the text's order, its operations asked as those of one that draws. -/
theorem ro_seq {id : Nat} {a : Act} {w : World} (k : Nat) (ms : List (Option Fact)) (h : Ro P ops w Q (Tl P ops Q k) ms (ops.toList.take k) [] a) : (Code.region id ops false).wp P Q a w := by
  refine wp_region_list ?_
  have := seq_of_rounds (E := Ext) Ext.trans (ops.toList.drop k) (fun a w h => h) (ops.toList.take k) (ms.map (Option.map Fact.S)) [] a w h (Ext.refl _) (fun f hf => by cases hf) (fun S hS v w1 w2 hE hh => by
    obtain ⟨m, _, hm2⟩ := List.mem_map.1 hS
    cases m with
    | none => cases hm2
    | some F => cases hm2; exact F.st v w1 w2 hE hh)
  rwa [List.take_append_drop] at this
end
end Go.V
end
