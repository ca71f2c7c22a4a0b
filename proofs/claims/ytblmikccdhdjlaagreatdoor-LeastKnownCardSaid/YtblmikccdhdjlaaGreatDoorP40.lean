/- A part of the proof: the texts W63, W64, W65, W66, W67, W68. -/
import Derived.Test.YtblmikccdhdjlaaGreatDoorP39
import Derived.Test.YtblmikccdhdjlaaGreatDoorP21
import Derived.BigQuiet
set_option linter.unusedVariables false
set_option linter.unusedSimpArgs false
section
namespace Go.Proofs.Xx
open Go.RowKit Go.V Go.Grow Lin Go.Txt

set_option maxHeartbeats 4000000 in
set_option maxRecDepth 100000 in
theorem weighted_any (vw vx vy : Value) (qw qx qy : List Rat) (m : Nat) (w : World) (hw : IsRats w vw qw) (hx : IsRats w vx qx) (hy : IsRats w vy qy) (lw : qw.length = m) (lx : qx.length = m) (ly : qy.length = m) (hm : m ≤ 1000) {s1 s2 s3 : Nat} (z1 : ∀ q ∈ qw, Sz q s1) (z2 : ∀ q ∈ qx, Sz q s2) (z3 : ∀ q ∈ qy, Sz q s3) (hs : s1 + s2 + s3 ≤ 1000000000) :
    Calls Tryz.prog 72 #[vw, vx, vy] w (Ret (.rat (wsum m (fun i => qw.getD i 0) (fun i => qx.getD i 0) (fun i => qy.getD i 0))) w) := by
  obtain ⟨Aw, cw, rfl, hcw, _, _⟩ := id hw
  obtain ⟨Ax, cx, rfl, hcx, _, _⟩ := id hx
  obtain ⟨Ay, cy, rfl, hcy, _, _⟩ := id hy
  have HW := Lib.hid hw
  have HX := Lib.hid hx
  have HY := Lib.hid hy
  have HT1 : Hid (∀ (i : Nat) (a b : Rat) (va vb : Value) (u : World), qw[i]? = some a → qx[i]? = some b → IsRat u va a → IsRat u vb b → Calls Tryz.prog 97 #[va, vb] u (Ret (.rat (a * b)) u)) := fun i a b va vb u h1 h2 h3 h4 => rtimes_any va vb a b u h3 h4 (z1 a (List.mem_of_getElem? h1)) (z2 b (List.mem_of_getElem? h2)) (by omega)
  have HT2 : Hid (∀ (i : Nat) (a b c : Rat) (va vb : Value) (u : World), qw[i]? = some a → qx[i]? = some b → qy[i]? = some c → IsRat u va (a * b) → IsRat u vb c → Calls Tryz.prog 97 #[va, vb] u (Ret (.rat (a * b * c)) u)) := fun i a b c va vb u h1 h2 h3 h4 h5 => rtimes_any va vb _ _ u h4 h5 ((z1 a (List.mem_of_getElem? h1)).mul (z2 b (List.mem_of_getElem? h2))) (z3 c (List.mem_of_getElem? h3)) (by omega)
  have HP : Hid (∀ (i : Nat) (a b c : Rat) (va vb : Value) (u : World), qw[i]? = some a → qx[i]? = some b → qy[i]? = some c → IsRat u va (wsum i (fun i => qw.getD i 0) (fun i => qx.getD i 0) (fun i => qy.getD i 0)) → IsRat u vb (a * b * c) → Calls Tryz.prog 96 #[va, vb] u (Ret (.rat (wsum (i + 1) (fun i => qw.getD i 0) (fun i => qx.getD i 0) (fun i => qy.getD i 0))) u)) := fun i a b c va vb u h1 h2 h3 h4 h5 => by
    have e : wsum (i + 1) (fun i => qw.getD i 0) (fun i => qx.getD i 0) (fun i => qy.getD i 0) = wsum i (fun i => qw.getD i 0) (fun i => qx.getD i 0) (fun i => qy.getD i 0) + a * b * c := by
      show _ + qw.getD i 0 * qx.getD i 0 * qy.getD i 0 = _
      rw [List.getD_eq_getElem?_getD, List.getD_eq_getElem?_getD, List.getD_eq_getElem?_getD, h1, h2, h3]
      rfl
    rw [e]
    have hi : i < qw.length := (List.getElem?_eq_some_iff.1 h1).1
    have hsz : Sz (wsum i (fun i => qw.getD i 0) (fun i => qx.getD i 0) (fun i => qy.getD i 0)) (1 + i * (s1 + s2 + s3 + 1)) := Sz.rsum fun j hj => by
      have g1 : qw[j]? = some (qw.getD j 0) := by rw [List.getD_eq_getElem?_getD, List.getElem?_eq_getElem (by omega)]; rfl
      have g2 : qx[j]? = some (qx.getD j 0) := by rw [List.getD_eq_getElem?_getD, List.getElem?_eq_getElem (by omega)]; rfl
      have g3 : qy[j]? = some (qy.getD j 0) := by rw [List.getD_eq_getElem?_getD, List.getElem?_eq_getElem (by omega)]; rfl
      exact ((z1 _ (List.mem_of_getElem? g1)).mul (z2 _ (List.mem_of_getElem? g2))).mul (z3 _ (List.mem_of_getElem? g3))
    have hmul : i * (s1 + s2 + s3 + 1) ≤ 1000 * 1000000001 := Nat.mul_le_mul (by omega) (by omega)
    exact rplus_any va vb _ _ u h4 h5 hsz (((z1 a (List.mem_of_getElem? h1)).mul (z2 b (List.mem_of_getElem? h2))).mul (z3 c (List.mem_of_getElem? h3))) (by omega)
  have LW := Lib.hid lw
  have LX := Lib.hid lx
  have LY := Lib.hid ly
  have HF : Hid (∀ u, Calls Tryz.prog 79 #[.int .i64 0] u (Ret (.rat (0 : Rat)) u)) := fun u => ffrom_any 0 u (by omega) (by omega)
  have HM := Lib.hid hm
  rw [lw] at hcw
  rw [lx] at hcx
  rw [ly] at hcy
  simp only [lw, lx, ly]
  obtain ⟨SS, hSS⟩ : ∃ SS : Nat → Rat, SS = fun i => wsum i (fun i => qw.getD i 0) (fun i => qx.getD i 0) (fun i => qy.getD i 0) := ⟨_, rfl⟩
  have hSS' : ∀ i, wsum i (fun i => qw.getD i 0) (fun i => qx.getD i 0) (fun i => qy.getD i 0) = SS i := fun i => by rw [hSS]
  have HS0 : Hid (SS 0 = 0) := by rw [hSS]; rfl
  simp only [hSS'] at HP ⊢
  clear hw hx hy z1 z2 z3 hs lw lx ly hm hSS hSS'
  obtain ⟨w0, hw0⟩ : ∃ w0, w0 = w.alloc (.cells #[.bool false, .slice none 0 0, .slice none 0 0] 111) := ⟨_, rfl⟩
  have E0 : Ext w w0 := hw0 ▸ Ext.alloc _ _
  have hr0 : w0.cell? ⟨w.heap.size, 0, none⟩ = some (.bool false) ∧ w0.cell? ⟨w.heap.size, 1, none⟩ = some (.slice none 0 0) ∧ w0.cell? ⟨w.heap.size, 2, none⟩ = some (.slice none 0 0) ∧ w0.frozen? ⟨w.heap.size, 0, none⟩ = false ∧ w0.frozen? ⟨w.heap.size, 1, none⟩ = false ∧ w0.frozen? ⟨w.heap.size, 2, none⟩ = false := by
    have hb : Blk w0 w.heap.size [.bool false, .slice none 0 0, .slice none 0 0] := hw0 ▸ Blk.new' 111 rfl rfl
    exact ⟨hb.cell 0, hb.cell 1, hb.cell 2, hb.frozen 0, hb.frozen 1, hb.frozen 2⟩
  have HR0 := Lib.hid hr0
  have hsz0 : w0.heap.size = w.heap.size + 1 := by rw [hw0]; simp
  clear hr0
  go_enter Tryz.func72, Tryz.ntmps72
  go_wp2_with fail
  rw [← hw0]
  refine (HF.out _).mono ?_
  rintro e w1 ⟨v1, rfl, hv1, hE1⟩
  have HV1 := Lib.hid hv1
  obtain ⟨m1, d1, rfl, hm1, hd1⟩ := hv1
  obtain ⟨A1, c1, rfl, _⟩ := hm1
  obtain ⟨A2, c2, rfl, _⟩ := hd1
  generalize (mass (0 : Rat).num.natAbs).length = l1 at *
  generalize (mass (0 : Rat).den).length = l2 at *
  generalize decide ((0 : Rat).num < 0) = p1 at *
  have HS1 := Lib.hid (RVar.new HV1.out 111)
  have HE1 := Lib.hid (Ext.trans _ _ _ hE1 (Ext.alloc w1 (.cells #[.bool p1, .slice A1 l1 c1, .slice A2 l2 c2] 111)))
  have hsb : w0.heap.size ≤ w1.heap.size := hE1.size
  clear hE1
  go_wp2_with fail
  obtain ⟨W2, hW2⟩ : ∃ W2, W2 = w1.alloc (.cells #[.bool p1, .slice A1 l1 c1, .slice A2 l2 c2] 111) := ⟨_, rfl⟩
  rw [← hW2] at HS1 HE1 ⊢
  clear hW2
  generalize w1.heap.size = sb at *
  have HSBL := Lib.hid hsb
  go_loopw [12] (fun t wr => ∃ i : Nat, t = .int .i64 (i : Int) ∧ i ≤ m ∧ RVar wr sb (SS i) ∧ Ext w0 wr) (fun t _ => upTo m t)
  case atStart => exact ⟨0, rfl, Nat.zero_le _, by rw [HS0.out]; exact HS1.out, HE1.out⟩
  case round =>
    obtain ⟨i, rfl, hi, hS, hE⟩ := hrel
    obtain ⟨w8, hw8⟩ : ∃ w8, w8 = wr := ⟨_, rfl⟩
    subst hw8
    by_cases hlt : i < m
    · obtain ⟨a, ha⟩ : ∃ a, qw[i]? = some a := ⟨qw[i]'(by have := LW.out; omega), List.getElem?_eq_getElem _⟩
      obtain ⟨b, hb⟩ : ∃ b, qx[i]? = some b := ⟨qx[i]'(by have := LX.out; omega), List.getElem?_eq_getElem _⟩
      obtain ⟨c, hc⟩ : ∃ c, qy[i]? = some c := ⟨qy[i]'(by have := LY.out; omega), List.getElem?_eq_getElem _⟩
      obtain ⟨ba, oa, pa, ma, da, rfl, a1, a2, a3, a4⟩ := IsRats.get HW.out ha
      obtain ⟨bb, ob, pb, mb, db, rfl, b1, b2, b3, b4⟩ := IsRats.get HX.out hb
      obtain ⟨bc, oc, pc, mc, dc, rfl, k1, k2, k3, k4⟩ := IsRats.get HY.out hc
      obtain ⟨ps, ms, ds, s1, s2, s3, s4, f1, f2, f3⟩ := hS.cells
      have EW : Ext w w8 := Ext.trans _ _ _ E0 hE
      have HCE : Hid (∀ u, Ext w8 u → (u.cell? ⟨ba, oa + i * 3, none⟩ = some (.bool pa) ∧ u.cell? ⟨ba, oa + i * 3 + 1, none⟩ = some ma ∧ u.cell? ⟨ba, oa + i * 3 + 2, none⟩ = some da) ∧ (u.cell? ⟨bb, ob + i * 3, none⟩ = some (.bool pb) ∧ u.cell? ⟨bb, ob + i * 3 + 1, none⟩ = some mb ∧ u.cell? ⟨bb, ob + i * 3 + 2, none⟩ = some db) ∧ (u.cell? ⟨bc, oc + i * 3, none⟩ = some (.bool pc) ∧ u.cell? ⟨bc, oc + i * 3 + 1, none⟩ = some mc ∧ u.cell? ⟨bc, oc + i * 3 + 2, none⟩ = some dc) ∧ u.cell? ⟨sb, 0, none⟩ = some (.bool ps) ∧ u.cell? ⟨sb, 1, none⟩ = some ms ∧ u.cell? ⟨sb, 2, none⟩ = some ds) := fun u hu => by
        have eu := Ext.trans _ _ _ EW hu
        exact ⟨⟨eu.cell a1, eu.cell a2, eu.cell a3⟩, ⟨eu.cell b1, eu.cell b2, eu.cell b3⟩, ⟨eu.cell k1, eu.cell k2, eu.cell k3⟩, hu.cell s1, hu.cell s2, hu.cell s3⟩
      have HT1' : Hid (∀ u, Ext w8 u → Calls Tryz.prog 97 #[.agg #[.bool pa, ma, da], .agg #[.bool pb, mb, db]] u (Ret (.rat (a * b)) u)) := fun u hu => HT1.out i a b _ _ u ha hb (a4.mono (Ext.trans _ _ _ EW hu)) (b4.mono (Ext.trans _ _ _ EW hu))
      have HT2' : Hid (∀ v u, Ext w8 u → IsRat u v (a * b) → Calls Tryz.prog 97 #[v, .agg #[.bool pc, mc, dc]] u (Ret (.rat (a * b * c)) u)) := fun v u hu hv => HT2.out i a b c _ _ u ha hb hc hv (k4.mono (Ext.trans _ _ _ EW hu))
      have HP' : Hid (∀ v u, Ext w8 u → IsRat u v (a * b * c) → Calls Tryz.prog 96 #[.agg #[.bool ps, ms, ds], v] u (Ret (.rat (SS (i + 1))) u)) := fun v u hu hv => HP.out i a b c _ _ u ha hb hc (s4.mono hu) hv
      have HWI : Hid (wrap64 ((i : Int) + 1) = ((i + 1 : Nat) : Int)) := by
        have := HM.out
        show wrap64 ((i : Int) + 1) = ((i + 1 : Nat) : Int)
        rw [IntWalk.wrap64_in _ (by omega)]
        omega
      have i1 : i < cw := by omega
      have i2 : i < cx := by omega
      have i3 : i < cy := by omega
      have hS' := Lib.hid hS
      have HE8 := Lib.hid hE
      have ALL := Lib.hid (And.intro a4 (And.intro b4 (And.intro k4 s4)))
      obtain ⟨A3, q3, hma, _⟩ := a4.parts.2.1
      obtain ⟨A4, q4, hda, _⟩ := a4.parts.2.2
      obtain ⟨A5, q5, hmb, _⟩ := b4.parts.2.1
      obtain ⟨A6, q6, hdb, _⟩ := b4.parts.2.2
      obtain ⟨A7, q7, hmc, _⟩ := k4.parts.2.1
      obtain ⟨A8, q8, hdc, _⟩ := k4.parts.2.2
      obtain ⟨A9, q9, hms, _⟩ := s4.parts.2.1
      obtain ⟨A0, q0, hds, _⟩ := s4.parts.2.2
      subst hma hda hmb hdb hmc hdc hms hds
      generalize (mass a.num.natAbs).length = l3 at *
      generalize (mass a.den).length = l4 at *
      generalize (mass b.num.natAbs).length = l5 at *
      generalize (mass b.den).length = l6 at *
      generalize (mass c.num.natAbs).length = l7 at *
      generalize (mass c.den).length = l8 at *
      generalize (mass (SS i).num.natAbs).length = l9 at *
      generalize (mass (SS i).den).length = l0 at *
      clear a1 a2 a3 a4 b1 b2 b3 b4 k1 k2 k3 k4 s1 s2 s3 s4 hS hE ALL HT1 HT2 HP ha hb hc EW
      go_wp2_with fail
      refine ro_region 16 [none, none, none, none, none, none, none, none, none, some (.rat (a * b)), none, none, none, none, some (.rat (a * b * c)), some (.rat (SS (i + 1)))] (by kernel_rfl) (by kernel_rfl) ?_
      go_simp
      repeat (apply ro_quiet rfl; (intro u hE _; have hX := HCE.out u (Ext.trans _ _ _ (Ext.drew _) hE); go_simp; exact rfl); go_simp)
      apply ro_call rfl (fun w => by go_simp; exact ⟨rfl, rfl⟩)
      · intro u hE hd
        exact HT1'.out u (Ext.trans _ _ _ (Ext.drew _) hE)
      intro v24
      go_simp
      repeat (apply ro_quiet rfl; (intro u hE _; have hX := HCE.out u (Ext.trans _ _ _ (Ext.drew _) hE); go_simp; exact rfl); go_simp)
      apply ro_call rfl (fun w => by go_simp; exact ⟨rfl, rfl⟩)
      · intro u hE hd
        simp [depsHold, Region.binds] at hd
        exact HT2'.out v24 u (Ext.trans _ _ _ (Ext.drew _) hE) hd
      intro v29
      go_simp
      apply ro_call rfl (fun w => by go_simp; exact ⟨rfl, rfl⟩)
      · intro u hE hd
        simp [depsHold, Region.binds] at hd
        exact HP'.out v29 u (Ext.trans _ _ _ (Ext.drew _) hE) hd
      intro v30
      go_simp
      refine ro_done (fun u hE hf => ?_)
      simp [-List.cons_append] at hf
      obtain ⟨_, _, hv⟩ := hf
      have EU : Ext w8 u := Ext.trans _ _ _ (Ext.drew _) hE
      have HV := Lib.hid hv
      obtain ⟨m9, d9, rfl, hm9, hd9⟩ := hv
      have hSu := hS'.out.ext EU
      obtain ⟨z0, z1, z2, y1, y2, y3, _, g1, g2, g3⟩ := hSu.cells
      have HSET := Lib.hid (hSu.set HV.out)
      have HEU := Lib.hid (Ext.set3 (Ext.trans _ _ _ HE8.out EU) HSBL.out (.bool (decide ((SS (i + 1)).num < 0))) m9 d9)
      obtain ⟨B5, r5, rfl, _⟩ := hm9
      obtain ⟨B6, r6, rfl, _⟩ := hd9
      generalize (mass (SS (i + 1)).num.natAbs).length = n5 at *
      generalize (mass (SS (i + 1)).den).length = n6 at *
      generalize decide ((SS (i + 1)).num < 0) = p5 at *
      clear hSu EU hE HT1' HT2' HP' HCE
      simp only [List.drop_succ_cons, List.drop_zero]
      go_wp2_with fail
      go_roundw
      case rel => exact ⟨i + 1, by rw [HWI.out], hlt, HSET.out, HEU.out⟩
      case measure =>
        rw [HWI.out]
        exact upTo_lt hlt
    · have hin : i = m := by omega
      subst hin
      obtain ⟨ps, ms, ds, s1, s2, s3, s4, f1, f2, f3⟩ := hS.cells
      have H4 := Lib.hid s4
      obtain ⟨hps, hms, hds⟩ := s4.parts
      clear hps
      obtain ⟨A9, q9, rfl, _⟩ := hms
      obtain ⟨A0, q0, rfl, _⟩ := hds
      generalize (mass (SS i).num.natAbs).length = l9 at *
      generalize (mass (SS i).den).length = l0 at *
      obtain ⟨r1, r2, r3, g1, g2, g3⟩ := HR0.out
      have t1 := hE.cell r1
      have t2 := hE.cell r2
      have t3 := hE.cell r3
      have g4 : w8.frozen? ⟨w.heap.size, 0, none⟩ = false := (hE.old.2 w.heap.size 0 (by omega)).trans g1
      have g5 : w8.frozen? ⟨w.heap.size, 1, none⟩ = false := (hE.old.2 w.heap.size 1 (by omega)).trans g2
      have g6 : w8.frozen? ⟨w.heap.size, 2, none⟩ = false := (hE.old.2 w.heap.size 2 (by omega)).trans g3
      clear r1 r2 r3 g1 g2 g3
      obtain ⟨e0, e1, e2⟩ := stored3 t1 t2 t3 (.bool ps) (.slice A9 l9 q9) (.slice A0 l0 q0)
      go_wp2
      refine bodyPost_ret (v := .agg #[.bool ps, .slice A9 l9 q9, .slice A0 l0 q0]) (by simp [results, Tryz.results72, go_sem, e0, e1, e2]) rfl ⟨_, rfl, ?_, ?_⟩
      · exact IsRat.stored H4.out t1 t2 t3 (notInt_bool _) (notInt_slice _ _ _) (notInt_slice _ _ _) _ _ _
      · exact Ext.set3 (Ext.trans _ _ _ E0 hE) (Nat.le_refl _) _ _ _
end Go.Proofs.Xx
end
section
namespace Go.Proofs.Xx
open Go.RowKit Go.V Go.Grow Lin

set_option maxHeartbeats 4000000 in
set_option maxRecDepth 100000 in
theorem mappedVR_any (g : Nat) (lb : Array Value) (eg : ∀ args w, (callFunc g args).run Tryz.prog w = .ok (.enter g args) w) (vl : Value) (n : Nat) (us : Nat → Value) (zs : Nat → Rat) (w : World) (hl : IsL w vl n us) (hlen : n ≤ 1099511627776)
    (hf : ∀ (i : Nat) (w' : World), i < n → Ext w w' → Calls Tryz.prog g (#[us i] ++ lb) w' (Ret (.rat (zs i)) w')) :
    Calls Tryz.prog 70 #[vl, .func (.func g) #[] lb] w fun e w' => e = .returned (.slice (some ⟨w.heap.size, 0, none⟩) n n) ∧ RRow w' w.heap.size n (fun _ => True) zs ∧ Ext w w' := by
  obtain ⟨A, c, rfl, hc, hmx, _⟩ := id hl
  have hmk := make_rats 82 Tryz.underlying82 n hlen
  have E1 : Ext w (w.alloc (.cells (ratCells (List.replicate n (false, .slice none 0 0, .slice none 0 0))).toArray 111)) := Ext.alloc _ _
  have R1 := RRow.fresh w n 111 zs
  have HL := Lib.hid hl
  have HF := Lib.hid hf
  have HC := Lib.hid hc
  have HN := Lib.hid hlen
  clear hl hf hmx hlen
  go_enter Tryz.func70, Tryz.ntmps70
  go_wp2_with fail
  have HR1 := Lib.hid R1
  have HE1 := Lib.hid E1
  clear hmk R1 E1
  generalize w.alloc (.cells (ratCells (List.replicate n (false, .slice none 0 0, .slice none 0 0))).toArray 111) = W1 at *
  generalize hgs : w.heap.size = gb at *
  have HGS := Lib.hid hgs
  clear hgs
  go_loopw [13] (fun t wr => ∃ i : Nat, t = .int .i64 (i : Int) ∧ i ≤ n ∧ RRow wr gb n (fun j => j < i) zs ∧ Ext w wr) (fun t _ => upTo n t)
  case atStart =>
    refine ⟨0, rfl, Nat.zero_le _, ?_, HE1.out⟩
    obtain ⟨vs, k1, k2, k3, _⟩ := HR1.out
    exact ⟨vs, k1, k2, k3, fun j p hp h => by omega⟩
  case round =>
    obtain ⟨i, rfl, hi, hR, hE⟩ := hrel
    by_cases hlt : i < n
    · obtain ⟨b, o, rfl, k1⟩ := IsL.get HL.out hlt
      have q1 := hE.cell k1
      have HCF := Lib.hid (HF.out i wr hlt hE)
      have HRR := Lib.hid hR
      have HEA := Lib.hid hE
      have HWI : Hid (wrap64 ((i : Int) + 1) = ((i + 1 : Nat) : Int)) := by
        have := HN.out
        show wrap64 ((i : Int) + 1) = ((i + 1 : Nat) : Int)
        rw [IntWalk.wrap64_in _ (by omega)]
        omega
      have hicap : i < c := by have := HC.out; omega
      clear hR hE k1
      go_wp2_with fail
      refine HCF.out.mono ?_
      rintro e w3 ⟨v, rfl, hv, hE3⟩
      have hR3 := HRR.out.ext hE3
      obtain ⟨x0, x1', x2', y1, y2, y3, _, _, _, y4, y5, y6⟩ := hR3.cells hlt
      have HV := Lib.hid hv
      obtain ⟨mm, dd, rfl, hmm, hdd⟩ := hv
      have HNS := Lib.hid (hR3.set hlt HV.out).1
      have hgl : w.heap.size ≤ gb := Nat.le_of_eq HGS.out
      have HES := Lib.hid ((((Ext.trans _ _ _ HEA.out hE3).set (p := ⟨gb, i * 3, none⟩) hgl (.bool (decide ((zs i).num < 0)))).set (p := ⟨gb, i * 3 + 1, none⟩) hgl mm).set (p := ⟨gb, i * 3 + 2, none⟩) hgl dd)
      obtain ⟨A5, c5, rfl, _⟩ := hmm
      obtain ⟨A6, c6, rfl, _⟩ := hdd
      generalize (mass (zs i).num.natAbs).length = l5 at *
      generalize (mass (zs i).den).length = l6 at *
      generalize decide ((zs i).num < 0) = p5 at *
      clear hR3 hE3
      go_wp2_with fail
      go_roundw
      case rel =>
        refine ⟨i + 1, by rw [HWI.out], hlt, ?_, HES.out⟩
        obtain ⟨vs, k1, k2, k3, k4⟩ := HNS.out
        refine ⟨vs, k1, k2, k3, fun j p hp hj => ?_⟩
        have := k4 j p hp (by
          show j = i ∨ j < i
          have hj' : j < i + 1 := hj
          omega)
        have e : (if j = i then zs i else zs j) = zs j := by split <;> simp_all
        rwa [show (fun c => if c = i then zs i else zs c) j = zs j from e] at this
      case measure =>
        rw [HWI.out]
        exact upTo_lt hlt
    · have HRR : Hid (RRow wr gb n (fun _ => True) zs) := by
        obtain ⟨vs, k1, k2, k3, k4⟩ := hR
        refine ⟨vs, k1, k2, k3, fun j p hp _ => k4 j p hp ?_⟩
        have hj := (List.getElem?_eq_some_iff.1 hp).1
        show j < i
        omega
      have HEE := Lib.hid hE
      clear hR hE
      go_wp2
      go_ret
      have hgb := HGS.out
      subst hgb
      exact ⟨rfl, HRR.out, HEE.out⟩
end Go.Proofs.Xx
end
section
namespace Go.Proofs.Xx
open Go.RowKit Go.V Go.Grow Lin Go.Txt

def Sing (n : Nat) (a : Nat → Nat → Rat) : Prop := (runR n a n).steps.length < n
instance (n : Nat) (a : Nat → Nat → Rat) : Decidable (Sing n a) := by unfold Sing; infer_instance
def solE (n : Nat) (a : Nat → Nat → Rat) : Int := if Sing n a then 7 else 0
def solX (n : Nat) (a : Nat → Nat → Rat) : List Rat := if Sing n a then [] else (List.range n).map fun i => (runR n a n).R i n
theorem solC_eq (n : Nat) (a : Nat → Nat → Rat) : solC n a = if solE n a = 0 then toldC (solX n a) else ([], solE n a) := by
  unfold solC solE solX
  by_cases h : Sing n a
  · rw [if_pos (show (runR n a n).steps.length < n from h), if_pos h, if_neg (by decide)]
  · rw [if_neg (show ¬ (runR n a n).steps.length < n from h), if_neg h, if_neg h, if_pos rfl]
def _root_.Go.V.Fact.rats (qs : List Rat) : Fact := ⟨fun v w => IsRats w v qs, fun _ _ _ hE h => h.mono hE⟩
/-- A pair: a list of ratios, and a number. -/
def _root_.Go.V.Fact.ratsE (qs : List Rat) (c : Int) : Fact := ⟨fun v w => ∃ l, v = .tuple #[l, .int .i64 c] ∧ IsRats w l qs ∧ ∀ q ∈ qs, Sz q 1000000000000, fun _ _ _ hE ⟨l, h1, h2, h3⟩ => ⟨l, h1, h2.mono hE, h3⟩⟩
def _root_.Go.V.Fact.ratsS (qs : List Rat) : Fact := ⟨fun v w => IsRats w v qs ∧ ∀ q ∈ qs, Sz q 1000000000000, fun _ _ _ hE h => ⟨h.1.mono hE, h.2⟩⟩
/-- Rows of ratios. -/
def _root_.Go.V.Fact.rowsQ (n : Nat) (qa : Nat → List Rat) : Fact := ⟨fun v w => ∃ us, IsL w v n us ∧ ∀ i, i < n → IsRats w (us i) (qa i), fun _ _ _ hE ⟨us, h1, h2⟩ => ⟨us, h1.mono hE, fun i hi => (h2 i hi).mono hE⟩⟩
theorem XB_le {s k : Nat} (hs : s ≤ 50000) (hk : k ≤ 9) : XB ((12 * s + 2) * 1024) k ≤ 1000000000000 := by
  unfold XB
  have h1 : 2 ^ k ≤ 512 := Nat.le_trans (Nat.pow_le_pow_right (by omega) hk) (by decide)
  have h2 : (3 * 2 ^ k - 1) * ((12 * s + 2) * 1024 + 1) ≤ 1536 * 614402049 := Nat.mul_le_mul (by omega) (by omega)
  omega
/-- least.solve, what it answers as a list and an error. -/
theorem solve_any (va vb : Value) (n : Nat) (us : Nat → Value) (qa : Nat → List Rat) (qb : List Rat) (w : World) (hL : IsL w va n us) (hR : ∀ i, i < n → IsRats w (us i) (qa i) ∧ (qa i).length = n) (hb : IsRats w vb qb) (hbl : qb.length = n) (hn : 0 < n) (hn10 : n ≤ 10)
    (s : Nat) (hsz : ∀ i, i < n → ∀ q ∈ augQ qa qb i, Sz q s) (hs : s ≤ 50000) :
    Calls Tryz.prog 59 #[va, vb] w (Ret (.ratsE (solX n (augA qa qb)) (solE n (augA qa qb))) w) := by
  refine (solve0_any va vb n us qa qb w hL hR hb hbl hn hn10 s hsz (by omega)).mono ?_
  rintro e w' ⟨h, hE⟩
  obtain ⟨k1, k2⟩ := solved_eq hn qa qb
  unfold solX solE
  rcases h with ⟨h1, rfl⟩ | ⟨h1, xb, x, rfl, h2, h3, h4⟩
  · have hS : Sing n (augA qa qb) := k1.1 h1
    rw [if_pos hS, if_pos hS]
    exact ⟨_, rfl, ⟨_, rfl, ⟨none, 0, rfl, Nat.le_refl _, Nat.zero_le _, .inl rfl⟩, fun q hq => by simp at hq⟩, hE⟩
  · have hS : ¬ Sing n (augA qa qb) := fun h => h1 (k1.2 h)
    rw [if_neg hS, if_neg hS]
    have hx := k2 h1 x h4
    have e : (List.range n).map (fun i => (runR n (augA qa qb) n).R i n) = (List.range n).map x := List.map_congr_left fun i hi => (hx i (List.mem_range.1 hi)).symm
    rw [e]
    refine ⟨_, rfl, ⟨_, rfl, h2.rats (fun _ _ => trivial) (Nat.le_refl _) (by unfold maxLen; omega), fun q hq => ?_⟩, hE⟩
    obtain ⟨i, hi, rfl⟩ := List.mem_map.1 hq
    exact (h3 i (List.mem_range.1 hi)).mono (XB_le hs (by omega))
end Go.Proofs.Xx
end
section
namespace Go.Proofs.Xx
open Go.RowKit Go.V Go.Grow Lin Go.Txt

theorem _root_.Go.V.Ext.drewN (w : World) (n : Nat) : Ext w (w.drewN n) := ⟨rfl, rfl, rfl, Nat.le_refl _, fun _ _ => rfl⟩
set_option maxHeartbeats 2000000 in
set_option maxRecDepth 100000 in
theorem solve1_any (g1 g2 ba oa n c n0 c0 m cb : Nat) (A0 Ab : Option Addr) (u : World) (h1 : u.cell? ⟨g1, 0, none⟩ = some (.slice (some ⟨ba, oa, none⟩) n c)) (h2 : u.cell? ⟨g2, 0, none⟩ = some (.slice Ab m cb)) (h3 : u.cell? ⟨ba, oa, none⟩ = some (.slice A0 n0 c0)) (hn : 0 < n) :
    Calls Tryz.prog 58 #[.pointer (some ⟨g1, 0, none⟩), .pointer (some ⟨g2, 0, none⟩)] u fun e u' => e = .returned (.bool (decide (n = n0) && decide (m = n))) ∧ Ext u u' := by
  have hn' : (0 : Int) < n := by omega
  by_cases k1 : n = n0
  · subst k1
    by_cases k2 : m = n
    · subst k2
      have d1 : ((m : Int) == (m : Int)) = true := beq_self_eq_true _
      simp only [decide_true, Bool.and_true]
      go_enter Tryz.func58, Tryz.ntmps58
      go_wp2_with fail
      go_quiet (fail)
      go_wp2
      go_ret
      exact ⟨rfl, Ext.drewN _ _⟩
    · have d1 : ((m : Int) == (n : Int)) = false := beq_eq_false_iff_ne.2 (by omega)
      simp only [decide_true, Bool.true_and, decide_eq_false k2]
      go_enter Tryz.func58, Tryz.ntmps58
      go_wp2_with fail
      go_quiet (fail)
      go_wp2
      go_ret
      exact ⟨rfl, Ext.drewN _ _⟩
  · have d1 : ((n : Int) == (n0 : Int)) = false := beq_eq_false_iff_ne.2 (by omega)
    simp only [decide_eq_false k1, Bool.false_and]
    go_enter Tryz.func58, Tryz.ntmps58
    go_wp2_with fail
    go_quiet (fail)
    go_wp2
    go_ret
    exact ⟨rfl, Ext.drewN _ _⟩
end Go.Proofs.Xx
end
section
namespace Go.Proofs.Xx
open Go.RowKit Go.V Go.Grow Lin Go.Txt

theorem range_map_frQ (l : List Fr) : (List.range l.length).map (fun i => frQ (l.getD i default)) = l.map frQ := by
  apply List.ext_getElem?
  intro i
  by_cases hi : i < l.length
  · rw [List.getElem?_map, List.getElem?_map, List.getElem?_range hi, List.getElem?_eq_getElem hi]
    simp [List.getD_eq_getElem?_getD, List.getElem?_eq_getElem hi]
  · rw [List.getElem?_eq_none (by simpa using hi), List.getElem?_eq_none (by simpa using hi)]
theorem okT_row {t : List (List Fr)} (h : okT t = true) {i : Nat} (hi : i < t.length) : ∃ l, t[i]? = some l ∧ t.getD i [] = l ∧ l.length = (t.headD []).length ∧ l.all okFr = true := by
  have hg := List.getElem?_eq_getElem hi
  have := (okT_parts h).2.2.2.2 _ (List.mem_of_getElem? hg)
  exact ⟨_, hg, by rw [List.getD_eq_getElem?_getD, hg]; rfl, this⟩
/-- The rows of a table, read. -/
theorem rows_read (va : Value) (t : List (List Fr)) (w : World) (ht : IsTab w va t) (hok : okT t = true) :
    Calls Tryz.prog 60 #[va, .func (.func 53) #[] #[]] w (Ret (.rowsQ t.length (tabR t)) w) := by
  obtain ⟨us, hL, hus⟩ := IsTab.isL ht
  obtain ⟨p1, p2, p3, p4, p5⟩ := okT_parts hok
  refine (mappedTV_any 53 #[] (enters_of Tryz.func53 (by kernel_rfl) rfl) va t.length us (fun i => (t.getD i []).length) (fun i r w => RRow w r (t.getD i []).length (fun _ => True) (fun j => frQ ((t.getD i []).getD j default))) w hL (by omega) (fun j q a b h h1 h2 => h.keep h1 h2) (fun i w2 hi hE2 => ?_)).mono ?_
  · obtain ⟨l, g1, g2, g3, g4⟩ := okT_row hok hi
    have := lread_any (us i) l w2 ((hus i l g1).mono hE2) (by omega) g4
    rw [g2]
    refine this.mono ?_
    rintro e w3 ⟨rfl, h1, _, h3⟩
    exact ⟨_, rfl, Nat.le_refl _, h1.lt, h1, h3⟩
  · rintro e w' ⟨rb, rfl, hM⟩
    refine ⟨_, rfl, ⟨fun i => .slice (some ⟨rb i, 0, none⟩) (t.getD i []).length (t.getD i []).length, ⟨_, _, rfl, Nat.le_refl _, by unfold maxLen; omega, .inr ⟨w.heap.size, 0, rfl, fun i hi => ?_⟩⟩, fun i hi => ?_⟩, hM.ext⟩
    · obtain ⟨cs, hb, hl, _, hc⟩ := hM.blk
      rw [Nat.zero_add, hb.cell]
      exact hc i hi
    · obtain ⟨l, g1, g2, g3, g4⟩ := okT_row hok hi
      have h1 := hM.p i hi
      rw [g2] at h1
      show IsRats w' (.slice (some ⟨rb i, 0, none⟩) (t.getD i []).length (t.getD i []).length) (tabR t i)
      rw [g2]
      have h2 := h1.rats (c := l.length) (fun _ _ => trivial) (Nat.le_refl _) (by unfold maxLen; omega)
      rw [range_map_frQ] at h2
      unfold tabR
      rw [g2]
      exact h2
theorem if_two (p q : Prop) [Decidable p] [Decidable q] (X : List Fr × Int) : (if ¬ (p ∧ q) then ([], 2) else X) = if (if (decide p && decide q) = false then (2 : Int) else 0) = 0 then X else ([], if (decide p && decide q) = false then 2 else 0) := by
  by_cases h1 : p <;> by_cases h2 : q <;> simp [h1, h2]
theorem solveC_eq (t : List (List Fr)) (b : List Fr) : solveC t b = if fitsE t [b] (decide (t.length = (t.headD []).length) && decide (b.length = t.length)) = 0 then solC t.length (augA (tabR t) (b.map frQ)) else ([], fitsE t [b] (decide (t.length = (t.headD []).length) && decide (b.length = t.length))) := by
  unfold solveC fitsE
  cases okT t
  · rfl
  · simp only [Bool.true_eq_false, if_false, List.any_cons, List.any_nil, Bool.or_false]
    cases badL b
    · simp only [Bool.false_eq_true, if_false]
      exact if_two _ _ _
    · rfl
theorem fitsE_ok {t : List (List Fr)} {ls : List (List Fr)} {r : Bool} (h : fitsE t ls r = 0) : okT t = true ∧ ls.any badL = false ∧ r = true := by
  unfold fitsE at h
  split at h
  · omega
  · split at h
    · omega
    · split at h
      · omega
      · rename_i h1 h2 h3
        exact ⟨by simpa using h1, by simpa using h2, by simpa using h3⟩
theorem badL_ok {l : List Fr} (h : badL l = false) : l.all okFr = true := by
  unfold badL at h
  rw [List.any_eq_false] at h
  exact List.all_eq_true.2 fun x hx => by simpa using h x hx
end Go.Proofs.Xx
end
section
namespace Go.Proofs.Xx
open Go.RowKit Go.V Go.Grow Lin Go.Txt

theorem _root_.Go.V.IsFracs.slice {w : World} {v : Value} {l : List Fr} (h : IsFracs w v l) : ∃ A c, v = .slice A l.length c ∧ l.length ≤ c := by
  obtain ⟨A, c, h1, h2, _⟩ := h
  exact ⟨A, c, h1, h2⟩
theorem _root_.Go.V.IsTab.slice {w : World} {v : Value} {t : List (List Fr)} (h : IsTab w v t) : ∃ A c, v = .slice A t.length c ∧ t.length ≤ c := by
  obtain ⟨A, c, h1, h2, _⟩ := h
  exact ⟨A, c, h1, h2⟩
/-- A new slice of slices. -/
theorem _root_.Go.V.IsTab.one {w : World} {g : Nat} {v1 : Value} {l1 : List Fr} (hb : Blk w g [v1]) (h1 : IsFracs w v1 l1) : IsTab w (.slice (some ⟨g, 0, none⟩) 1 1) [l1] := by
  refine ⟨_, _, rfl, Nat.le_refl _, by decide, .inr ⟨g, 0, rfl, fun i l hl => ?_⟩⟩
  match i, hl with
  | 0, hl => cases hl; exact ⟨v1, hb.cell 0, h1⟩
theorem _root_.Go.V.IsTab.first {w : World} {A : Option Addr} {n c : Nat} {t : List (List Fr)} (h : IsTab w (.slice A n c) t) (ht : 0 < t.length) : ∃ b o u A0 c0, A = some ⟨b, o, none⟩ ∧ w.cell? ⟨b, o, none⟩ = some u ∧ u = .slice A0 (t.headD []).length c0 ∧ (t.headD []).length ≤ c0 ∧ IsFracs w u (t.headD []) := by
  cases t with
  | nil => simp at ht
  | cons l0 tl =>
    obtain ⟨b, o, u, h1, h2, h3⟩ := IsTab.get h (show (l0 :: tl)[0]? = some l0 from rfl)
    obtain ⟨A0, c0, h4, h5⟩ := h3.slice
    exact ⟨b, o, u, A0, c0, h1, h2, h4, h5, h3⟩

set_option maxHeartbeats 4000000 in
set_option maxRecDepth 100000 in
theorem lsolve_any (va vb : Value) (t : List (List Fr)) (b : List Fr) (w : World) (ht : IsTab w va t) (hb : IsFracs w vb b) (htab : Tab w) :
    Calls Tryz.prog 18 #[va, vb] w fun e w' => ∃ v, e = .returned (.tuple #[v, .int .i64 (solveC t b).2]) ∧ IsFracs w' v (solveC t b).1 ∧ Ext w w' := by
  obtain ⟨A, c, rfl, hc⟩ := ht.slice
  obtain ⟨Ab, cb, rfl, hcb⟩ := hb.slice
  obtain ⟨W0, hW0⟩ : ∃ W0, W0 = ((w.alloc (.cells #[.slice A t.length c] 22)).alloc (.cells #[.slice Ab b.length cb] 23)) := ⟨_, rfl⟩
  have E0 : Ext w W0 := by rw [hW0]; exact Ext.trans _ _ _ (Ext.alloc _ _) (Ext.alloc _ _)
  have hs0 : W0.heap.size = w.heap.size + 2 := by rw [hW0]; simp
  have hb1 : Blk W0 w.heap.size [.slice A t.length c] := by
    rw [hW0]
    exact (Blk.new' 22 rfl rfl).ext (Ext.alloc _ _)
  have hb2 : Blk W0 (w.heap.size + 1) [.slice Ab b.length cb] := by
    rw [hW0]
    exact Blk.new' 23 (by simp) rfl
  have EB : Ext W0 (W0.alloc (.cells #[.slice Ab b.length cb] 23)) := Ext.alloc _ _
  have hb3 : Blk (W0.alloc (.cells #[.slice Ab b.length cb] 23)) (w.heap.size + 2) [.slice Ab b.length cb] := Blk.new' 23 hs0 rfl
  have E1 := Ext.trans _ _ _ E0 EB
  obtain ⟨r, hr⟩ : ∃ r, r = (decide (t.length = (t.headD []).length) && decide (b.length = t.length)) := ⟨_, rfl⟩
  have HF := Lib.hid (lfits_any (.slice A t.length c) (.slice (some ⟨w.heap.size + 2, 0, none⟩) 1 1) t [b] 58 #[.pointer (some ⟨w.heap.size, 0, none⟩), .pointer (some ⟨w.heap.size + 1, 0, none⟩)] r _ (ht.mono E1) (IsTab.one hb3 (hb.mono E1)) (htab.mono E1) (enters_of Tryz.func58 (by kernel_rfl) rfl) (fun w' hok _ hE => by
    obtain ⟨p1, p2, p3, p4, p5⟩ := okT_parts hok
    obtain ⟨bA, oA, u, A0, c0, h1, h2, h3, h4, _⟩ := IsTab.first ht (by omega)
    subst h1 h3
    rw [hr]
    exact solve1_any w.heap.size (w.heap.size + 1) bA oA t.length c (t.headD []).length c0 b.length cb A0 Ab w' (hE.cell (EB.cell (hb1.cell 0))) (hE.cell (EB.cell (hb2.cell 0))) ((Ext.trans _ _ _ E1 hE).cell h2) (by omega)))
  have hC := solveC_eq t b
  rw [← hr] at hC
  have HOK : Hid (fitsE t [b] r = 0 → okT t = true ∧ b.all okFr = true ∧ t.length = (t.headD []).length ∧ b.length = t.length) := fun h => by
    obtain ⟨k1, k2, k3⟩ := fitsE_ok h
    rw [hr] at k3
    simp only [Bool.and_eq_true, decide_eq_true_eq] at k3
    exact ⟨k1, badL_ok (by simpa using k2), k3.1, k3.2⟩
  generalize fitsE t [b] r = f at *
  by_cases hf : f = 0
  · subst hf
    rw [if_pos rfl] at hC
    obtain ⟨k1, k2, k3, k4⟩ := HOK.out rfl
    obtain ⟨p1, p2, p3, p4, p5⟩ := okT_parts k1
    have HRR : Hid (∀ u, Ext W0 u → Calls Tryz.prog 60 #[.slice A t.length c, .func (.func 53) #[] #[]] u (Ret (.rowsQ t.length (tabR t)) u)) := fun u hE => rows_read _ t u (ht.mono (Ext.trans _ _ _ E0 hE)) k1
    have HRB : Hid (∀ u, Ext W0 u → Calls Tryz.prog 53 #[.slice Ab b.length cb] u (Ret (.rats (b.map frQ)) u)) := fun u hE => (lread_any _ b u (hb.mono (Ext.trans _ _ _ E0 hE)) (by omega) k2).mono (by
      rintro e u' ⟨rfl, _, h2, h3⟩
      exact ⟨_, rfl, h2, h3⟩)
    obtain ⟨a, ha⟩ : ∃ a, a = augA (tabR t) (b.map frQ) := ⟨_, rfl⟩
    rw [← ha] at hC
    have HSV : Hid (∀ v1 v2 u, (Fact.rowsQ t.length (tabR t)).S v1 u → IsRats u v2 (b.map frQ) → Calls Tryz.prog 59 #[v1, v2] u (Ret (.ratsE (solX t.length a) (solE t.length a)) u)) := fun v1 v2 u h1 h2 => by
      obtain ⟨us, hL, hR⟩ := h1
      rw [ha]
      refine solve_any v1 v2 t.length us (tabR t) (b.map frQ) u hL (fun i hi => ⟨hR i hi, ?_⟩) h2 (by rw [List.length_map]; exact k4) (by omega) (by omega) 34 (fun i hi q hq => ?_) (by omega)
      · obtain ⟨l, g1, g2, g3, g4⟩ := okT_row k1 hi
        unfold tabR
        rw [g2, List.length_map, g3, k3]
      · unfold augQ at hq
        rcases List.mem_append.1 hq with h | h
        · obtain ⟨l, g1, g2, g3, g4⟩ := okT_row k1 hi
          unfold tabR at h
          rw [g2] at h
          obtain ⟨x, hx, rfl⟩ := List.mem_map.1 h
          exact okFr_sz34 (List.all_eq_true.1 g4 x hx)
        · rw [List.mem_singleton] at h
          subst h
          rw [List.getD_eq_getElem?_getD, List.getElem?_eq_getElem (by rw [List.length_map, k4]; exact hi), Option.getD_some, List.getElem_map]
          exact okFr_sz34 (List.all_eq_true.1 k2 _ (List.getElem_mem _))
    have HTD : Hid (∀ v u, Ext W0 u → IsRats u v (solX t.length a) → (∀ q ∈ solX t.length a, Sz q 1000000000000) → Calls Tryz.prog 61 #[v] u fun e w' => ∃ v', e = .returned (.tuple #[v', .int .i64 (toldC (solX t.length a)).2]) ∧ IsFracs w' v' (toldC (solX t.length a)).1 ∧ Ext u w') := fun v u hE h1 h2 => told_list v _ u h1 (htab.mono (Ext.trans _ _ _ E0 hE)) (by
      unfold solX
      split
      · simp
      · simp; omega) h2
    have hC2 := solC_eq t.length a
    have HCC : Hid (solE t.length a = 0 → solveC t b = toldC (solX t.length a)) := fun h => by rw [hC, hC2, if_pos h]
    have HCN : Hid (¬ solE t.length a = 0 → solveC t b = ([], solE t.length a)) := fun h => by rw [hC, hC2, if_neg h]
    clear hC2
    have HG : Hid (∀ u, Ext W0 u → (u.cell? ⟨w.heap.size, 0, none⟩ = some (.slice A t.length c)) ∧ u.cell? ⟨w.heap.size + 1, 0, none⟩ = some (.slice Ab b.length cb)) := fun u hE => ⟨hE.cell (hb1.cell 0), hE.cell (hb2.cell 0)⟩
    have hg0 := HG.out W0 (Ext.refl _)
    have HE0 := Lib.hid E0
    have HEB := Lib.hid EB
    clear hb1 hb2 hb3 E0 E1 EB HOK hC hr k1 k2 k3 k4 p1 p2 p3 p4 p5 ht hb htab ha
    go_enter Tryz.func18, Tryz.ntmps18
    go_wp2_with fail
    rw [← hW0]
    refine HF.out.mono ?_
    rintro e w1 ⟨rfl, hE1⟩
    have EW1 := Ext.trans _ _ _ HEB.out hE1
    have hg1 := HG.out w1 EW1
    go_wp2_with fail
    refine ro_region 9 [none, some (.rowsQ t.length (tabR t)), none, some (.rats (b.map frQ)), some (.ratsE (solX t.length a) (solE t.length a)), some (.ratsE (solX t.length a) (solE t.length a)), some (.ratsS (solX t.length a)), some (.val (.int .i64 (solE t.length a))), some (.ratsS (solX t.length a))] (by kernel_rfl) (by kernel_rfl) ?_
    go_simp
    repeat (apply ro_quiet rfl; (intro u hE _; have hX := HG.out u (Ext.trans _ _ _ EW1 (Ext.trans _ _ _ (Ext.drew _) hE)); go_simp; exact rfl); go_simp)
    apply ro_call rfl (fun w => by go_simp; exact ⟨rfl, rfl⟩)
    · intro u hE hd
      exact HRR.out u (Ext.trans _ _ _ EW1 (Ext.trans _ _ _ (Ext.drew _) hE))
    intro v19
    go_simp
    repeat (apply ro_quiet rfl; (intro u hE _; have hX := HG.out u (Ext.trans _ _ _ EW1 (Ext.trans _ _ _ (Ext.drew _) hE)); go_simp; exact rfl); go_simp)
    apply ro_call rfl (fun w => by go_simp; exact ⟨rfl, rfl⟩)
    · intro u hE hd
      exact HRB.out u (Ext.trans _ _ _ EW1 (Ext.trans _ _ _ (Ext.drew _) hE))
    intro v21
    go_simp
    apply ro_call rfl (fun w => by go_simp; exact ⟨rfl, rfl⟩)
    · intro u hE hd
      simp [depsHold, Region.binds] at hd
      exact HSV.out v19 v21 u hd.1 hd.2
    intro v22
    go_simp
    apply ro_run rfl
    · intro u hE hd
      simp [depsHold, Region.binds] at hd
      go_simp
      exact ⟨_, _, ⟨rfl, rfl⟩, Ext.refl _, hd⟩
    intro v17
    go_simp
    apply ro_run rfl
    · intro u hE hd
      simp [depsHold, Region.binds] at hd
      obtain ⟨l, rfl, h1, h2⟩ := hd
      go_simp
      exact ⟨_, _, ⟨rfl, rfl⟩, Ext.refl _, h1, h2⟩
    intro v23
    go_simp
    apply ro_run rfl
    · intro u hE hd
      simp [depsHold, Region.binds] at hd
      obtain ⟨l, rfl, h1, h2⟩ := hd
      go_simp
      exact ⟨_, _, ⟨rfl, rfl⟩, Ext.refl _, rfl⟩
    intro v24
    go_simp
    apply ro_run rfl
    · intro u hE hd
      simp [depsHold, Region.binds] at hd
      go_simp
      exact ⟨_, _, ⟨rfl, rfl⟩, Ext.refl _, hd.1⟩
    intro v7
    go_simp
    refine ro_done (fun u hE hf => ?_)
    simp [-List.cons_append] at hf
    obtain ⟨_, _, _, _, _, h24, ⟨hl, hsz⟩⟩ := hf
    have h24' : v24 = .int .i64 (solE t.length a) := h24
    subst h24'
    clear h24
    have EU : Ext W0 u := Ext.trans _ _ _ EW1 (Ext.trans _ _ _ (Ext.drew _) hE)
    have HTL := Lib.hid (HTD.out v7 u EU hl hsz)
    have HEU := Lib.hid (Ext.trans _ _ _ HE0.out EU)
    obtain ⟨A9, c9, rfl, _⟩ := hl
    simp only [List.drop_succ_cons, List.drop_zero]
    clear HRR HRB HSV HTD hE EU hg0 hg1 HF HG
    generalize solX t.length a = xs at *
    generalize solE t.length a = ce at *
    by_cases hce : ce = 0
    · subst hce
      go_wp2_with fail
      refine HTL.out.mono ?_
      rintro e w3 ⟨v', rfl, h3, hE3⟩
      have H3 := Lib.hid h3
      obtain ⟨A8, c8, rfl, _⟩ := h3
      go_wp2
      go_ret2
      rw [HCC.out trivial]
      exact ⟨_, rfl, H3.out, Ext.trans _ _ _ HEU.out hE3⟩
    · have hce' : (ce == 0) = false := beq_eq_false_iff_ne.2 hce
      go_wp2
      go_ret2
      rw [HCN.out hce]
      exact ⟨_, rfl, ⟨none, 0, rfl, Nat.le_refl _, Nat.zero_le _, .inl rfl⟩, HEU.out⟩
  · rw [if_neg hf] at hC
    have hf' : (f == 0) = false := beq_eq_false_iff_ne.2 hf
    rw [hC]
    have HE0 := Lib.hid E0
    have HEB := Lib.hid EB
    have hg1 := hb1.cell 0
    have hg2 := hb2.cell 0
    simp only [List.getElem?_cons_zero] at hg1 hg2
    clear hb1 hb2 hb3 E0 E1 EB HOK hC hr ht hb htab
    go_enter Tryz.func18, Tryz.ntmps18
    go_wp2_with fail
    rw [← hW0]
    refine HF.out.mono ?_
    rintro e w1 ⟨rfl, hE1⟩
    go_wp2
    go_ret2
    exact ⟨_, rfl, ⟨none, 0, rfl, Nat.le_refl _, Nat.zero_le _, .inl rfl⟩, Ext.trans _ _ _ HE0.out (Ext.trans _ _ _ HEB.out hE1)⟩
end Go.Proofs.Xx
end
