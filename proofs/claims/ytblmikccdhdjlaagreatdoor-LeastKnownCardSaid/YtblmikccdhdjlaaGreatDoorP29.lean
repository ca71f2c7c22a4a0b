/- A part of the proof: the texts W47, W48, W49, W50, W51, W52. -/
import Derived.Test.YtblmikccdhdjlaaGreatDoorP27
import Derived.Test.YtblmikccdhdjlaaGreatDoorP28
import Derived.Test.YtblmikccdhdjlaaGreatDoorP20
import Derived.Test.YtblmikccdhdjlaaGreatDoorP21
set_option linter.unusedVariables false
set_option linter.unusedSimpArgs false
section
namespace Go.Proofs.Xx
open Go.RowKit Go.V Go.Grow Lin

/-- A list times the least number that makes it whole. -/
def scaledZ (qs : List Rat) (i : Nat) : Int := (qs.getD i 0).num * ((lcmD qs / (qs.getD i 0).den : Nat) : Int)

theorem den_dvd_lcmD : ∀ (qs : List Rat) (q : Rat), q ∈ qs → q.den ∣ lcmD qs := by
  intro qs
  induction qs using snoc_ind with
  | h0 => intro q h; simp at h
  | h1 l x ih =>
    intro q h
    rw [lcmD_snoc]
    rcases List.mem_append.1 h with k | k
    · exact Nat.dvd_trans (ih q k) (Nat.dvd_lcm_left _ _)
    · rw [List.mem_singleton] at k
      subst k
      exact Nat.dvd_lcm_right _ _
theorem den_mul_self (q : Rat) : (q.den : Rat) * q = q.num := by
  have h : q = mkRat q.num q.den := (Rat.mkRat_self q).symm
  have h2 := Rat.mkRat_eq_div q.num q.den
  have hd : (q.den : Rat) ≠ 0 := by
    intro e
    have := q.den_nz
    exact this (by exact_mod_cast e)
  rw [h2] at h
  generalize hn : q.num = n at *
  generalize hde : q.den = d at *
  rw [h]
  grind
theorem scaledZ_eq (qs : List Rat) (i : Nat) (hi : i < qs.length) : (scaledZ qs i : Rat) = (lcmD qs : Rat) * qs.getD i 0 := by
  unfold scaledZ
  have hm : qs.getD i 0 ∈ qs := by
    rw [List.getD_eq_getElem?_getD, List.getElem?_eq_getElem hi]
    exact List.getElem_mem hi
  obtain ⟨k, hk⟩ := den_dvd_lcmD qs _ hm
  generalize qs.getD i 0 = q at *
  have hq := q.den_pos
  rw [hk, Nat.mul_div_cancel_left _ hq]
  have h1 := den_mul_self q
  rw [Rat.intCast_mul, ← h1]
  have h2 : (((k : Nat) : Int) : Rat) = ((k : Nat) : Rat) := rfl
  rw [h2, Rat.natCast_mul]
  grind

set_option maxHeartbeats 2000000 in
set_option maxRecDepth 100000 in
theorem scaled_any (vl : Value) (qs : List Rat) (w : World) (hl : IsRats w vl qs) (hlen : qs.length ≤ 1099511627776) {s : Nat} (hs : ∀ q ∈ qs, Sz q s) (hb : ((qs.length + 1) * s + 1) * 2 ≤ 8796093022208) :
    Calls Tryz.prog 52 #[vl] w fun e w' => ∃ g, e = .returned (.slice (some ⟨g, 0, none⟩) qs.length qs.length) ∧ w.heap.size ≤ g ∧ NRow w' g qs.length (scaledZ qs) ∧ Ext w w' := by
  have HM := Lib.hid (multiple_any vl qs w hl (fun q hq => (hs q hq).2) (by omega))
  have hll := lcmD_len qs (fun q hq => (hs q hq).2)
  have HF : Hid (∀ (mb : Nat) (vm : Value) (w1 : World), w1.cell? ⟨mb, 0, none⟩ = some vm → IsMass w1 vm (lcmD qs) → ∀ (i : Nat) (q : Rat) (vx : Value) (w' : World), qs[i]? = some q → Ext w1 w' → IsRat w' vx q → Calls Tryz.prog 113 (#[vx] ++ #[.pointer (some ⟨mb, 0, none⟩)]) w' (Ret (.num (scaledZ qs i)) w')) := fun mb vm w1 h1 h2 i q vx w' hq hE hx => by
    have hqm := List.mem_of_getElem? hq
    have h3 := scaled1_any vx q mb vm (lcmD qs) w' hx (hE.cell h1) (h2.mono hE) (s := (qs.length + 1) * s + 1) (by
      have := (hs q hqm).1
      rw [Nat.add_mul]; omega) (by rw [Nat.add_mul]; omega) (by omega)
    have e : qs.getD i 0 = q := by rw [List.getD_eq_getElem?_getD, hq]; rfl
    unfold scaledZ
    rw [e]
    exact h3
  have HMP : Hid (∀ (mb : Nat) (vm : Value) (w1 : World), Ext w w1 → w1.cell? ⟨mb, 0, none⟩ = some vm → IsMass w1 vm (lcmD qs) → Calls Tryz.prog 116 #[vl, .func (.func 113) #[] #[.pointer (some ⟨mb, 0, none⟩)]] w1 fun e w' => e = .returned (.slice (some ⟨w1.heap.size, 0, none⟩) qs.length qs.length) ∧ NRow w' w1.heap.size qs.length (scaledZ qs) ∧ Ext w1 w') := fun mb vm w1 hE h1 h2 =>
    mappedRN_any 113 _ (enters_of Tryz.func113 (by kernel_rfl) rfl) vl qs (scaledZ qs) w1 (hl.mono hE) hlen (HF.out mb vm w1 h1 h2)
  clear hs hb hll hl HF hlen
  go_enter Tryz.func52, Tryz.ntmps52
  go_wp2_with fail
  refine HM.out.mono ?_
  rintro e w1 ⟨vm, rfl, hm, hE1⟩
  have H := Lib.hid hm
  obtain ⟨A, c, rfl, _⟩ := hm
  generalize (mass (lcmD qs)).length = l at *
  have Ea : Ext w1 (w1.alloc (.cells #[.slice A l c] 107)) := Ext.alloc _ _
  have hcell : (w1.alloc (.cells #[.slice A l c] 107)).cell? ⟨w1.heap.size, 0, none⟩ = some (.slice A l c) := (Blk.new w1 [.slice A l c] 107).cell 0
  have HC := Lib.hid (HMP.out _ _ _ (Ext.trans _ _ _ hE1 Ea) hcell (H.out.mono Ea))
  have hsz := hE1.size
  go_wp2_with fail
  refine HC.out.mono ?_
  rintro e w2 ⟨rfl, hN, hE2⟩
  go_wp2
  go_ret
  refine ⟨_, rfl, ?_, by simpa using hN, Ext.trans _ _ _ hE1 (Ext.trans _ _ _ Ea hE2)⟩
  omega
end Go.Proofs.Xx
end
section
namespace Go.Proofs.Xx
open Go.RowKit Go.V Go.Grow Lin

set_option maxHeartbeats 4000000 in
set_option maxRecDepth 100000 in
theorem mappedFR_any (g : Nat) (lb : Array Value) (eg : ∀ args w, (callFunc g args).run Tryz.prog w = .ok (.enter g args) w) (vl : Value) (l : List Fr) (zs : Nat → Rat) (w : World) (hl : IsFracs w vl l) (hlen : l.length ≤ 1099511627776)
    (hf : ∀ (i : Nat) (x : Fr) (w' : World), l[i]? = some x → Ext w w' → Calls Tryz.prog g (#[.agg #[.string x.1, .string x.2]] ++ lb) w' (Ret (.rat (zs i)) w')) :
    Calls Tryz.prog 77 #[vl, .func (.func g) #[] lb] w fun e w' => e = .returned (.slice (some ⟨w.heap.size, 0, none⟩) l.length l.length) ∧ RRow w' w.heap.size l.length (fun _ => True) zs ∧ Ext w w' := by
  obtain ⟨A, c, rfl, hc, hmx, _⟩ := id hl
  have hmk := make_rats 82 Tryz.underlying82 l.length hlen
  have E1 : Ext w (w.alloc (.cells (ratCells (List.replicate l.length (false, .slice none 0 0, .slice none 0 0))).toArray 111)) := Ext.alloc _ _
  have R1 := RRow.fresh w l.length 111 zs
  have HL := Lib.hid hl
  have HF := Lib.hid hf
  have HC := Lib.hid hc
  have HN := Lib.hid hlen
  clear hl hf hmx hlen
  go_enter Tryz.func77, Tryz.ntmps77
  go_wp2_with fail
  have HR1 := Lib.hid R1
  have HE1 := Lib.hid E1
  clear hmk R1 E1
  generalize w.alloc (.cells (ratCells (List.replicate l.length (false, .slice none 0 0, .slice none 0 0))).toArray 111) = W1 at *
  generalize hgs : w.heap.size = gb at *
  have HGS := Lib.hid hgs
  clear hgs
  go_loopw [13] (fun t wr => ∃ i : Nat, t = .int .i64 (i : Int) ∧ i ≤ l.length ∧ RRow wr gb l.length (fun j => j < i) zs ∧ Ext w wr) (fun t _ => upTo l.length t)
  case atStart =>
    refine ⟨0, rfl, Nat.zero_le _, ?_, HE1.out⟩
    obtain ⟨vs, k1, k2, k3, _⟩ := HR1.out
    exact ⟨vs, k1, k2, k3, fun j p hp h => by omega⟩
  case round =>
    obtain ⟨i, rfl, hi, hR, hE⟩ := hrel
    by_cases hlt : i < l.length
    · obtain ⟨x, hx⟩ : ∃ x, l[i]? = some x := ⟨l[i], List.getElem?_eq_getElem hlt⟩
      obtain ⟨b, o, rfl, k1, k2⟩ := IsFracs.get HL.out hx
      have q1 := hE.cell k1
      have q2 := hE.cell k2
      obtain ⟨x1, x2⟩ := x
      simp only at q1 q2 k1 k2
      have Ea : Ext wr (wr.alloc (.cells #[.string x1, .string x2] 46)) := Ext.alloc _ _
      have hcF : Calls Tryz.prog g (#[.agg #[.string x1, .string x2]] ++ lb) _ _ := HF.out i (x1, x2) _ hx (Ext.trans _ _ _ hE Ea)
      have HCF := Lib.hid hcF
      have HRR := Lib.hid (hR.ext Ea)
      have HEA := Lib.hid (Ext.trans _ _ _ hE Ea)
      have HWI : Hid (wrap64 ((i : Int) + 1) = ((i + 1 : Nat) : Int)) := by
        have := HN.out
        show wrap64 ((i : Int) + 1) = ((i + 1 : Nat) : Int)
        rw [IntWalk.wrap64_in _ (by omega)]
        omega
      have hicap : i < c := by have := HC.out; omega
      clear hcF hR hE Ea k1 k2
      go_wp2_with fail
      refine HCF.out.mono ?_
      rintro e w3 ⟨v, rfl, hv, hE3⟩
      have hR3 := HRR.out.ext hE3
      obtain ⟨x0, x1', x2', y1, y2, y3, _, _, _, y4, y5, y6⟩ := hR3.cells hlt
      have HV := Lib.hid hv
      obtain ⟨mm, dd, rfl, hmm, hdd⟩ := hv
      have HNS := Lib.hid (hR3.set hlt HV.out).1
      have hgl : w.heap.size ≤ gb := Nat.le_of_eq HGS.out
      have HES := Lib.hid ((((Ext.trans _ _ _ HEA.out hE3).set (p := ⟨gb, i * 3, none⟩) hgl (.bool (decide ((zs i).num < 0)))).set (p := ⟨gb, i * 3 + 1, none⟩) hgl mm).set (p := ⟨gb, i * 3 + 2, none⟩) hgl dd)
      obtain ⟨A5, c5, rfl, _⟩ := hmm
      obtain ⟨A6, c6, rfl, _⟩ := hdd
      generalize (mass (zs i).num.natAbs).length = l5 at *
      generalize (mass (zs i).den).length = l6 at *
      generalize decide ((zs i).num < 0) = p5 at *
      clear hR3 hE3
      go_wp2_with fail
      go_roundw
      case rel =>
        refine ⟨i + 1, by rw [HWI.out], hlt, ?_, HES.out⟩
        obtain ⟨vs, k1, k2, k3, k4⟩ := HNS.out
        refine ⟨vs, k1, k2, k3, fun j p hp hj => ?_⟩
        have := k4 j p hp (by
          show j = i ∨ j < i
          have hj' : j < i + 1 := hj
          omega)
        have e : (if j = i then zs i else zs j) = zs j := by split <;> simp_all
        rwa [show (fun c => if c = i then zs i else zs c) j = zs j from e] at this
      case measure =>
        rw [HWI.out]
        exact upTo_lt hlt
    · have HRR : Hid (RRow wr gb l.length (fun _ => True) zs) := by
        obtain ⟨vs, k1, k2, k3, k4⟩ := hR
        refine ⟨vs, k1, k2, k3, fun j p hp _ => k4 j p hp ?_⟩
        have hj := (List.getElem?_eq_some_iff.1 hp).1
        show j < i
        omega
      have HEE := Lib.hid hE
      clear hR hE
      go_wp2
      go_ret
      have hgb := HGS.out
      subst hgb
      exact ⟨rfl, HRR.out, HEE.out⟩
end Go.Proofs.Xx
end
section
namespace Go.Proofs.Xx
open Go.RowKit Go.V Go.Grow Lin

theorem infoTN : (Tryz.prog.info? 80).map (fun i => (i.zero, i.size, i.bytes)) = some (some (.slice none 0 0), 1, 24) := by kernel_rfl
theorem make_TN (c : Nat) (hc : c ≤ 1099511627776) (W : World) : (Instr.makeSlice 77 (.int .i64 c) (.int .i64 c)).run Tryz.prog W = .ok (.slice (some ⟨W.heap.size, 0, none⟩) c c) (W.alloc (.cells (List.replicate c (.slice none 0 0)).toArray 80)) := by
  obtain ⟨i0, hi, hzz⟩ := Option.map_eq_some_iff.1 infoTN
  simp only [Prod.mk.injEq] at hzz
  obtain ⟨hz0, hz1, hz2⟩ := hzz
  rw [run_make W 77 80 i0 _ Tryz.underlying77 hi hz0 .i64 .i64 c c (by omega) (Int.le_refl _) (by rw [hz2]; omega) (by omega), hz1]
  show Result.ok _ (W.alloc (.cells (madeCells #[.slice none 0 0] ((c : Int).toNat * (#[Value.slice none 0 0] : Array Value).size)) 80)) = _
  rw [made_flat _ _ (by decide), Int.toNat_natCast]
  have : (List.replicate c (#[Value.slice none 0 0] : Array Value).toList).flatten = List.replicate c (.slice none 0 0) := by
    induction c with
    | zero => rfl
    | succ c ih => rw [List.replicate_succ, List.flatten_cons, ih (by omega), List.replicate_succ]; rfl
  rw [this]

set_option maxHeartbeats 4000000 in
set_option maxRecDepth 100000 in
theorem mappedTN_any (g : Nat) (lb : Array Value) (eg : ∀ args w, (callFunc g args).run Tryz.prog w = .ok (.enter g args) w) (vl : Value) (n : Nat) (us : Nat → Value) (k : Nat → Nat) (P : Nat → Nat → World → Prop) (w : World) (hl : IsL w vl n us) (hlen : n ≤ 1099511627776)
    (hst : ∀ j q a b, P j q a → b.heap[q]? = a.heap[q]? → Keep a b → P j q b)
    (hf : ∀ (i : Nat) (w' : World), i < n → Ext w w' → Calls Tryz.prog g (#[us i] ++ lb) w' fun e w'' => ∃ r, e = .returned (.slice (some ⟨r, 0, none⟩) (k i) (k i)) ∧ w'.heap.size ≤ r ∧ r < w''.heap.size ∧ P i r w'' ∧ Ext w' w'') :
    Calls Tryz.prog 50 #[vl, .func (.func g) #[] lb] w fun e w' => ∃ rb, e = .returned (.slice (some ⟨w.heap.size, 0, none⟩) n n) ∧ Mapd w w' w.heap.size n n k P rb := by
  obtain ⟨A, c, rfl, hc, hmx, _⟩ := id hl
  have hmk := make_TN n hlen
  have M1 : Mapd w (w.alloc (.cells (List.replicate n (.slice none 0 0)).toArray 80)) w.heap.size n 0 k P (fun _ => 0) :=
    ⟨⟨_, Blk.new _ _ _, by simp, (fun u hu => by rw [(List.mem_replicate.1 hu).2]; exact notInt_slice _ _ _), (fun j hj => by omega)⟩, (fun j hj => by omega), (fun j l _ hj => by omega), (fun j hj => by omega), (fun j hj => by omega), Ext.alloc _ _⟩
  rw [List.toArray_replicate] at M1
  simp only [List.toArray_replicate] at hmk
  have HL := Lib.hid hl
  have HF := Lib.hid hf
  have HC := Lib.hid hc
  have HN := Lib.hid hlen
  have HST := Lib.hid hst
  clear hl hf hmx hlen hst
  go_enter Tryz.func50, Tryz.ntmps50
  go_wp2_with fail
  have HM1 := Lib.hid M1
  clear hmk M1
  generalize w.alloc (.cells (Array.replicate n (.slice none 0 0)) 80) = W1 at *
  generalize hgs : w.heap.size = gb at *
  have HGS := Lib.hid hgs
  clear hgs
  go_loopw [13] (fun t wr => ∃ i : Nat, t = .int .i64 (i : Int) ∧ i ≤ n ∧ ∃ rb, Mapd w wr gb n i k P rb) (fun t _ => upTo n t)
  case atStart => exact ⟨0, rfl, Nat.zero_le _, _, HM1.out⟩
  case round =>
    obtain ⟨i, rfl, hi, rb, hM⟩ := hrel
    by_cases hlt : i < n
    · obtain ⟨b, o, rfl, k1⟩ := IsL.get HL.out hlt
      have q1 := hM.ext.cell k1
      have HCF := Lib.hid (HF.out i wr hlt hM.ext)
      have HM := Lib.hid hM
      have HWI : Hid (wrap64 ((i : Int) + 1) = ((i + 1 : Nat) : Int)) := by
        have := HN.out
        show wrap64 ((i : Int) + 1) = ((i + 1 : Nat) : Int)
        rw [IntWalk.wrap64_in _ (by omega)]
        omega
      have hicap : i < c := by have := HC.out; omega
      clear hM k1
      go_wp2_with fail
      refine HCF.out.mono ?_
      rintro e w3 ⟨r, rfl, hr1, hr2, hp, hE3⟩
      have HNS := Lib.hid (HM.out.step hlt hE3 hr1 hr2 hp (Nat.le_of_eq HGS.out) HST.out)
      obtain ⟨cs, hb, hcl, hcn, _⟩ := HM.out.blk
      have hb3 := hb.ext hE3
      have y1 : w3.cell? ⟨gb, i, none⟩ = some (cs[i]'(by omega)) := by rw [hb3.cell, List.getElem?_eq_getElem (by omega)]
      have y4 := hb3.frozen i
      clear hb hb3 hcn hr1 hr2 hp hE3
      go_wp2_with fail
      go_roundw
      case rel => exact ⟨i + 1, by rw [HWI.out], hlt, _, HNS.out⟩
      case measure =>
        rw [HWI.out]
        exact upTo_lt hlt
    · have hin : i = n := by omega
      subst hin
      have HM := Lib.hid hM
      clear hM
      go_wp2
      go_ret
      have hgb := HGS.out
      subst hgb
      exact ⟨rb, rfl, HM.out⟩
end Go.Proofs.Xx
end
section
namespace Go.Proofs.Xx
open Go.RowKit Go.V Go.Grow Lin

theorem infoTV : (Tryz.prog.info? 83).map (fun i => (i.zero, i.size, i.bytes)) = some (some (.slice none 0 0), 1, 24) := by kernel_rfl
theorem make_TV (c : Nat) (hc : c ≤ 1099511627776) (W : World) : (Instr.makeSlice 98 (.int .i64 c) (.int .i64 c)).run Tryz.prog W = .ok (.slice (some ⟨W.heap.size, 0, none⟩) c c) (W.alloc (.cells (List.replicate c (.slice none 0 0)).toArray 83)) := by
  obtain ⟨i0, hi, hzz⟩ := Option.map_eq_some_iff.1 infoTV
  simp only [Prod.mk.injEq] at hzz
  obtain ⟨hz0, hz1, hz2⟩ := hzz
  rw [run_make W 98 83 i0 _ Tryz.underlying98 hi hz0 .i64 .i64 c c (by omega) (Int.le_refl _) (by rw [hz2]; omega) (by omega), hz1]
  show Result.ok _ (W.alloc (.cells (madeCells #[.slice none 0 0] ((c : Int).toNat * (#[Value.slice none 0 0] : Array Value).size)) 83)) = _
  rw [made_flat _ _ (by decide), Int.toNat_natCast]
  have : (List.replicate c (#[Value.slice none 0 0] : Array Value).toList).flatten = List.replicate c (.slice none 0 0) := by
    induction c with
    | zero => rfl
    | succ c ih => rw [List.replicate_succ, List.flatten_cons, ih (by omega), List.replicate_succ]; rfl
  rw [this]

set_option maxHeartbeats 4000000 in
set_option maxRecDepth 100000 in
theorem mappedTV_any (g : Nat) (lb : Array Value) (eg : ∀ args w, (callFunc g args).run Tryz.prog w = .ok (.enter g args) w) (vl : Value) (n : Nat) (us : Nat → Value) (k : Nat → Nat) (P : Nat → Nat → World → Prop) (w : World) (hl : IsL w vl n us) (hlen : n ≤ 1099511627776)
    (hst : ∀ j q a b, P j q a → b.heap[q]? = a.heap[q]? → Keep a b → P j q b)
    (hf : ∀ (i : Nat) (w' : World), i < n → Ext w w' → Calls Tryz.prog g (#[us i] ++ lb) w' fun e w'' => ∃ r, e = .returned (.slice (some ⟨r, 0, none⟩) (k i) (k i)) ∧ w'.heap.size ≤ r ∧ r < w''.heap.size ∧ P i r w'' ∧ Ext w' w'') :
    Calls Tryz.prog 60 #[vl, .func (.func g) #[] lb] w fun e w' => ∃ rb, e = .returned (.slice (some ⟨w.heap.size, 0, none⟩) n n) ∧ Mapd w w' w.heap.size n n k P rb := by
  obtain ⟨A, c, rfl, hc, hmx, _⟩ := id hl
  have hmk := make_TV n hlen
  have M1 : Mapd w (w.alloc (.cells (List.replicate n (.slice none 0 0)).toArray 83)) w.heap.size n 0 k P (fun _ => 0) :=
    ⟨⟨_, Blk.new _ _ _, by simp, (fun u hu => by rw [(List.mem_replicate.1 hu).2]; exact notInt_slice _ _ _), (fun j hj => by omega)⟩, (fun j hj => by omega), (fun j l _ hj => by omega), (fun j hj => by omega), (fun j hj => by omega), Ext.alloc _ _⟩
  rw [List.toArray_replicate] at M1
  simp only [List.toArray_replicate] at hmk
  have HL := Lib.hid hl
  have HF := Lib.hid hf
  have HC := Lib.hid hc
  have HN := Lib.hid hlen
  have HST := Lib.hid hst
  clear hl hf hmx hlen hst
  go_enter Tryz.func60, Tryz.ntmps60
  go_wp2_with fail
  have HM1 := Lib.hid M1
  clear hmk M1
  generalize w.alloc (.cells (Array.replicate n (.slice none 0 0)) 83) = W1 at *
  generalize hgs : w.heap.size = gb at *
  have HGS := Lib.hid hgs
  clear hgs
  go_loopw [13] (fun t wr => ∃ i : Nat, t = .int .i64 (i : Int) ∧ i ≤ n ∧ ∃ rb, Mapd w wr gb n i k P rb) (fun t _ => upTo n t)
  case atStart => exact ⟨0, rfl, Nat.zero_le _, _, HM1.out⟩
  case round =>
    obtain ⟨i, rfl, hi, rb, hM⟩ := hrel
    by_cases hlt : i < n
    · obtain ⟨b, o, rfl, k1⟩ := IsL.get HL.out hlt
      have q1 := hM.ext.cell k1
      have HCF := Lib.hid (HF.out i wr hlt hM.ext)
      have HM := Lib.hid hM
      have HWI : Hid (wrap64 ((i : Int) + 1) = ((i + 1 : Nat) : Int)) := by
        have := HN.out
        show wrap64 ((i : Int) + 1) = ((i + 1 : Nat) : Int)
        rw [IntWalk.wrap64_in _ (by omega)]
        omega
      have hicap : i < c := by have := HC.out; omega
      clear hM k1
      go_wp2_with fail
      refine HCF.out.mono ?_
      rintro e w3 ⟨r, rfl, hr1, hr2, hp, hE3⟩
      have HNS := Lib.hid (HM.out.step hlt hE3 hr1 hr2 hp (Nat.le_of_eq HGS.out) HST.out)
      obtain ⟨cs, hb, hcl, hcn, _⟩ := HM.out.blk
      have hb3 := hb.ext hE3
      have y1 : w3.cell? ⟨gb, i, none⟩ = some (cs[i]'(by omega)) := by rw [hb3.cell, List.getElem?_eq_getElem (by omega)]
      have y4 := hb3.frozen i
      clear hb hb3 hcn hr1 hr2 hp hE3
      go_wp2_with fail
      go_roundw
      case rel => exact ⟨i + 1, by rw [HWI.out], hlt, _, HNS.out⟩
      case measure =>
        rw [HWI.out]
        exact upTo_lt hlt
    · have hin : i = n := by omega
      subst hin
      have HM := Lib.hid hM
      clear hM
      go_wp2
      go_ret
      have hgb := HGS.out
      subst hgb
      exact ⟨rb, rfl, HM.out⟩
end Go.Proofs.Xx
end
section
namespace Go.Proofs.Xx
open Go.RowKit Go.V Go.Grow Lin

theorem infoVV : (Tryz.prog.info? 83).map (fun i => (i.zero, i.size, i.bytes)) = some (some (.slice none 0 0), 1, 24) := by kernel_rfl
theorem make_VV (c : Nat) (hc : c ≤ 1099511627776) (W : World) : (Instr.makeSlice 98 (.int .i64 c) (.int .i64 c)).run Tryz.prog W = .ok (.slice (some ⟨W.heap.size, 0, none⟩) c c) (W.alloc (.cells (List.replicate c (.slice none 0 0)).toArray 83)) := by
  obtain ⟨i0, hi, hzz⟩ := Option.map_eq_some_iff.1 infoVV
  simp only [Prod.mk.injEq] at hzz
  obtain ⟨hz0, hz1, hz2⟩ := hzz
  rw [run_make W 98 83 i0 _ Tryz.underlying98 hi hz0 .i64 .i64 c c (by omega) (Int.le_refl _) (by rw [hz2]; omega) (by omega), hz1]
  show Result.ok _ (W.alloc (.cells (madeCells #[.slice none 0 0] ((c : Int).toNat * (#[Value.slice none 0 0] : Array Value).size)) 83)) = _
  rw [made_flat _ _ (by decide), Int.toNat_natCast]
  have : (List.replicate c (#[Value.slice none 0 0] : Array Value).toList).flatten = List.replicate c (.slice none 0 0) := by
    induction c with
    | zero => rfl
    | succ c ih => rw [List.replicate_succ, List.flatten_cons, ih (by omega), List.replicate_succ]; rfl
  rw [this]

set_option maxHeartbeats 4000000 in
set_option maxRecDepth 100000 in
theorem mappedVV_any (g : Nat) (lb : Array Value) (eg : ∀ args w, (callFunc g args).run Tryz.prog w = .ok (.enter g args) w) (vl : Value) (n : Nat) (us : Nat → Value) (k : Nat → Nat) (P : Nat → Nat → World → Prop) (w : World) (hl : IsL w vl n us) (hlen : n ≤ 1099511627776)
    (hst : ∀ j q a b, P j q a → b.heap[q]? = a.heap[q]? → Keep a b → P j q b)
    (hf : ∀ (i : Nat) (w' : World), i < n → Ext w w' → Calls Tryz.prog g (#[us i] ++ lb) w' fun e w'' => ∃ r, e = .returned (.slice (some ⟨r, 0, none⟩) (k i) (k i)) ∧ w'.heap.size ≤ r ∧ r < w''.heap.size ∧ P i r w'' ∧ Ext w' w'') :
    Calls Tryz.prog 68 #[vl, .func (.func g) #[] lb] w fun e w' => ∃ rb, e = .returned (.slice (some ⟨w.heap.size, 0, none⟩) n n) ∧ Mapd w w' w.heap.size n n k P rb := by
  obtain ⟨A, c, rfl, hc, hmx, _⟩ := id hl
  have hmk := make_VV n hlen
  have M1 : Mapd w (w.alloc (.cells (List.replicate n (.slice none 0 0)).toArray 83)) w.heap.size n 0 k P (fun _ => 0) :=
    ⟨⟨_, Blk.new _ _ _, by simp, (fun u hu => by rw [(List.mem_replicate.1 hu).2]; exact notInt_slice _ _ _), (fun j hj => by omega)⟩, (fun j hj => by omega), (fun j l _ hj => by omega), (fun j hj => by omega), (fun j hj => by omega), Ext.alloc _ _⟩
  rw [List.toArray_replicate] at M1
  simp only [List.toArray_replicate] at hmk
  have HL := Lib.hid hl
  have HF := Lib.hid hf
  have HC := Lib.hid hc
  have HN := Lib.hid hlen
  have HST := Lib.hid hst
  clear hl hf hmx hlen hst
  go_enter Tryz.func68, Tryz.ntmps68
  go_wp2_with fail
  have HM1 := Lib.hid M1
  clear hmk M1
  generalize w.alloc (.cells (Array.replicate n (.slice none 0 0)) 83) = W1 at *
  generalize hgs : w.heap.size = gb at *
  have HGS := Lib.hid hgs
  clear hgs
  go_loopw [13] (fun t wr => ∃ i : Nat, t = .int .i64 (i : Int) ∧ i ≤ n ∧ ∃ rb, Mapd w wr gb n i k P rb) (fun t _ => upTo n t)
  case atStart => exact ⟨0, rfl, Nat.zero_le _, _, HM1.out⟩
  case round =>
    obtain ⟨i, rfl, hi, rb, hM⟩ := hrel
    by_cases hlt : i < n
    · obtain ⟨b, o, rfl, k1⟩ := IsL.get HL.out hlt
      have q1 := hM.ext.cell k1
      have HCF := Lib.hid (HF.out i wr hlt hM.ext)
      have HM := Lib.hid hM
      have HWI : Hid (wrap64 ((i : Int) + 1) = ((i + 1 : Nat) : Int)) := by
        have := HN.out
        show wrap64 ((i : Int) + 1) = ((i + 1 : Nat) : Int)
        rw [IntWalk.wrap64_in _ (by omega)]
        omega
      have hicap : i < c := by have := HC.out; omega
      clear hM k1
      go_wp2_with fail
      refine HCF.out.mono ?_
      rintro e w3 ⟨r, rfl, hr1, hr2, hp, hE3⟩
      have HNS := Lib.hid (HM.out.step hlt hE3 hr1 hr2 hp (Nat.le_of_eq HGS.out) HST.out)
      obtain ⟨cs, hb, hcl, hcn, _⟩ := HM.out.blk
      have hb3 := hb.ext hE3
      have y1 : w3.cell? ⟨gb, i, none⟩ = some (cs[i]'(by omega)) := by rw [hb3.cell, List.getElem?_eq_getElem (by omega)]
      have y4 := hb3.frozen i
      clear hb hb3 hcn hr1 hr2 hp hE3
      go_wp2_with fail
      go_roundw
      case rel => exact ⟨i + 1, by rw [HWI.out], hlt, _, HNS.out⟩
      case measure =>
        rw [HWI.out]
        exact upTo_lt hlt
    · have hin : i = n := by omega
      subst hin
      have HM := Lib.hid hM
      clear hM
      go_wp2
      go_ret
      have hgb := HGS.out
      subst hgb
      exact ⟨rb, rfl, HM.out⟩
end Go.Proofs.Xx
end
section
namespace Go.Proofs.Xx
open Go.RowKit Go.V Go.Grow Lin

set_option maxHeartbeats 2000000 in
set_option maxRecDepth 100000 in
theorem idxF_any (g : Nat) (lb : Array Value) (eg : ∀ args w, (callFunc g args).run Tryz.prog w = .ok (.enter g args) w) (vl : Value) (l : List Fr) (p : Fr → Bool) (w : World) (hl : IsFracs w vl l)
    (hf : ∀ (i : Nat) (x : Fr) (w' : World), l[i]? = some x → Ext w w' → Calls Tryz.prog g (#[.agg #[.string x.1, .string x.2]] ++ lb) w' fun e w'' => e = .returned (.bool (p x)) ∧ Ext w' w'') :
    Calls Tryz.prog 152 #[vl, .func (.func g) #[] lb] w fun e w' => ∃ z : Int, e = .returned (.int .i64 z) ∧ decide (0 ≤ z) = l.any p ∧ Ext w w' := by
  obtain ⟨A, c, rfl, hc, hmx, _⟩ := id hl
  have HL := Lib.hid hl
  have HF := Lib.hid hf
  have HC := Lib.hid hc
  have HN : Hid (l.length ≤ maxLen) := Nat.le_trans hc hmx
  clear hl hf hmx
  go_enter Tryz.func152, Tryz.ntmps152
  go_wp2_with fail
  go_loopw [8] (fun t wr => ∃ i : Nat, t = .int .i64 (i : Int) ∧ i ≤ l.length ∧ (l.take i).any p = false ∧ Ext w wr) (fun t _ => upTo l.length t)
  case atStart => exact ⟨0, rfl, Nat.zero_le _, rfl, Ext.refl _⟩
  case round =>
    obtain ⟨i, rfl, hi, hany, hE⟩ := hrel
    by_cases hlt : i < l.length
    · obtain ⟨x, hx⟩ : ∃ x, l[i]? = some x := ⟨l[i], List.getElem?_eq_getElem hlt⟩
      obtain ⟨b, o, rfl, k1, k2⟩ := IsFracs.get HL.out hx
      have q1 := hE.cell k1
      have q2 := hE.cell k2
      have HCF := Lib.hid (HF.out i x wr hx hE)
      clear k1 k2
      have HWI : Hid (wrap64 ((i : Int) + 1) = ((i + 1 : Nat) : Int)) := by
        have := HN.out
        unfold maxLen at this
        show wrap64 ((i : Int) + 1) = ((i + 1 : Nat) : Int)
        rw [IntWalk.wrap64_in _ (by omega)]
        omega
      have hicap : i < c := by have := HC.out; omega
      have htk := take_snoc hx
      have HT := Lib.hid (show (l.take (i + 1)).any p = p x by rw [htk, List.any_append, hany]; simp)
      have HM : Hid (p x = true → l.any p = true) := fun h => List.any_eq_true.2 ⟨x, List.mem_of_getElem? hx, h⟩
      clear hany htk
      cases hpx : p x with
      | true =>
        rw [hpx] at HCF
        have HM2 := Lib.hid (HM.out hpx)
        clear hpx
        go_wp2_with fail
        refine HCF.out.mono ?_
        rintro e w3 ⟨rfl, hE3⟩
        go_wp2
        go_ret
        refine ⟨_, rfl, ?_, Ext.trans _ _ _ hE hE3⟩
        rw [HM2.out, decide_eq_true (Int.natCast_nonneg _)]
      | false =>
        rw [hpx] at HCF HT
        clear hpx
        go_wp2_with fail
        refine HCF.out.mono ?_
        rintro e w3 ⟨rfl, hE3⟩
        go_wp2_with fail
        go_roundw
        case rel => exact ⟨i + 1, by rw [HWI.out], hlt, HT.out, Ext.trans _ _ _ hE hE3⟩
        case measure =>
          rw [HWI.out]
          exact upTo_lt hlt
    · have hin : i = l.length := by omega
      have HA : Hid (l.any p = false) := by rw [hin, List.take_length] at hany; exact hany
      clear hany hin
      go_wp2
      go_ret
      refine ⟨_, rfl, ?_, hE⟩
      rw [HA.out]
      rfl
set_option maxRecDepth 100000 in
theorem containsF_any (g : Nat) (lb : Array Value) (eg : ∀ args w, (callFunc g args).run Tryz.prog w = .ok (.enter g args) w) (vl : Value) (l : List Fr) (p : Fr → Bool) (w : World) (hl : IsFracs w vl l)
    (hf : ∀ (i : Nat) (x : Fr) (w' : World), l[i]? = some x → Ext w w' → Calls Tryz.prog g (#[.agg #[.string x.1, .string x.2]] ++ lb) w' fun e w'' => e = .returned (.bool (p x)) ∧ Ext w' w'') :
    Calls Tryz.prog 109 #[vl, .func (.func g) #[] lb] w fun e w' => e = .returned (.bool (l.any p)) ∧ Ext w w' := by
  have HI := Lib.hid (idxF_any g lb eg vl l p w hl hf)
  clear hl hf
  go_enter Tryz.func109, Tryz.ntmps109
  go_wp2_with fail
  refine HI.out.mono ?_
  rintro e w1 ⟨z, rfl, hz, hE⟩
  have HZ := Lib.hid hz
  clear hz
  go_wp2
  go_ret
  refine ⟨?_, hE⟩
  rw [← HZ.out]
  rfl

set_option maxHeartbeats 2000000 in
set_option maxRecDepth 100000 in
theorem idxT_any (g : Nat) (lb : Array Value) (eg : ∀ args w, (callFunc g args).run Tryz.prog w = .ok (.enter g args) w) (vl : Value) (l : List (List Fr)) (p : (List Fr) → Bool) (w : World) (hl : IsTab w vl l)
    (hf : ∀ (i : Nat) (x : List Fr) (u : Value) (w' : World), l[i]? = some x → Ext w w' → IsFracs w' u x → Calls Tryz.prog g (#[u] ++ lb) w' fun e w'' => e = .returned (.bool (p x)) ∧ Ext w' w'') :
    Calls Tryz.prog 164 #[vl, .func (.func g) #[] lb] w fun e w' => ∃ z : Int, e = .returned (.int .i64 z) ∧ decide (0 ≤ z) = l.any p ∧ Ext w w' := by
  obtain ⟨A, c, rfl, hc, hmx, _⟩ := id hl
  have HL := Lib.hid hl
  have HF := Lib.hid hf
  have HC := Lib.hid hc
  have HN : Hid (l.length ≤ maxLen) := Nat.le_trans hc hmx
  clear hl hf hmx
  go_enter Tryz.func164, Tryz.ntmps164
  go_wp2_with fail
  go_loopw [8] (fun t wr => ∃ i : Nat, t = .int .i64 (i : Int) ∧ i ≤ l.length ∧ (l.take i).any p = false ∧ Ext w wr) (fun t _ => upTo l.length t)
  case atStart => exact ⟨0, rfl, Nat.zero_le _, rfl, Ext.refl _⟩
  case round =>
    obtain ⟨i, rfl, hi, hany, hE⟩ := hrel
    by_cases hlt : i < l.length
    · obtain ⟨x, hx⟩ : ∃ x, l[i]? = some x := ⟨l[i], List.getElem?_eq_getElem hlt⟩
      obtain ⟨b, o, u, rfl, k1, k2⟩ := IsTab.get HL.out hx
      have q1 := hE.cell k1
      have HCF := Lib.hid (HF.out i x u wr hx hE (k2.mono hE))
      clear k1 k2
      have HWI : Hid (wrap64 ((i : Int) + 1) = ((i + 1 : Nat) : Int)) := by
        have := HN.out
        unfold maxLen at this
        show wrap64 ((i : Int) + 1) = ((i + 1 : Nat) : Int)
        rw [IntWalk.wrap64_in _ (by omega)]
        omega
      have hicap : i < c := by have := HC.out; omega
      have htk := take_snoc hx
      have HT := Lib.hid (show (l.take (i + 1)).any p = p x by rw [htk, List.any_append, hany]; simp)
      have HM : Hid (p x = true → l.any p = true) := fun h => List.any_eq_true.2 ⟨x, List.mem_of_getElem? hx, h⟩
      clear hany htk
      cases hpx : p x with
      | true =>
        rw [hpx] at HCF
        have HM2 := Lib.hid (HM.out hpx)
        clear hpx
        go_wp2_with fail
        refine HCF.out.mono ?_
        rintro e w3 ⟨rfl, hE3⟩
        go_wp2
        go_ret
        refine ⟨_, rfl, ?_, Ext.trans _ _ _ hE hE3⟩
        rw [HM2.out, decide_eq_true (Int.natCast_nonneg _)]
      | false =>
        rw [hpx] at HCF HT
        clear hpx
        go_wp2_with fail
        refine HCF.out.mono ?_
        rintro e w3 ⟨rfl, hE3⟩
        go_wp2_with fail
        go_roundw
        case rel => exact ⟨i + 1, by rw [HWI.out], hlt, HT.out, Ext.trans _ _ _ hE hE3⟩
        case measure =>
          rw [HWI.out]
          exact upTo_lt hlt
    · have hin : i = l.length := by omega
      have HA : Hid (l.any p = false) := by rw [hin, List.take_length] at hany; exact hany
      clear hany hin
      go_wp2
      go_ret
      refine ⟨_, rfl, ?_, hE⟩
      rw [HA.out]
      rfl
set_option maxRecDepth 100000 in
theorem containsT_any (g : Nat) (lb : Array Value) (eg : ∀ args w, (callFunc g args).run Tryz.prog w = .ok (.enter g args) w) (vl : Value) (l : List (List Fr)) (p : (List Fr) → Bool) (w : World) (hl : IsTab w vl l)
    (hf : ∀ (i : Nat) (x : List Fr) (u : Value) (w' : World), l[i]? = some x → Ext w w' → IsFracs w' u x → Calls Tryz.prog g (#[u] ++ lb) w' fun e w'' => e = .returned (.bool (p x)) ∧ Ext w' w'') :
    Calls Tryz.prog 125 #[vl, .func (.func g) #[] lb] w fun e w' => e = .returned (.bool (l.any p)) ∧ Ext w w' := by
  have HI := Lib.hid (idxT_any g lb eg vl l p w hl hf)
  clear hl hf
  go_enter Tryz.func125, Tryz.ntmps125
  go_wp2_with fail
  refine HI.out.mono ?_
  rintro e w1 ⟨z, rfl, hz, hE⟩
  have HZ := Lib.hid hz
  clear hz
  go_wp2
  go_ret
  refine ⟨?_, hE⟩
  rw [← HZ.out]
  rfl
end Go.Proofs.Xx
end
