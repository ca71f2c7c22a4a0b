/- A part of the proof: the texts W46. -/
import Derived.Test.YtblmikccdhdjlaaGreatDoorP26
import Derived.Shelf.Abstract
set_option linter.unusedVariables false
set_option linter.unusedSimpArgs false
section
namespace Go.Proofs.Xx
open Go.RowKit Go.V Go.Grow Lin

/-- An element of a list of ratios. -/
theorem IsRats.get {w : World} {A : Option Addr} {l c : Nat} {qs : List Rat} (h : IsRats w (.slice A l c) qs) {i : Nat} {q : Rat} (hq : qs[i]? = some q) :
    ∃ b o p m d, A = some ⟨b, o, none⟩ ∧ w.cell? ⟨b, o + i * 3, none⟩ = some (.bool p) ∧ w.cell? ⟨b, o + i * 3 + 1, none⟩ = some m ∧ w.cell? ⟨b, o + i * 3 + 2, none⟩ = some d ∧ IsRat w (.agg #[.bool p, m, d]) q := by
  obtain ⟨A', c', e, _, _, h4⟩ := h
  cases e
  rcases h4 with h4 | ⟨b, o, h5, h6⟩
  · rw [h4] at hq; cases hq
  · obtain ⟨p, m, d, k1, k2, k3, k4⟩ := h6 i q hq
    exact ⟨b, o, p, m, d, h5, k1, k2, k3, k4⟩

set_option maxHeartbeats 4000000 in
set_option maxRecDepth 100000 in
theorem mappedRN_any (g : Nat) (lb : Array Value) (eg : ∀ args w, (callFunc g args).run Tryz.prog w = .ok (.enter g args) w) (vl : Value) (qs : List Rat) (zs : Nat → Int) (w : World) (hl : IsRats w vl qs) (hlen : qs.length ≤ 1099511627776)
    (hf : ∀ (i : Nat) (q : Rat) (vx : Value) (w' : World), qs[i]? = some q → Ext w w' → IsRat w' vx q → Calls Tryz.prog g (#[vx] ++ lb) w' (Ret (.num (zs i)) w')) :
    Calls Tryz.prog 116 #[vl, .func (.func g) #[] lb] w fun e w' => e = .returned (.slice (some ⟨w.heap.size, 0, none⟩) qs.length qs.length) ∧ NRow w' w.heap.size qs.length zs ∧ Ext w w' := by
  obtain ⟨A, c, rfl, hc, hmx, _⟩ := id hl
  have hmk := make_nums 79 Tryz.underlying79 qs.length hlen
  have E1 : Ext w (w.alloc (.cells (numCells (List.replicate qs.length (false, .slice none 0 0))).toArray 109)) := Ext.alloc _ _
  have R1 := NRow.zeros w qs.length 109
  have HL := Lib.hid hl
  have HF := Lib.hid hf
  have HC := Lib.hid hc
  have HN := Lib.hid hlen
  clear hl hf hmx hlen
  go_enter Tryz.func116, Tryz.ntmps116
  go_wp2_with fail
  have HR1 := Lib.hid R1
  have HE1 := Lib.hid E1
  clear hmk R1 E1
  generalize w.alloc (.cells (numCells (List.replicate qs.length (false, .slice none 0 0))).toArray 109) = W1 at *
  generalize hgs : w.heap.size = gb at *
  have HGS := Lib.hid hgs
  clear hgs
  go_loopw [13] (fun t wr => ∃ i : Nat, t = .int .i64 (i : Int) ∧ i ≤ qs.length ∧ NRow wr gb qs.length (fun j => if j < i then zs j else 0) ∧ Ext w wr) (fun t _ => upTo qs.length t)
  case atStart =>
    refine ⟨0, rfl, Nat.zero_le _, ?_, HE1.out⟩
    simpa using HR1.out
  case round =>
    obtain ⟨i, rfl, hi, hR, hE⟩ := hrel
    by_cases hlt : i < qs.length
    · obtain ⟨q, hq⟩ : ∃ q, qs[i]? = some q := ⟨qs[i], List.getElem?_eq_getElem hlt⟩
      obtain ⟨b, o, p, m, d, rfl, k1, k2, k3, k4⟩ := IsRats.get HL.out hq
      have q1 := hE.cell k1
      have q2 := hE.cell k2
      have q3 := hE.cell k3
      have hk := k4
      obtain ⟨m', d', he, hm', hd'⟩ := hk
      simp only [Value.agg.injEq, Array.mk.injEq, List.cons.injEq, Value.bool.injEq, and_true] at he
      obtain ⟨rfl, rfl, rfl⟩ := he
      obtain ⟨A3, c3, rfl, _⟩ := hm'
      obtain ⟨A4, c4, rfl, _⟩ := hd'
      generalize (mass q.num.natAbs).length = l3 at *
      generalize (mass q.den).length = l4 at *
      generalize decide (q.num < 0) = p at *
      have Ea : Ext wr (wr.alloc (.cells #[.bool p, .slice A3 l3 c3, .slice A4 l4 c4] 111)) := Ext.alloc _ _
      have hcF : Calls Tryz.prog g (#[.agg #[.bool p, .slice A3 l3 c3, .slice A4 l4 c4]] ++ lb) _ _ := HF.out i q _ _ hq (Ext.trans _ _ _ hE Ea) (k4.mono (Ext.trans _ _ _ hE Ea))
      have HCF := Lib.hid hcF
      have HRR := Lib.hid (hR.ext Ea)
      have HEA := Lib.hid (Ext.trans _ _ _ hE Ea)
      have HWI : Hid (wrap64 ((i : Int) + 1) = ((i + 1 : Nat) : Int)) := by
        have := HN.out
        show wrap64 ((i : Int) + 1) = ((i + 1 : Nat) : Int)
        rw [IntWalk.wrap64_in _ (by omega)]
        omega
      have hicap : i < c := by have := HC.out; omega
      clear hcF hR hE Ea k1 k2 k3 k4
      go_wp2_with fail
      refine HCF.out.mono ?_
      rintro e w3 ⟨v, rfl, hv, hE3⟩
      have hR3 := HRR.out.ext hE3
      obtain ⟨x0, x1, y1, y2, _, y4, y5⟩ := hR3.get hlt
      have HV := Lib.hid hv
      obtain ⟨mm, rfl, hmm⟩ := hv
      have HNS := Lib.hid (hR3.set hlt HV.out).1
      have hgl : w.heap.size ≤ gb := Nat.le_of_eq HGS.out
      have HES := Lib.hid (((Ext.trans _ _ _ HEA.out hE3).set (p := ⟨gb, i * 2, none⟩) hgl (.bool (decide (zs i < 0)))).set (p := ⟨gb, i * 2 + 1, none⟩) hgl mm)
      obtain ⟨A5, c5, rfl, _⟩ := hmm
      generalize (mass (zs i).natAbs).length = l5 at *
      generalize decide (zs i < 0) = p5 at *
      clear hR3 hE3
      go_wp2_with fail
      go_roundw
      case rel =>
        refine ⟨i + 1, by rw [HWI.out], hlt, ?_, HES.out⟩
        obtain ⟨vs, k1, k2, k3⟩ := HNS.out
        refine ⟨vs, k1, k2, fun j p hp => ?_⟩
        have := k3 j p hp
        show IsNum _ _ (if j < i + 1 then zs j else 0)
        by_cases hji : j = i
        · subst hji
          rw [if_pos (by omega)]
          simpa using this
        · by_cases hj2 : j < i
          · rw [if_pos (by omega)]
            simpa [hji, hj2] using this
          · rw [if_neg (by omega)]
            simpa [hji, hj2] using this
      case measure =>
        rw [HWI.out]
        exact upTo_lt hlt
    · have hie : i = qs.length := by omega
      have HRR : Hid (NRow wr gb qs.length zs) := by
        obtain ⟨vs, k1, k2, k3⟩ := hR
        refine ⟨vs, k1, k2, fun j p hp => ?_⟩
        have := k3 j p hp
        have hj := (List.getElem?_eq_some_iff.1 hp).1
        have hji : j < i := by omega
        simpa [hji] using this
      have HEE := Lib.hid hE
      clear hR hE hie
      go_wp2
      go_ret
      have hgb := HGS.out
      subst hgb
      exact ⟨rfl, HRR.out, HEE.out⟩
end Go.Proofs.Xx
end
