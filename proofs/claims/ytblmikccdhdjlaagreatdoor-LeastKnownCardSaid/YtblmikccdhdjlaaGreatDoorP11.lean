/- A part of the proof: the texts W8. -/
import Derived.Test.YtblmikccdhdjlaaGreatDoorP10
set_option linter.unusedVariables false
set_option linter.unusedSimpArgs false
section
namespace Go.Proofs.Xx
open Go.RowKit Go.V Go.Grow
theorem one_any (n : Nat) (hn : n < G) (w : World) : Calls Tryz.prog 158 #[.int .u64 (n : Int)] w (Ret (.mass n) w) := by
  go_enter Tryz.func158, Tryz.ntmps158
  go_wp2_with fail
  have hO : Own (w.alloc (.cells #[.int .u64 (n : Int)] 192)) w.heap.size [n] := Own.new w [n] 192
  have hr := hO.reads (c := 1) (Nat.le_refl _) (by unfold maxLen; omega)
  refine (trim_any _ _ _ hr (by simpa using hn)).mono ?_
  rintro e w' ⟨v, rfl, hm, hE⟩
  go_wp2
  go_ret
  refine ⟨_, rfl, ?_, Ext.trans _ _ _ (Ext.alloc _ _) hE⟩
  simpa [Dig.val] using hm

theorem place_gen (B g r x d : Nat) (hB : 0 < B) (hr : r < d) (hx : x < g) (hd : d < B) (hg : g < B) :
    r * g / B + (r * g % B + x) / B < d ∧ (r * g % B + x) % B < B ∧ (r * g / B + (r * g % B + x) / B) * B + (r * g % B + x) % B = r * g + x := by
  have e : (r * g / B + (r * g % B + x) / B) * B + (r * g % B + x) % B = r * g + x := by
    rw [Nat.add_mul, Nat.add_assoc, Nat.div_add_mod' , ← Nat.add_assoc, Nat.div_add_mod']
  refine ⟨?_, Nat.mod_lt _ hB, e⟩
  have h1 : (r * g / B + (r * g % B + x) / B) * B ≤ r * g + x := Nat.le.intro e
  have h2 : r * g + g ≤ d * g := by rw [← Nat.succ_mul]; exact Nat.mul_le_mul_right _ hr
  apply Nat.lt_of_not_le
  intro h
  have h3 := Nat.le_trans (Nat.mul_le_mul_right B h) h1
  have h4 : d * g ≤ d * B := Nat.mul_le_mul_left _ (Nat.le_of_lt hg)
  omega
/-- What one place of a division by one digit comes to. -/
theorem place_by (r x d : Nat) (hr : r < d) (hx : x < G) (hd : d < 18446744073709551616) :
    mulHi r 1000000000000000000 + addHi (mulLo r 1000000000000000000) x < d ∧ addLo (mulLo r 1000000000000000000) x < 18446744073709551616 ∧
    divQ ((mulHi r 1000000000000000000 + addHi (mulLo r 1000000000000000000) x : Nat) : Int) ((addLo (mulLo r 1000000000000000000) x : Nat) : Int) (d : Int) = (r * G + x) / d ∧
    divR ((mulHi r 1000000000000000000 + addHi (mulLo r 1000000000000000000) x : Nat) : Int) ((addLo (mulLo r 1000000000000000000) x : Nat) : Int) (d : Int) = (r * G + x) % d := by
  have hG : G = 1000000000000000000 := rfl
  rw [← hG]
  obtain ⟨p, q, e⟩ := place_gen 18446744073709551616 G r x d (by omega) hr hx hd (by rw [hG]; omega)
  have h1 : mulHi r G + addHi (mulLo r G) x = r * G / 18446744073709551616 + (r * G % 18446744073709551616 + x) / 18446744073709551616 := by
    unfold mulHi addHi mulLo; exact rfl
  have h2 : addLo (mulLo r G) x = (r * G % 18446744073709551616 + x) % 18446744073709551616 := by
    unfold addLo mulLo; exact rfl
  rw [h1, h2]
  generalize r * G / 18446744073709551616 + (r * G % 18446744073709551616 + x) / 18446744073709551616 = u at *
  generalize (r * G % 18446744073709551616 + x) % 18446744073709551616 = v at *
  refine ⟨p, q, ?_, ?_⟩
  · unfold divQ; rw [Int.toNat_natCast, Int.toNat_natCast, Int.toNat_natCast, e]
  · unfold divR; rw [Int.toNat_natCast, Int.toNat_natCast, Int.toNat_natCast, e]

def ByRel (w : World) (g : Nat) (xs : List Nat) (d k r : Nat) (wr : World) : Prop :=
  ∃ cur : List Nat, cur.length = xs.length ∧ (∀ z ∈ cur, z < G) ∧ r < d ∧ Dig.val G (xs.drop k) = d * Dig.val G (cur.drop k) + r ∧ Own wr g cur ∧ Ext w wr

theorem by_step {xs cur : List Nat} {d k r : Nat} (hlen : cur.length = xs.length) (hk : k < xs.length) (hd : 0 < d) (hr : r < d) (hx : ∀ z ∈ xs, z < G) (hv : Dig.val G (xs.drop (k + 1)) = d * Dig.val G (cur.drop (k + 1)) + r) :
    (r * G + xs.getD k 0) / d < G ∧ (r * G + xs.getD k 0) % d < d ∧ Dig.val G (xs.drop k) = d * Dig.val G ((cur.set k ((r * G + xs.getD k 0) / d)).drop k) + (r * G + xs.getD k 0) % d := by
  have hxG := Dig.getD_lt hx (by unfold G; omega) k
  refine ⟨?_, Nat.mod_lt _ hd, ?_⟩
  · rw [Nat.div_lt_iff_lt_mul hd]
    have : r * G + G ≤ d * G := by rw [← Nat.succ_mul]; exact Nat.mul_le_mul_right _ hr
    have h2 : d * G = G * d := Nat.mul_comm _ _
    omega
  · have e1 : xs.drop k = xs.getD k 0 :: xs.drop (k + 1) := by
      rw [List.drop_eq_getElem_cons hk, List.getD_eq_getElem?_getD, List.getElem?_eq_getElem hk]; rfl
    have e2 : ∀ q, (cur.set k q).drop k = q :: cur.drop (k + 1) := fun q => by
      rw [List.drop_eq_getElem_cons (by simpa using (by omega : k < cur.length)), List.getElem_set_self, List.drop_set]
      rw [if_pos (by omega)]
    have e3 := Nat.mod_add_div (r * G + xs.getD k 0) d
    rw [e1, e2, Dig.val, Dig.val, hv]
    generalize (r * G + xs.getD k 0) / d = q at *
    generalize (r * G + xs.getD k 0) % d = m at *
    generalize Dig.val G (cur.drop (k + 1)) = Q at *
    have e4 : G * (d * Q + r) = d * (G * Q) + r * G := by rw [Nat.mul_add, Nat.mul_comm r]; congr 1; rw [← Nat.mul_assoc, ← Nat.mul_assoc, Nat.mul_comm G]
    rw [e4, Nat.mul_add]
    omega

set_option maxHeartbeats 1000000 in
theorem by_any (va : Value) (a d : Nat) (w : World) (ha : IsMass w va a) (hd : 0 < d) (hd2 : d < 18446744073709551616) (hs : (mass a).length ≤ 35184372088832) :
    Calls Tryz.prog 157 #[va, .int .u64 (d : Int)] w fun e w' => ∃ v, e = .returned (.tuple #[v, .int .u64 ((a % d : Nat) : Int)]) ∧ IsMass w' v (a / d) ∧ Ext w w' := by
  obtain ⟨A1, c1, rfl, hc1, hm1, hr1⟩ := ha
  have hva : Dig.val G (mass a) = a := Dig.val_digs G_two a
  have hla := mass_lt a
  generalize mass a = xs at *
  unfold maxLen at hm1
  have hmk := make_mass (xs.length : Int) (by omega) (by omega)
  go_enter Tryz.func157, Tryz.ntmps157
  go_wp2
  have hadd := add64
  have hO : Own (w.alloc (.cells (u64s (List.replicate xs.length 0)).toArray 192)) w.heap.size (List.replicate xs.length 0) := Own.new _ _ _
  have hE : Ext w (w.alloc (.cells (u64s (List.replicate xs.length 0)).toArray 192)) := Ext.alloc _ _
  generalize w.alloc (.cells (u64s (List.replicate xs.length 0)).toArray 192) = W at *
  clear hmk
  generalize hge : w.heap.size = g at hO ⊢
  have hg : w.heap.size ≤ g := by omega
  clear hge
  go_loopw [8, 7] (fun t c wr => ∃ k r : Nat, k ≤ xs.length ∧ t = .int .i64 ((k : Int) - 1) ∧ c = .int .u64 (r : Int) ∧ ByRel w g xs d k r wr) (fun t _ _ => (intOf t + 1).toNat)
  case atStart =>
    refine ⟨xs.length, 0, Nat.le_refl _, rfl, rfl, _, by simp, ?_, hd, ?_, hO, hE⟩
    · intro z hz
      rw [(List.mem_replicate.1 hz).2]
      unfold G; omega
    · simp [Dig.val]
  case round =>
    obtain ⟨k, r, hk, rfl, rfl, cur, hlen, hcur, hrd, hv, hO, hE⟩ := hrel
    rcases k with _ | k
    · have hrd' : Reads wr (.slice (some ⟨g, 0, none⟩) xs.length xs.length) cur := by
        have := hO.reads (c := cur.length) (Nat.le_refl _) (by unfold maxLen; omega)
        rwa [hlen] at this
      have h1 : Dig.val G cur = a / d ∧ r = a % d := by
        rw [List.drop_zero, List.drop_zero, hva] at hv
        rw [hv, Nat.mul_add_div hd, Nat.div_eq_of_lt hrd, Nat.mul_add_mod, Nat.mod_eq_of_lt hrd]
        exact ⟨rfl, rfl⟩
      have H1 := Lib.hid h1; clear h1 hv
      have HL := Lib.hid hlen; clear hlen
      go_wp2_with fail
      refine (trim_any _ _ _ hrd' hcur).mono ?_
      rintro e w' ⟨v, rfl, hm, hE2⟩
      go_wp2
      go_ret2
      rw [H1.out.2]
      have hm' : IsMass w' v (Dig.val G cur) := hm
      rw [H1.out.1] at hm'
      exact ⟨v, rfl, hm', Ext.trans _ _ _ hE hE2⟩
    · obtain ⟨b1, o1, rfl, hc⟩ := hr1.at k (by omega)
      have hst := by_step hlen (by omega) hd hrd hla hv
      have hxG := Dig.getD_lt hla (by unfold G; omega) k
      have hcx := hE.cell hc
      have hco := hO.cell k (by omega)
      have hcf := hO.frozen k
      have hb1 : k < xs.length := by omega
      clear hc hv
      obtain ⟨x, hxe⟩ : ∃ x, x = xs.getD k 0 := ⟨_, rfl⟩
      rw [← hxe] at hcx hxG hst
      clear hxe
      obtain ⟨p1, p2, p4, p5⟩ := place_by r x d hrd hxG hd2
      have hw1 : IntKind.u64.wrap ((mulHi r 1000000000000000000 : Int) + (addHi (mulLo r 1000000000000000000) x : Int)) = ((mulHi r 1000000000000000000 + addHi (mulLo r 1000000000000000000) x : Nat) : Int) := by rw [← Int.natCast_add]; exact wrap_u64 _ (by omega)
      have PP : Hid (_ ∧ _) := And.intro p4 p5
      clear p4 p5
      have hM := mul64 r 1000000000000000000 wr (by omega) (by omega)
      rw [show ((1000000000000000000 : Nat) : Int) = 1000000000000000000 from rfl] at hM
      generalize mulHi r 1000000000000000000 + addHi (mulLo r 1000000000000000000) x = t1 at *
      generalize mulHi r 1000000000000000000 = m1 at *
      generalize mulLo r 1000000000000000000 = m2 at *
      have HS := Lib.hid hst; clear hst
      have HL := Lib.hid hlen; clear hlen
      have HM := Lib.hid hM; clear hM
      go_wp2_with fail
      refine HM.out.mono ?_
      rintro e w' ⟨rfl, rfl⟩
      go_wp2_with fail
      refine (div64 _ _ _ _ (by omega) (by omega) (by omega) (by omega) (by omega)).mono ?_
      rintro e w' ⟨rfl, hE2⟩
      rw [PP.out.1, PP.out.2]
      obtain ⟨h1, h2, h3⟩ := HS.out
      have hO2 := hO.ext hE2
      have hcf2 := hO2.frozen k
      have hco2 := hO2.cell k (by rw [HL.out]; omega)
      have hres : ByRel w g xs d k ((r * G + x) % d) (w'.setCell ⟨g, k, none⟩ (.int .u64 (((r * G + x) / d : Nat) : Int))) :=
        ⟨_, by rw [List.length_set]; exact HL.out, Dig.set_lt hcur h1, h2, h3, hO2.set _ _, (Ext.trans _ _ _ hE hE2).set hg _⟩
      clear h1 h2 h3 HS
      have HR := Lib.hid hres; clear hres
      generalize (r * G + x) / d = q at *
      generalize (r * G + x) % d = r2 at *
      go_wp2
      go_roundw
      case rel => exact ⟨k, r2, by omega, by go_num, rfl, HR.out⟩
      case measure => simp [intOf]
end Go.Proofs.Xx
end
