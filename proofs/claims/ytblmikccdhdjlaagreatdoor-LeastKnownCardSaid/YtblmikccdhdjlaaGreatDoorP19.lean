/- A part of the proof: the texts W19, W20, W21, W22, W23, XVals. -/
import Derived.Test.YtblmikccdhdjlaaGreatDoorP17
import Derived.Test.YtblmikccdhdjlaaGreatDoorP18
set_option linter.unusedVariables false
set_option linter.unusedSimpArgs false
section
namespace Go.Proofs.Xx
open Go.RowKit Go.V Go.Grow

theorem alloc2 (w : World) (o1 o2 : Obj) : Ext w ((w.alloc o1).alloc o2) := ((Below.refl _ _).alloc (Nat.le_refl _) _).alloc (by simp) _

set_option maxHeartbeats 2000000 in
theorem lowest_any (va vb : Value) (a : Int) (b : Nat) (w : World) (ha : IsNum w va a) (hb : IsMass w vb b) (hb0 : 0 < b) (hs : (mass a.natAbs).length ≤ 8796093022208) (hs2 : (mass b).length ≤ 8796093022208) :
    Calls Tryz.prog 144 #[va, vb] w (Ret (.rat (mkRat a b)) w) := by
  obtain ⟨ma, rfl, hma⟩ := ha
  have hg : 0 < Nat.gcd a.natAbs b := Nat.gcd_pos_of_pos_right _ hb0
  have HC : Hid (∀ w' : World, Ext w w' → Calls Tryz.prog 155 #[ma, vb] w' (Ret (.mass (Nat.gcd a.natAbs b)) w')) := fun w' hE => common_any _ _ _ _ _ (hma.mono hE) (hb.mono hE) hs hs2
  have HO1 : Hid (∀ (v : Value) (w' : World), Ext w w' → IsMass w' v (Nat.gcd a.natAbs b) → Calls Tryz.prog 114 #[ma, v] w' fun e w'' => ∃ q r, e = .returned (.tuple #[q, r]) ∧ IsMass w'' q (a.natAbs / Nat.gcd a.natAbs b) ∧ IsMass w'' r (a.natAbs % Nat.gcd a.natAbs b) ∧ Ext w' w'') := fun v w' hE hv =>
    over_any _ _ _ _ _ (hma.mono hE) hv hg hs
  have HO2 : Hid (∀ (v : Value) (w' : World), Ext w w' → IsMass w' v (Nat.gcd a.natAbs b) → Calls Tryz.prog 114 #[vb, v] w' fun e w'' => ∃ q r, e = .returned (.tuple #[q, r]) ∧ IsMass w'' q (b / Nat.gcd a.natAbs b) ∧ IsMass w'' r (b % Nat.gcd a.natAbs b) ∧ Ext w' w'') := fun v w' hE hv =>
    over_any _ _ _ _ _ (hb.mono hE) hv hg hs2
  have HFIN : Hid (∀ (m d : Value) (w' : World), IsMass w' m (a.natAbs / Nat.gcd a.natAbs b) → IsMass w' d (b / Nat.gcd a.natAbs b) → IsRat w' (.agg #[.bool (decide (a < 0)), m, d]) (mkRat a b)) := fun m d w' h1 h2 => by
    have hd : b ≠ 0 := by omega
    refine ⟨m, d, ?_, ?_, ?_⟩
    · rw [decide_eq_decide.2 (Lin.mkRat_num_neg a b hd)]
    · rw [Lin.mkRat_num_abs a b hd]; exact h1
    · rw [Lin.mkRat_den_eq a b hd]; exact h2
  generalize decide (a < 0) = p at *
  have E0 : Ext w ((w.alloc (.cells #[.bool p, ma] 109)).alloc (.cells #[.bool false, .slice none 0 0, .slice none 0 0] 111)) := alloc2 _ _ _
  generalize Nat.gcd a.natAbs b = g at *
  clear hma hb hg hs hs2 hb0
  go_enter Tryz.func144, Tryz.ntmps144
  go_wp2_with fail
  refine (HC.out _ E0).mono ?_
  rintro e w1 ⟨v5, rfl, h5, hE⟩
  have E1 := Ext.trans _ _ _ E0 hE
  have hX := hE.old
  clear HC
  go_wp2_with fail
  refine (HO1.out _ _ E1 h5).mono ?_
  rintro e w2 ⟨v6, v7, rfl, h6, _, hE2⟩
  have E2 := Ext.trans _ _ _ E1 hE2
  have h5 := IsMass.mono h5 hE2
  clear HO1 hX E1
  have hE3 := Ext.trans _ _ _ hE hE2
  have hX := hE3.old
  go_wp2_with fail
  refine (HO2.out _ _ E2 h5).mono ?_
  rintro e w3 ⟨v1, v8, rfl, h1, _, hE4⟩
  have E3 := Ext.trans _ _ _ E2 hE4
  have h6 := IsMass.mono h6 hE4
  have hE5 := Ext.trans _ _ _ hE3 hE4
  clear HO2 hX E2 hE hE2 hE3 h5
  have hX := hE5.old
  have HR := Lib.hid (HFIN.out _ _ _ h6 h1)
  obtain ⟨A6, c6, rfl, _⟩ := h6
  obtain ⟨A1, c1, rfl, _⟩ := h1
  generalize (mass (a.natAbs / g)).length = l6 at *
  generalize (mass (b / g)).length = l1 at *
  clear HFIN
  go_wp2
  refine bodyPost_ret (v := .agg #[.bool p, .slice A6 l6 c6, .slice A1 l1 c1]) (by simp [results, Tryz.results144, go_sem, hX]) rfl ⟨_, rfl, ?_, ?_⟩
  · exact IsRat.stored HR.out (x0 := .bool false) (x1 := .slice none 0 0) (x2 := .slice none 0 0) (by go_simp) (by go_simp) (by go_simp) (notInt_bool _) (notInt_slice _ _ _) (notInt_slice _ _ _) _ _ _
  · exact ((E3.set (by simp) _).set (by simp) _).set (by simp) _
end Go.Proofs.Xx
end
section
namespace Go.Proofs.Xx
open Go.RowKit Go.V Go.Grow

theorem mass_len_mul (x y : Nat) : (mass (x * y)).length ≤ (mass x).length + (mass y).length := by
  apply Dig.digs_len_le G_two
  rw [Nat.pow_add]
  exact Nat.mul_lt_mul'' (Dig.lt_digs_len G_two x) (Dig.lt_digs_len G_two y)
theorem mass_len_add {x y n : Nat} (hx : (mass x).length ≤ n) (hy : (mass y).length ≤ n) : (mass (x + y)).length ≤ n + 1 := by
  apply Dig.digs_len_le G_two
  have h1 := Nat.lt_of_lt_of_le (Dig.lt_digs_len G_two x) (Nat.pow_le_pow_right (by unfold G; omega) hx)
  have h2 := Nat.lt_of_lt_of_le (Dig.lt_digs_len G_two y) (Nat.pow_le_pow_right (by unfold G; omega) hy)
  have h3 : G ^ n * 2 ≤ G ^ n * G := Nat.mul_le_mul_left _ G_two
  rw [Nat.pow_succ]
  omega
/-- A fraction's parts have at most n places. -/
def Sz (a : Rat) (n : Nat) : Prop := (mass a.num.natAbs).length ≤ n ∧ (mass a.den).length ≤ n
theorem Sz.mono {a : Rat} {m n : Nat} (h : Sz a m) (hmn : m ≤ n) : Sz a n := ⟨Nat.le_trans h.1 hmn, Nat.le_trans h.2 hmn⟩
theorem Sz.mk {n : Int} {d k : Nat} (hd : 0 < d) (h1 : (mass n.natAbs).length ≤ k) (h2 : (mass d).length ≤ k) : Sz (mkRat n d) k := by
  have hd' : d ≠ 0 := by omega
  refine ⟨?_, ?_⟩
  · rw [Lin.mkRat_num_abs n d hd']
    exact Nat.le_trans (mass_len_mono (Nat.div_le_self _ _)) h1
  · rw [Lin.mkRat_den_eq n d hd']
    exact Nat.le_trans (mass_len_mono (Nat.div_le_self _ _)) h2
theorem Sz.mul {a b : Rat} {m n : Nat} (ha : Sz a m) (hb : Sz b n) : Sz (a * b) (m + n) := by
  rw [Rat.mul_def']
  refine Sz.mk (Nat.mul_pos a.den_pos b.den_pos) ?_ ?_
  · rw [Int.natAbs_mul]
    exact Nat.le_trans (mass_len_mul _ _) (Nat.add_le_add ha.1 hb.1)
  · exact Nat.le_trans (mass_len_mul _ _) (Nat.add_le_add ha.2 hb.2)
theorem Sz.num_add {a b : Rat} {m n : Nat} (ha : Sz a m) (hb : Sz b n) : (mass (a.num * b.den + b.num * a.den).natAbs).length ≤ m + n + 1 := by
  have h1 : (mass (a.num * b.den).natAbs).length ≤ m + n := by
    rw [Int.natAbs_mul, Int.natAbs_natCast]
    exact Nat.le_trans (mass_len_mul _ _) (Nat.add_le_add ha.1 hb.2)
  have h2 : (mass (b.num * a.den).natAbs).length ≤ m + n := by
    rw [Int.natAbs_mul, Int.natAbs_natCast]
    have h3 := mass_len_mul b.num.natAbs a.den
    have h4 := ha.2; have h5 := hb.1
    omega
  exact Nat.le_trans (mass_len_mono (Int.natAbs_add_le _ _)) (mass_len_add h1 h2)
theorem Sz.add {a b : Rat} {m n : Nat} (ha : Sz a m) (hb : Sz b n) : Sz (a + b) (m + n + 1) := by
  rw [Rat.add_def']
  refine Sz.mk (Nat.mul_pos a.den_pos b.den_pos) (Sz.num_add ha hb) ?_
  have h1 := mass_len_mul a.den b.den
  have h2 := ha.2; have h3 := hb.2
  omega
theorem Sz.neg {a : Rat} {n : Nat} (h : Sz a n) : Sz (-a) n := ⟨by rw [Rat.neg_num, Int.natAbs_neg]; exact h.1, by rw [Rat.neg_den]; exact h.2⟩
theorem Sz.inv {a : Rat} {n : Nat} (h : Sz a n) (h0 : a ≠ 0) : Sz a⁻¹ n := by
  have hn : a.num ≠ 0 := fun e => h0 (Rat.num_eq_zero.1 e)
  refine ⟨?_, ?_⟩
  · rw [Rat.num_inv, Int.natAbs_mul, Int.natAbs_sign_of_ne_zero hn, Nat.one_mul, Int.natAbs_natCast]; exact h.2
  · rw [Rat.den_inv, if_neg hn]; exact h.1

theorem alloc3r (w : World) (o1 o2 o3 : Obj) : Ext w (((w.alloc o1).alloc o2).alloc o3).drew := Ext.trans _ _ _ (alloc3 w o1 o2 o3) (Ext.drew _)

set_option maxHeartbeats 2000000 in
theorem rtimes_any (va vb : Value) (a b : Rat) (w : World) (ha : IsRat w va a) (hb : IsRat w vb b) {m n : Nat} (hsa : Sz a m) (hsb : Sz b n) (hmn : m + n ≤ 8796093022208) :
    Calls Tryz.prog 97 #[va, vb] w (Ret (.rat (a * b)) w) := by
  have hP : Hid (∀ (va vb : Value) (w' : World), IsNum w' va a.num → IsNum w' vb b.num → Calls Tryz.prog 115 #[va, vb] w' (Ret (.num (a.num * b.num)) w')) := fun va vb w' h1 h2 =>
    product_any va vb _ _ w' h1 h2 (by have := hsa.1; have := hsb.1; omega)
  have hT : Hid (∀ (va vb : Value) (w' : World), IsMass w' va a.den → IsMass w' vb b.den → Calls Tryz.prog 146 #[va, vb] w' (Ret (.mass (a.den * b.den)) w')) := fun va vb w' h1 h2 =>
    times_mass mul64 div64 va vb _ _ w' h1 h2 (by have := hsa.2; have := hsb.2; omega)
  have hL : Hid (∀ (va vb : Value) (w' : World), IsNum w' va (a.num * b.num) → IsMass w' vb (a.den * b.den) → Calls Tryz.prog 144 #[va, vb] w' (Ret (.rat (a * b)) w')) := fun va vb w' h1 h2 => by
    rw [Rat.mul_def']
    refine lowest_any va vb _ _ w' h1 h2 (Nat.mul_pos a.den_pos b.den_pos) ?_ ?_
    · rw [Int.natAbs_mul]
      exact Nat.le_trans (Nat.le_trans (mass_len_mul _ _) (Nat.add_le_add hsa.1 hsb.1)) hmn
    · exact Nat.le_trans (Nat.le_trans (mass_len_mul _ _) (Nat.add_le_add hsa.2 hsb.2)) hmn
  clear hsa hsb hmn
  obtain ⟨ma, da, rfl, hma, hda⟩ := ha
  obtain ⟨mb, db, rfl, hmb, hdb⟩ := hb
  go_enter Tryz.func97, Tryz.ntmps97
  go_wp2
  refine ro_region 11 [none, none, none, none, some (.num (a.num * b.num)), none, none, none, none, some (.mass (a.den * b.den)), some (.rat (a * b))] (by kernel_rfl) (by kernel_rfl) ?_
  go_simp
  have E0 : Ext w (((w.alloc (.cells #[.bool (decide (a.num < 0)), ma, da] 111)).alloc (.cells #[.bool (decide (b.num < 0)), mb, db] 111)).alloc (.cells #[.bool false, .slice none 0 0, .slice none 0 0] 111)).drew := alloc3r _ _ _ _
  repeat (apply ro_quiet rfl; (intro w1 hE _; have hX := hE.old; go_simp; exact rfl); go_simp)
  apply ro_call rfl (fun w => by go_simp; exact ⟨rfl, rfl⟩)
  · intro w1 hE hd
    have hE := Ext.trans _ _ _ E0 hE
    exact hP.out _ _ _ ⟨_, rfl, hma.mono hE⟩ ⟨_, rfl, hmb.mono hE⟩
  intro v4
  go_simp
  repeat (apply ro_quiet rfl; (intro w1 hE _; have hX := hE.old; go_simp; exact rfl); go_simp)
  apply ro_call rfl (fun w => by go_simp; exact ⟨rfl, rfl⟩)
  · intro w1 hE hd
    have hE := Ext.trans _ _ _ E0 hE
    exact hT.out _ _ _ (hda.mono hE) (hdb.mono hE)
  intro v9
  go_simp
  apply ro_call rfl (fun w => by go_simp; exact ⟨rfl, rfl⟩)
  · intro w1 hE hd
    simp [depsHold, Region.binds] at hd
    exact hL.out _ _ _ hd.1 hd.2
  intro v10
  go_simp
  refine ro_done (fun w1 hE hf => ?_)
  simp [-List.cons_append] at hf
  obtain ⟨_, _, hr⟩ := hf
  have hr' := hr
  obtain ⟨_, _, rfl, ⟨A1, c1, rfl, _⟩, ⟨A2, c2, rfl, _⟩⟩ := hr
  have hX := hE.old
  simp only [List.drop_succ_cons, List.drop_zero]
  clear hP hT hL
  generalize (mass (a * b).num.natAbs).length = l1 at *
  generalize (mass (a * b).den).length = l2 at *
  go_wp2
  refine bodyPost_ret (v := .agg #[.bool (decide ((a * b).num < 0)), .slice A1 l1 c1, .slice A2 l2 c2]) (by simp [results, Tryz.results97, go_sem, hX]) rfl ⟨_, rfl, ?_, ?_⟩
  · exact hr'.stored (x0 := .bool false) (x1 := .slice none 0 0) (x2 := .slice none 0 0) (by go_simp) (by go_simp) (by go_simp) (notInt_bool _) (notInt_slice _ _ _) (notInt_slice _ _ _) _ _ _
  · exact (((Ext.trans _ _ _ E0 hE).set (by simp; omega) _).set (by simp; omega) _).set (by simp; omega) _
end Go.Proofs.Xx
end
section
namespace Go.Proofs.Xx
open Go.RowKit Go.V Go.Grow

/-- A variable that was just made: a number 0. -/
def freshNum (B : Nat) : Fact := ⟨fun v w => ∃ g, v = .pointer (some ⟨g, 0, none⟩) ∧ B ≤ g ∧ w.heap[g]? = some (.cells #[.bool false, .slice none 0 0] 109 (0, 0)), fun _ _ _ hE ⟨g, h1, h0, h2⟩ => ⟨g, h1, h0, (hE.block g (Array.getElem?_eq_some_iff.1 h2).1).trans h2⟩⟩
theorem fresh_cells {w : World} {g : Nat} (h : w.heap[g]? = some (.cells #[.bool false, .slice none 0 0] 109 (0, 0))) : w.cell? ⟨g, 0, none⟩ = some (.bool false) ∧ w.cell? ⟨g, 1, none⟩ = some (.slice none 0 0) ∧ w.frozen? ⟨g, 0, none⟩ = false ∧ w.frozen? ⟨g, 1, none⟩ = false := by
  refine ⟨?_, ?_, ?_, ?_⟩ <;> simp [World.cell?, World.frozen?, h]

set_option maxHeartbeats 4000000 in
theorem rplus_any (va vb : Value) (a b : Rat) (w : World) (ha : IsRat w va a) (hb : IsRat w vb b) {m n : Nat} (hsa : Sz a m) (hsb : Sz b n) (hmn : m + n + 1 ≤ 8796093022208) :
    Calls Tryz.prog 96 #[va, vb] w (Ret (.rat (a + b)) w) := by
  have hP1 : Hid (∀ (va vb : Value) (w' : World), IsNum w' va a.num → IsNum w' vb (b.den : Int) → Calls Tryz.prog 115 #[va, vb] w' (Ret (.num (a.num * b.den)) w')) := fun va vb w' h1 h2 =>
    product_any va vb _ _ w' h1 h2 (by have := hsa.1; have := hsb.2; rw [Int.natAbs_natCast]; omega)
  have hP2 : Hid (∀ (va vb : Value) (w' : World), IsNum w' va b.num → IsNum w' vb (a.den : Int) → Calls Tryz.prog 115 #[va, vb] w' (Ret (.num (b.num * a.den)) w')) := fun va vb w' h1 h2 =>
    product_any va vb _ _ w' h1 h2 (by have := hsa.2; have := hsb.1; rw [Int.natAbs_natCast]; omega)
  have hS : Hid (∀ (va vb : Value) (w' : World), IsNum w' va (a.num * b.den) → IsNum w' vb (b.num * a.den) → Calls Tryz.prog 145 #[va, vb] w' (Ret (.num (a.num * b.den + b.num * a.den)) w')) := fun va vb w' h1 h2 =>
    sum_any va vb _ _ w' h1 h2 (by
      rw [Int.natAbs_mul, Int.natAbs_mul, Int.natAbs_natCast, Int.natAbs_natCast]
      have h3 := mass_len_mul a.num.natAbs b.den; have h4 := mass_len_mul b.num.natAbs a.den
      have h5 := hsa.1; have h6 := hsa.2; have h7 := hsb.1; have h8 := hsb.2
      omega)
  have hT : Hid (∀ (va vb : Value) (w' : World), IsMass w' va a.den → IsMass w' vb b.den → Calls Tryz.prog 146 #[va, vb] w' (Ret (.mass (a.den * b.den)) w')) := fun va vb w' h1 h2 =>
    times_mass mul64 div64 va vb _ _ w' h1 h2 (by have := hsa.2; have := hsb.2; omega)
  have hL : Hid (∀ (va vb : Value) (w' : World), IsNum w' va (a.num * b.den + b.num * a.den) → IsMass w' vb (a.den * b.den) → Calls Tryz.prog 144 #[va, vb] w' (Ret (.rat (a + b)) w')) := fun va vb w' h1 h2 => by
    rw [Rat.add_def']
    refine lowest_any va vb _ _ w' h1 h2 (Nat.mul_pos a.den_pos b.den_pos) ?_ ?_
    · exact Nat.le_trans (Sz.num_add hsa hsb) hmn
    · exact Nat.le_trans (Nat.le_trans (mass_len_mul _ _) (Nat.add_le_add hsa.2 hsb.2)) (by omega)
  clear hsa hsb hmn
  obtain ⟨ma, da, rfl, hma, hda⟩ := ha
  obtain ⟨mb, db, rfl, hmb, hdb⟩ := hb
  go_enter Tryz.func96, Tryz.ntmps96
  have E0 : Ext w (((w.alloc (.cells #[.bool (decide (a.num < 0)), ma, da] 111)).alloc (.cells #[.bool (decide (b.num < 0)), mb, db] 111)).alloc (.cells #[.bool false, .slice none 0 0, .slice none 0 0] 111)).drew := alloc3r _ _ _ _
  go_upto_region 1 with fail
  refine ro_region 7 [none, none, none, none, some (.num (b.den : Int)), some (.num (a.num * b.den)), some (freshNum (w.heap.size + 3))] (by kernel_rfl) (by kernel_rfl) ?_
  go_simp
  repeat (apply ro_quiet rfl; (intro w1 hE _; have hX := hE.old; go_simp; exact rfl); go_simp)
  apply ro_call rfl (fun w => by go_simp; exact ⟨rfl, rfl⟩)
  · intro w1 hE hd
    exact positive_any _ _ _ (hdb.mono (Ext.trans _ _ _ E0 hE))
  intro v4
  go_simp
  apply ro_call rfl (fun w => by go_simp; exact ⟨rfl, rfl⟩)
  · intro w1 hE hd
    simp [depsHold, Region.binds] at hd
    exact hP1.out _ _ _ ⟨_, rfl, hma.mono (Ext.trans _ _ _ E0 hE)⟩ hd
  intro v5
  go_simp
  apply ro_run rfl
  · intro w1 hE hd
    go_simp
    exact ⟨_, _, ⟨rfl, rfl⟩, Ext.alloc _ _, _, rfl, by have := hE.size; simp at this; omega, heap_alloc_new _ _⟩
  intro v6
  go_simp
  refine ro_done (fun w1 hE hf => ?_)
  simp [-List.cons_append] at hf
  obtain ⟨_, hm, g, rfl, hg, hgc⟩ := hf
  obtain ⟨hc0, hc1, hf0, hf1⟩ := fresh_cells hgc
  have HM := Lib.hid hm
  obtain ⟨m5, rfl, A5, c5, rfl, _⟩ := hm
  simp only [List.drop_succ_cons, List.drop_zero]
  clear hgc
  generalize (mass (a.num * b.den).natAbs).length = l5 at *
  go_upto_region 2 with fail
  have HM2 := Lib.hid (IsNum.stored HM.out hc0 hc1 (notInt_bool _) (notInt_slice _ _ _) (.bool (decide (a.num * (b.den : Int) < 0))) (.slice A5 l5 c5))
  have E2 := (hE.set (p := ⟨g, 0, none⟩) (by simp; omega) (.bool (decide (a.num * (b.den : Int) < 0)))).set (p := ⟨g, 1, none⟩) (by simp; omega) (.slice A5 l5 c5)
  have k0 : ((w1.setCell ⟨g, 0, none⟩ (.bool (decide (a.num * (b.den : Int) < 0)))).setCell ⟨g, 1, none⟩ (.slice A5 l5 c5)).cell? ⟨g, 0, none⟩ = some (.bool (decide (a.num * (b.den : Int) < 0))) := by
    rw [World.cell?_setCell_other _ _ _ _ (by simp)]
    exact World.cell?_setCell_same _ _ _ hc0
  have k1 : ((w1.setCell ⟨g, 0, none⟩ (.bool (decide (a.num * (b.den : Int) < 0)))).setCell ⟨g, 1, none⟩ (.slice A5 l5 c5)).cell? ⟨g, 1, none⟩ = some (.slice A5 l5 c5) := by
    apply World.cell?_setCell_same (u := .slice none 0 0)
    rw [World.cell?_setCell_other _ _ _ _ (by simp)]
    exact hc1
  generalize (w1.setCell ⟨g, 0, none⟩ (.bool (decide (a.num * (b.den : Int) < 0)))).setCell ⟨g, 1, none⟩ (.slice A5 l5 c5) = W2 at *
  have E3 := Ext.trans _ _ _ E0 E2
  clear hE hf0 hf1 hc0 hc1 HM hP1
  refine ro_region 14 [none, none, none, none, none, some (.num (a.den : Int)), some (.num (b.num * a.den)), some (.num (a.num * b.den + b.num * a.den)), none, none, none, none, some (.mass (a.den * b.den)), some (.rat (a + b))] (by kernel_rfl) (by kernel_rfl) ?_
  go_simp
  repeat (apply ro_quiet rfl; (intro w3 hE3 _; have hX := (Ext.trans _ _ _ E2 (Ext.trans _ _ _ (Ext.drew _) hE3)).old; have h0 := (Ext.trans _ _ _ (Ext.drew _) hE3).cell k0; have h1 := (Ext.trans _ _ _ (Ext.drew _) hE3).cell k1; go_simp; exact rfl); go_simp)
  apply ro_call rfl (fun w => by go_simp; exact ⟨rfl, rfl⟩)
  · intro w3 hE3 hd
    exact positive_any _ _ _ (hda.mono (Ext.trans _ _ _ E3 (Ext.trans _ _ _ (Ext.drew _) hE3)))
  intro v17
  go_simp
  apply ro_call rfl (fun w => by go_simp; exact ⟨rfl, rfl⟩)
  · intro w3 hE3 hd
    simp [depsHold, Region.binds] at hd
    exact hP2.out _ _ _ ⟨_, rfl, hmb.mono (Ext.trans _ _ _ E3 (Ext.trans _ _ _ (Ext.drew _) hE3))⟩ hd
  intro v18
  go_simp
  apply ro_call rfl (fun w => by go_simp; exact ⟨rfl, rfl⟩)
  · intro w3 hE3 hd
    simp [depsHold, Region.binds] at hd
    exact hS.out _ _ _ (HM2.out.mono (Ext.trans _ _ _ (Ext.drew _) hE3)) hd
  intro v19
  go_simp
  repeat (apply ro_quiet rfl; (intro w3 hE3 _; have hX := (Ext.trans _ _ _ E2 (Ext.trans _ _ _ (Ext.drew _) hE3)).old; go_simp; exact rfl); go_simp)
  apply ro_call rfl (fun w => by go_simp; exact ⟨rfl, rfl⟩)
  · intro w3 hE3 hd
    have hE := Ext.trans _ _ _ E3 (Ext.trans _ _ _ (Ext.drew _) hE3)
    exact hT.out _ _ _ (hda.mono hE) (hdb.mono hE)
  intro v24
  go_simp
  apply ro_call rfl (fun w => by go_simp; exact ⟨rfl, rfl⟩)
  · intro w3 hE3 hd
    simp [depsHold, Region.binds] at hd
    exact hL.out _ _ _ hd.1 hd.2
  intro v25
  go_simp
  refine ro_done (fun w3 hE3 hf => ?_)
  simp [-List.cons_append] at hf
  obtain ⟨_, _, _, _, hr⟩ := hf
  have hr' := hr
  obtain ⟨_, _, rfl, ⟨A1, c1, rfl, _⟩, ⟨A2, c2, rfl, _⟩⟩ := hr
  have hE := Ext.trans _ _ _ E2 (Ext.trans _ _ _ (Ext.drew _) hE3)
  have hX := hE.old
  simp only [List.drop_succ_cons, List.drop_zero]
  clear hP2 hT hL hS k0 k1 HM2
  generalize (mass (a + b).num.natAbs).length = l1 at *
  generalize (mass (a + b).den).length = l2 at *
  go_wp2
  refine bodyPost_ret (v := .agg #[.bool (decide ((a + b).num < 0)), .slice A1 l1 c1, .slice A2 l2 c2]) (by simp [results, Tryz.results96, go_sem, hX]) rfl ⟨_, rfl, ?_, ?_⟩
  · exact hr'.stored (x0 := .bool false) (x1 := .slice none 0 0) (x2 := .slice none 0 0) (by go_simp) (by go_simp) (by go_simp) (notInt_bool _) (notInt_slice _ _ _) (notInt_slice _ _ _) _ _ _
  · exact (((Ext.trans _ _ _ E0 hE).set (by simp; omega) _).set (by simp; omega) _).set (by simp; omega) _
end Go.Proofs.Xx
end
section
namespace Go.Proofs.Xx
open Go.RowKit Go.V Go.Grow

set_option maxHeartbeats 4000000 in
theorem rminus_any (va vb : Value) (a b : Rat) (w : World) (ha : IsRat w va a) (hb : IsRat w vb b) {m n : Nat} (hsa : Sz a m) (hsb : Sz b n) (hmn : m + n + 1 ≤ 8796093022208) :
    Calls Tryz.prog 80 #[va, vb] w (Ret (.rat (a - b)) w) := by
  have HA := Lib.hid ha
  have hP : Hid (∀ (va vb : Value) (w' : World), IsRat w' va a → IsRat w' vb (-b) → Calls Tryz.prog 96 #[va, vb] w' (Ret (.rat (a - b)) w')) := fun va vb w' h1 h2 => by
    rw [Rat.sub_eq_add_neg]
    exact rplus_any va vb a (-b) w' h1 h2 hsa hsb.neg hmn
  clear hsa hsb hmn
  obtain ⟨ma, da, rfl, hma, hda⟩ := ha
  obtain ⟨mb, db, rfl, hmb, hdb⟩ := hb
  have HT : Hid (∀ w' : World, Ext w w' → Calls Tryz.prog 131 #[.agg #[.bool (decide (b.num < 0)), mb]] w' (Ret (.num (-b.num)) w')) := fun w' hE => turned_any _ _ _ ⟨_, rfl, hmb.mono hE⟩
  generalize hpa : decide (a.num < 0) = p at *
  generalize hqb : decide (b.num < 0) = q at *
  have HDB := Lib.hid hdb
  obtain ⟨A4, c4, rfl, _⟩ := hdb
  obtain ⟨A3, c3, rfl, _⟩ := hmb
  generalize (mass b.den).length = l4 at *
  generalize (mass b.num.natAbs).length = l3 at *
  clear hpa hqb hma hda
  go_enter Tryz.func80, Tryz.ntmps80
  have E0 : Ext w (((w.alloc (.cells #[.bool p, ma, da] 111)).alloc (.cells #[.bool q, .slice A3 l3 c3, .slice A4 l4 c4] 111)).alloc (.cells #[.bool false, .slice none 0 0, .slice none 0 0] 111)).drew := alloc3r _ _ _ _
  go_upto_region 1 with fail
  refine ro_region 8 [none, none, none, some (.num (-b.num)), none, none, some (.rat (-b)), some (.rat (a - b))] (by kernel_rfl) (by kernel_rfl) ?_
  go_simp
  repeat (apply ro_quiet rfl; (intro w1 hE _; have hX := hE.old; go_simp; exact rfl); go_simp)
  apply ro_call rfl (fun w => by go_simp; exact ⟨rfl, rfl⟩)
  · intro w1 hE hd
    exact HT.out _ (Ext.trans _ _ _ E0 hE)
  intro v8
  go_simp
  repeat (apply ro_quiet rfl; (intro w1 hE _; have hX := hE.old; go_simp; exact rfl); go_simp)
  apply ro_run rfl
  · intro w1 hE hd
    simp [depsHold, Region.binds] at hd
    obtain ⟨m8, rfl, hm8⟩ := hd
    have hm8' := hm8
    obtain ⟨A8, c8, rfl, _⟩ := hm8
    have HR : Hid (IsRat w1 (.agg #[.bool (decide (-b.num < 0)), .slice A8 (mass (-b.num).natAbs).length c8, .slice A4 l4 c4]) (-b)) :=
      ⟨_, _, by rw [Rat.neg_num], by rw [Rat.neg_num]; exact hm8', by rw [Rat.neg_den]; exact HDB.out.mono (Ext.trans _ _ _ E0 hE)⟩
    generalize decide (-b.num < 0) = p8 at *
    generalize (mass (-b.num).natAbs).length = l8 at *
    go_simp
    exact ⟨_, _, ⟨rfl, rfl⟩, Ext.refl _, HR.out⟩
  intro v11
  go_simp
  apply ro_call rfl (fun w => by go_simp; exact ⟨rfl, rfl⟩)
  · intro w1 hE hd
    simp [depsHold, Region.binds] at hd
    exact hP.out _ _ _ (HA.out.mono (Ext.trans _ _ _ E0 hE)) hd.1
  intro v12
  go_simp
  refine ro_done (fun w1 hE hf => ?_)
  simp [-List.cons_append] at hf
  obtain ⟨_, _, hr⟩ := hf
  have hr' := hr
  obtain ⟨_, _, rfl, ⟨A1, c1, rfl, _⟩, ⟨A2, c2, rfl, _⟩⟩ := hr
  have hX := hE.old
  simp only [List.drop_succ_cons, List.drop_zero]
  clear hP HT HA
  generalize (mass (a - b).num.natAbs).length = l1 at *
  generalize (mass (a - b).den).length = l2 at *
  go_wp2
  refine bodyPost_ret (v := .agg #[.bool (decide ((a - b).num < 0)), .slice A1 l1 c1, .slice A2 l2 c2]) (by simp [results, Tryz.results80, go_sem, hX]) rfl ⟨_, rfl, ?_, ?_⟩
  · exact hr'.stored (x0 := .bool false) (x1 := .slice none 0 0) (x2 := .slice none 0 0) (by go_simp) (by go_simp) (by go_simp) (notInt_bool _) (notInt_slice _ _ _) (notInt_slice _ _ _) _ _ _
  · exact (((Ext.trans _ _ _ E0 hE).set (by simp; omega) _).set (by simp; omega) _).set (by simp; omega) _

theorem IsRat.inv {w : World} {m d : Value} {b : Rat} (hb : b ≠ 0) (hm : IsMass w m b.num.natAbs) (hd : IsMass w d b.den) : IsRat w (.agg #[.bool (decide (b.num < 0)), d, m]) b⁻¹ := by
  have hn : b.num ≠ 0 := fun e => hb (Rat.num_eq_zero.1 e)
  refine ⟨d, m, ?_, ?_, ?_⟩
  · have h1 : b⁻¹.num < 0 ↔ b.num < 0 := by
      rw [Rat.num_inv]
      have hp : (0 : Int) < b.den := Int.natCast_pos.2 b.den_pos
      rcases Int.lt_or_gt_of_ne hn with h | h
      · rw [Int.sign_eq_neg_one_of_neg h]; omega
      · rw [Int.sign_eq_one_of_pos h]; omega
    rw [decide_eq_decide.2 h1]
  · rw [Rat.num_inv, Int.natAbs_mul, Int.natAbs_sign_of_ne_zero hn, Nat.one_mul, Int.natAbs_natCast]; exact hd
  · rw [Rat.den_inv, if_neg hn]; exact hm

set_option maxHeartbeats 4000000 in
theorem rover_any (va vb : Value) (a b : Rat) (w : World) (ha : IsRat w va a) (hb : IsRat w vb b) (hb0 : b ≠ 0) {m n : Nat} (hsa : Sz a m) (hsb : Sz b n) (hmn : m + n ≤ 8796093022208) :
    Calls Tryz.prog 128 #[va, vb] w (Ret (.rat (a / b)) w) := by
  obtain ⟨mb, db, rfl, hmb, hdb⟩ := hb
  have HP : Hid (∀ (w' : World), Ext w w' → Calls Tryz.prog 97 #[va, .agg #[.bool (decide (b.num < 0)), db, mb]] w' (Ret (.rat (a / b)) w')) := fun w' hE => by
    rw [Rat.div_def]
    exact rtimes_any va _ a b⁻¹ w' (ha.mono hE) (IsRat.inv hb0 (hmb.mono hE) (hdb.mono hE)) hsa (hsb.inv hb0) hmn
  clear hsa hsb hmn
  obtain ⟨ma, da, rfl, hma, hda⟩ := ha
  generalize decide (a.num < 0) = p at *
  generalize decide (b.num < 0) = q at *
  obtain ⟨A3, c3, rfl, _⟩ := hmb
  obtain ⟨A4, c4, rfl, _⟩ := hdb
  generalize (mass b.num.natAbs).length = l3 at *
  generalize (mass b.den).length = l4 at *
  clear hma hda
  go_enter Tryz.func128, Tryz.ntmps128
  have E0 : Ext w (((w.alloc (.cells #[.bool p, ma, da] 111)).alloc (.cells #[.bool q, .slice A3 l3 c3, .slice A4 l4 c4] 111)).alloc (.cells #[.bool false, .slice none 0 0, .slice none 0 0] 111)) := alloc3 _ _ _ _
  go_wp2_with fail
  refine (HP.out _ E0).mono ?_
  rintro e w1 ⟨v, rfl, hr, hE⟩
  have hr' := hr
  obtain ⟨_, _, rfl, ⟨A1, c1, rfl, _⟩, ⟨A2, c2, rfl, _⟩⟩ := hr
  have hX := hE.old
  clear HP
  generalize (mass (a / b).num.natAbs).length = l1 at *
  generalize (mass (a / b).den).length = l2 at *
  go_wp2
  refine bodyPost_ret (v := .agg #[.bool (decide ((a / b).num < 0)), .slice A1 l1 c1, .slice A2 l2 c2]) (by simp [results, Tryz.results128, go_sem, hX]) rfl ⟨_, rfl, ?_, ?_⟩
  · exact IsRat.stored hr' (x0 := .bool false) (x1 := .slice none 0 0) (x2 := .slice none 0 0) (by go_simp) (by go_simp) (by go_simp) (notInt_bool _) (notInt_slice _ _ _) (notInt_slice _ _ _) _ _ _
  · exact (((Ext.trans _ _ _ E0 hE).set (by simp; omega) _).set (by simp; omega) _).set (by simp; omega) _
end Go.Proofs.Xx
end
section
namespace Go.Proofs.Xx
open Go.RowKit Go.V Go.Grow

set_option maxHeartbeats 2000000 in
set_option maxRecDepth 100000 in
theorem from_any (n : Int) (w : World) (h1 : -9223372036854775808 ≤ n) (h2 : n ≤ 9223372036854775807) : Calls Tryz.prog 117 #[.int .i64 n] w (Ret (.num n) w) := by
  obtain ⟨k, hk⟩ : ∃ k, k = n.natAbs := ⟨_, rfl⟩
  have hkb : k ≤ 9223372036854775808 := by omega
  have hkG : k / G < G ∧ k % G < G := by unfold G; omega
  have hO : Own ((w.alloc (.cells #[.bool false, .slice none 0 0] 109)).alloc (.cells #[.int .u64 ((k % G : Nat) : Int), .int .u64 ((k / G : Nat) : Int)] 192)) (w.heap.size + 1) [k % G, k / G] := by
    have := Own.new (w.alloc (.cells #[.bool false, .slice none 0 0] 109)) [k % G, k / G] 192
    rw [show (w.alloc (.cells #[.bool false, .slice none 0 0] 109)).heap.size = w.heap.size + 1 by simp] at this
    exact this
  have hrd := hO.reads (c := 2) (Nat.le_refl _) (by unfold maxLen; omega)
  have hval : Dig.val G [k % G, k / G] = n.natAbs := by
    rw [← hk]
    simp only [Dig.val, Nat.mul_zero, Nat.add_zero]
    have := Nat.mod_add_div k G
    omega
  have htr := trim_any _ _ _ hrd (by
    intro z hz
    simp only [List.mem_cons, List.not_mem_nil, or_false] at hz
    rcases hz with rfl | rfl
    · exact hkG.2
    · exact hkG.1)
  rw [hval] at htr
  have htr2 : Calls Tryz.prog 161 #[.slice (some ⟨w.heap.size + 1, 0, none⟩) 2 2] _ _ := htr
  have HT := Lib.hid htr2
  have E0 := alloc2 w (.cells #[.bool false, .slice none 0 0] 109) (.cells #[.int .u64 ((k % G : Nat) : Int), .int .u64 ((k / G : Nat) : Int)] 192)
  have hm : (k : Int) % 1000000000000000000 = ((k % G : Nat) : Int) := by unfold G; omega
  have hd : (k : Int) / 1000000000000000000 = ((k / G : Nat) : Int) := by unfold G; omega
  have hw2 : IntKind.u64.wrap ((k / G : Nat) : Int) = ((k / G : Nat) : Int) := wrap_u64 _ (by have := hkG.1; unfold G at this ⊢; omega)
  generalize k % G = r at *
  generalize k / G = q at *
  clear htr htr2 hO hrd hval hkG
  have H1 := Lib.hid h1; have H2 := Lib.hid h2
  have hfin : ∀ (p : Bool), p = decide (n < 0) → ∀ (w1 : World) (v : Value), Ext ((w.alloc (.cells #[.bool false, .slice none 0 0] 109)).alloc (.cells #[.int .u64 (r : Int), .int .u64 (q : Int)] 192)) w1 → IsMass w1 v n.natAbs → IsNum w1 (.agg #[.bool p, v]) n := fun p hp w1 v _ hm => by
    subst hp
    exact ⟨_, rfl, hm⟩
  have HF := Lib.hid hfin
  clear hfin h1 h2
  by_cases hn : n < 0
  · have hw1 : IntKind.u64.wrap (-IntKind.u64.wrap n) = (k : Int) := by
      have := H1.out
      simp only [IntKind.wrap_u64]
      omega
    clear hk hkb
    go_enter Tryz.func117, Tryz.ntmps117
    go_wp2_with fail
    refine HT.out.mono ?_
    rintro e w1 ⟨v, rfl, hv, hE⟩
    have hX := hE.old
    have hc0 : w1.cell? ⟨w.heap.size, 0, none⟩ = some (.bool false) := hE.cell (by go_simp)
    have hc1 : w1.cell? ⟨w.heap.size, 1, none⟩ = some (.slice none 0 0) := hE.cell (by go_simp)
    have HR := Lib.hid (HF.out true (by rw [decide_eq_true hn]) w1 v hE hv)
    obtain ⟨A, c, rfl, _⟩ := hv
    generalize (mass n.natAbs).length = l at *
    go_wp2
    refine bodyPost_ret (v := .agg #[.bool true, .slice A l c]) (by simp [results, Tryz.results117, go_sem, hc0, hc1]) rfl ⟨_, rfl, ?_, ?_⟩
    · exact IsNum.stored HR.out (x0 := .bool false) (x1 := .slice none 0 0) hc0 hc1 (notInt_bool _) (notInt_slice _ _ _) _ _
    · exact ((Ext.trans _ _ _ E0 hE).set (by simp) _).set (by simp) _
  · have hw1 : IntKind.u64.wrap n = (k : Int) := by
      have := H2.out
      simp only [IntKind.wrap_u64]
      omega
    clear hk hkb
    go_enter Tryz.func117, Tryz.ntmps117
    go_wp2_with fail
    refine HT.out.mono ?_
    rintro e w1 ⟨v, rfl, hv, hE⟩
    have hX := hE.old
    have hc0 : w1.cell? ⟨w.heap.size, 0, none⟩ = some (.bool false) := hE.cell (by go_simp)
    have hc1 : w1.cell? ⟨w.heap.size, 1, none⟩ = some (.slice none 0 0) := hE.cell (by go_simp)
    have HR := Lib.hid (HF.out false (decide_eq_false (by omega)).symm w1 v hE hv)
    obtain ⟨A, c, rfl, _⟩ := hv
    generalize (mass n.natAbs).length = l at *
    go_wp2
    refine bodyPost_ret (v := .agg #[.bool false, .slice A l c]) (by simp [results, Tryz.results117, go_sem, hc0, hc1]) rfl ⟨_, rfl, ?_, ?_⟩
    · exact IsNum.stored HR.out (x0 := .bool false) (x1 := .slice none 0 0) hc0 hc1 (notInt_bool _) (notInt_slice _ _ _) _ _
    · exact ((Ext.trans _ _ _ E0 hE).set (by simp) _).set (by simp) _

theorem field_num (b : Bool) (A : Option Addr) (n c : Nat) (w : World) : (Instr.field 109 (.agg #[.bool b, .slice A n c]) 1).run Tryz.prog w = .ok (.slice A n c) w := by kernel_rfl
/-- A whole number as a fraction. -/
theorem fraction_any (va : Value) (a : Int) (w : World) (ha : IsNum w va a) : Calls Tryz.prog 127 #[va] w (Ret (.rat (a : Rat)) w) := by
  obtain ⟨m, rfl, hm⟩ := ha
  have HM := Lib.hid hm
  obtain ⟨A, c, rfl, _⟩ := hm
  have HR : Hid (∀ (w' : World) (d : Value), Ext w w' → IsMass w' d 1 → IsRat w' (.agg #[.bool (decide (a < 0)), .slice A (mass a.natAbs).length c, d]) (a : Rat)) := fun w' d hE hd => ⟨_, _, rfl, HM.out.mono hE, hd⟩
  generalize (mass a.natAbs).length = l at *
  generalize decide (a < 0) = p at *
  have E0 : Ext w ((w.alloc (.cells #[.bool p, .slice A l c] 109)).alloc (.cells #[.bool false, .slice none 0 0, .slice none 0 0] 111)).drew := Ext.trans _ _ _ (alloc2 _ _ _) (Ext.drew _)
  go_enter Tryz.func127, Tryz.ntmps127
  go_upto_region 1 with fail
  refine ro_region 4 [none, some (.num 1), some (.mass 1), some (.rat (a : Rat))] (by kernel_rfl) (by kernel_rfl) ?_
  go_simp
  repeat (apply ro_quiet rfl; (intro w1 hE _; have hX := hE.old; go_simp; exact rfl); go_simp)
  apply ro_call rfl (fun w => by go_simp; exact ⟨rfl, rfl⟩)
  · intro w1 hE hd
    exact from_any 1 w1 (by omega) (by omega)
  intro v4
  go_simp
  apply ro_run rfl
  · intro w1 hE hd
    simp [depsHold, Region.binds] at hd
    obtain ⟨m4, rfl, hm4⟩ := hd
    rw [show Int.natAbs 1 = 1 from rfl] at hm4
    have H4 := Lib.hid hm4
    obtain ⟨A4, c4, rfl, _⟩ := hm4
    generalize (mass 1).length = l4 at *
    have hfd := field_num false A4 l4 c4 w1
    go_simp
    exact ⟨_, _, ⟨rfl, rfl⟩, Ext.refl _, H4.out⟩
  intro v5
  go_simp
  apply ro_run rfl
  · intro w1 hE hd
    simp [depsHold, Region.binds] at hd
    have hd1 := hd
    obtain ⟨A5, c5, rfl, _⟩ := hd1
    have H := Lib.hid (HR.out _ _ (Ext.trans _ _ _ E0 hE) hd)
    generalize (mass 1).length = l5 at *
    go_simp
    exact ⟨_, _, ⟨rfl, rfl⟩, Ext.refl _, H.out⟩
  intro v6
  go_simp
  refine ro_done (fun w1 hE hf => ?_)
  simp [-List.cons_append] at hf
  obtain ⟨_, _, hr⟩ := hf
  have hr' := hr
  obtain ⟨_, _, rfl, ⟨A1, c1, rfl, _⟩, ⟨A2, c2, rfl, _⟩⟩ := hr
  have hX := hE.old
  simp only [List.drop_succ_cons, List.drop_zero]
  clear HR HM
  generalize (mass (a : Rat).num.natAbs).length = l1 at *
  generalize (mass (a : Rat).den).length = l2 at *
  go_wp2
  refine bodyPost_ret (v := .agg #[.bool (decide ((a : Rat).num < 0)), .slice A1 l1 c1, .slice A2 l2 c2]) (by simp [results, Tryz.results127, go_sem, hX]) rfl ⟨_, rfl, ?_, ?_⟩
  · exact hr'.stored (x0 := .bool false) (x1 := .slice none 0 0) (x2 := .slice none 0 0) (by go_simp) (by go_simp) (by go_simp) (notInt_bool _) (notInt_slice _ _ _) (notInt_slice _ _ _) _ _ _
  · exact (((Ext.trans _ _ _ E0 hE).set (by simp) _).set (by simp) _).set (by simp) _
end Go.Proofs.Xx
end
section
namespace Go.V
open Go.RowKit
/-- A slice that reads as a list of ratios: three cells each. -/
def IsRats (w : World) (v : Value) (qs : List Rat) : Prop := ∃ A c, v = .slice A qs.length c ∧ qs.length ≤ c ∧ c ≤ maxLen ∧
  (qs = [] ∨ ∃ b o, A = some ⟨b, o, none⟩ ∧ ∀ i (q : Rat), qs[i]? = some q → ∃ p m d, w.cell? ⟨b, o + i * 3, none⟩ = some (.bool p) ∧ w.cell? ⟨b, o + i * 3 + 1, none⟩ = some m ∧ w.cell? ⟨b, o + i * 3 + 2, none⟩ = some d ∧ IsRat w (.agg #[.bool p, m, d]) q)
theorem IsRats.mono {w w' : World} {v : Value} {qs : List Rat} (h : IsRats w v qs) (hE : Ext w w') : IsRats w' v qs := by
  obtain ⟨A, c, h1, h2, h3, h4⟩ := h
  refine ⟨A, c, h1, h2, h3, ?_⟩
  rcases h4 with h4 | ⟨b, o, h5, h6⟩
  · exact .inl h4
  · refine .inr ⟨b, o, h5, fun i q hq => ?_⟩
    obtain ⟨p, m, d, k1, k2, k3, k4⟩ := h6 i q hq
    exact ⟨p, m, d, hE.cell k1, hE.cell k2, hE.cell k3, k4.mono hE⟩
theorem snoc_ind {α : Type} {P : List α → Prop} (h0 : P []) (h1 : ∀ l x, P l → P (l ++ [x])) (l : List α) : P l := by
  rw [← List.reverse_reverse l]
  induction l.reverse with
  | nil => exact h0
  | cons x l ih => rw [List.reverse_cons]; exact h1 _ _ ih
/-- The least common multiple of denominators. -/
def lcmD (qs : List Rat) : Nat := qs.foldl (fun m q => Nat.lcm m q.den) 1
theorem lcmD_snoc (qs : List Rat) (q : Rat) : lcmD (qs ++ [q]) = Nat.lcm (lcmD qs) q.den := by
  unfold lcmD
  rw [List.foldl_append]
  rfl
theorem lcmD_pos (qs : List Rat) : 0 < lcmD qs := by
  induction qs using snoc_ind with
  | h0 => exact Nat.one_pos
  | h1 l q ih => rw [lcmD_snoc]; exact Nat.lcm_pos ih q.den_pos
theorem lcm_eq (m n : Nat) : m * (n / Nat.gcd m n) = Nat.lcm m n := by
  rw [Nat.lcm, Nat.mul_div_assoc _ (Nat.gcd_dvd_right m n)]
end Go.V
namespace Go.Proofs.Xx
open Go.RowKit Go.V Go.Grow
theorem lcmD_len {s : Nat} : ∀ qs : List Rat, (∀ q ∈ qs, (mass q.den).length ≤ s) → (mass (lcmD qs)).length ≤ qs.length * s + 1 := by
  intro qs
  induction qs using snoc_ind with
  | h0 => intro _; exact Nat.le_trans (Dig.digs_len_le (b := G) (k := 1) G_two (by show (1 : Nat) < G ^ 1; unfold G; omega)) (by simp)
  | h1 l q ih =>
    intro h
    rw [lcmD_snoc]
    have h1 := ih (fun x hx => h x (List.mem_append_left _ hx))
    have h2 := h q (by simp)
    have h3 : Nat.lcm (lcmD l) q.den ≤ lcmD l * q.den := Nat.div_le_self _ _
    have h4 := Nat.le_trans (mass_len_mono h3) (mass_len_mul _ _)
    rw [List.length_append, List.length_singleton, Nat.add_mul]
    omega
theorem take_snoc {α : Type} {l : List α} {k : Nat} {x : α} (h : l[k]? = some x) : l.take (k + 1) = l.take k ++ [x] := by
  rw [List.take_add_one, h]; rfl
end Go.Proofs.Xx
end
