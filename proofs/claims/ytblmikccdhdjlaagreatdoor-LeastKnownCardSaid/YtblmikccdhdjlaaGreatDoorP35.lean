/- A part of the proof: the texts W32, W33, W34, W35. -/
import Derived.Test.YtblmikccdhdjlaaGreatDoorP33
import Derived.Test.YtblmikccdhdjlaaGreatDoorP34
import Derived.Laws.RangeAny
set_option linter.unusedVariables false
set_option linter.unusedSimpArgs false
section
namespace Go.Proofs.Xx
open Go.RowKit Go.V Go.Grow Go.Txt

theorem builderAt_ext {T e : TypeId} {B b : Nat} {p : Value} {bs : List Value} {w w' : World} (h : Lib.BuilderAt T e B b p bs w) (hE : Ext w w') : Lib.BuilderAt T e B b p bs w' := by
  have hlt := h.lt
  obtain ⟨hB, v, hb, hown, hne⟩ := h
  exact ⟨hB, v, (hE.block b hlt).trans hb, hown.kept (row := none) ⟨hE.os, hE.tape, hE.output, hE.size, fun k hk _ => hE.block k hk⟩ (by cases v.ownBlock <;> simp), hne⟩
theorem isBuilder_ext {T e : TypeId} {B b : Nat} {bs : List Value} {w w' : World} (h : Lib.IsBuilder T e B b bs w) (hE : Ext w w') : Lib.IsBuilder T e B b bs w' := by
  rcases h with h | h
  · exact .inl (builderAt_ext h hE)
  · exact .inr (builderAt_ext h hE)
theorem var_mono {P : Program} {w w' : World} {n : String} {cs : Array Value} (h : w.var? P n = some cs) (hE : Ext w w') : w'.var? P n = some cs := by
  unfold World.var? at h ⊢
  cases hg : P.globalNamed n with
  | none => rw [hg] at h; cases h
  | some g =>
    rw [hg] at h
    simp only [Option.bind_some] at h ⊢
    have hlt : g < w.heap.size := by
      rcases Nat.lt_or_ge g w.heap.size with k | k
      · exact k
      · rw [Array.getElem?_eq_none k] at h; cases h
    rw [hE.block g hlt]
    exact h
theorem Tab.mono {w w' : World} (h : Tab w) (hE : Ext w w') : Tab w' := var_mono h hE

theorem bytes_size (l : List UInt8) : (⟨l.toArray⟩ : ByteArray).size = l.length := by
  show l.toArray.size = _
  rw [List.size_toArray]
theorem bytes_app (l k : List UInt8) : (⟨l.toArray⟩ ++ ⟨k.toArray⟩ : ByteArray) = ⟨(l ++ k).toArray⟩ := by
  apply bytes_ext
  simp
/-- A number's digits, filled with 0 to a width. -/
def padded (width u : Nat) : List UInt8 := List.replicate (width - (Lib.decDigits u).length) 48 ++ Lib.decDigits u
theorem repeatL_one' : ∀ k, Lib.repeatL [48] k = List.replicate k 48
  | 0 => rfl
  | k + 1 => by rw [Lib.repeatL, repeatL_one' k]; rfl

set_option maxHeartbeats 2000000 in
set_option maxRecDepth 100000 in
theorem write_any (B b : Nat) (bs : List Value) (u width : Nat) (w : World) (h : Lib.IsBuilder 149 5 B b bs w) (hu : u < 18446744073709551616) (hw : width ≤ 18) (hlen : bs.length ≤ 1000000000000) (htab : Tab w) (hBw : B ≤ w.heap.size) :
    Calls Tryz.prog 171 #[.int .u64 (u : Int), .int .i64 (width : Int), .pointer (some ⟨b, 0, none⟩)] w fun e w' => e = .returned (.tuple #[]) ∧ Lib.IsBuilder 149 5 B b (bs ++ Lib.byteCells (padded width u)) w' ∧ Below B w w' := by
  have HF := Lib.hid (format_any u w hu htab)
  have hnb : (Lib.decDigits u).length ≤ 20 := by
    rw [Lib.decDigits_length]
    by_cases ht : 1 ≤ u
    · have := Lib.numDigits_eq u ht hu; split at this <;> omega
    · rw [Lib.nDigits_small (by omega)]; omega
  have hl0 := decDigits_length_pos u
  have hsz : (⟨(Lib.decDigits u).toArray⟩ : ByteArray).size = (Lib.decDigits u).length := by
    show (Lib.decDigits u).toArray.size = _
    rw [List.size_toArray]
  have hmax : max ((width : Int) - ((Lib.decDigits u).length : Int)) 0 = ((width - (Lib.decDigits u).length : Nat) : Int) := by omega
  have hpad : padded width u = List.replicate (width - (Lib.decDigits u).length) 48 ++ Lib.decDigits u := rfl
  have HP := Lib.hid hpad
  have HW := Lib.hid h
  clear hpad h htab
  generalize hL : Lib.decDigits u = L at *
  clear hL
  have HH := Lib.hid hlen
  clear hlen hu
  have HRp : Hid (∀ w' : World, Calls Tryz.prog 42 #[.string ⟨#[48]⟩, .int .i64 ((width - L.length : Nat) : Int)] w' fun e w'' => e = .returned (.string ⟨(List.replicate (width - L.length) 48).toArray⟩) ∧ Below w'.heap.size w' w'') := fun w' => by
    have := Tryz.strings_Repeat ⟨#[48]⟩ (width - L.length) w' (by omega) (by show 1 * _ ≤ _; omega)
    rw [show (⟨#[48]⟩ : ByteArray).data.toList = [48] from rfl, repeatL_one'] at this
    exact this
  go_enter Tryz.func171, Tryz.ntmps171
  go_wp2_with fail
  refine HF.out.mono ?_
  rintro e w1 ⟨rfl, hE1⟩
  go_wp2_with fail
  refine (HRp.out _).mono ?_
  rintro e w2 ⟨rfl, hE2⟩
  have hE12 := Ext.trans _ _ _ hE1 hE2
  have hsz2 := hE12.size
  go_wp2_with fail
  refine (writeString_any B b bs _ _ (isBuilder_ext HW.out hE12) ?_ (Nat.le_trans hBw hsz2)).mono ?_
  · have := HH.out
    rw [bytes_app, bytes_size, List.length_append, show (Array.replicate (width - L.length) (48 : UInt8)).toList.length = width - L.length by simp]
    omega
  · rintro e w3 ⟨⟨r, rfl⟩, hb3, hB3⟩
    rw [bytes_app] at hb3
    go_wp2
    go_end0
    refine ⟨rfl, .inr ?_, (hE12.mono hBw).trans hB3⟩
    rw [HP.out]
    exact hb3

/-- Group after group. -/
theorem digs_getD : ∀ (k n : Nat), (mass n).getD k 0 = n / G ^ k % G := by
  intro k
  induction k with
  | zero =>
    intro n
    rcases Nat.eq_zero_or_pos n with h | h
    · subst h; rfl
    · unfold mass; rw [Dig.digs_pos G n G_two h]; simp
  | succ k ih =>
    intro n
    rcases Nat.eq_zero_or_pos n with h | h
    · subst h; simp [mass, Dig.digs_zero]
    · have e := ih (n / G)
      unfold mass at e ⊢
      rw [Dig.digs_pos G n G_two h, List.getD_cons_succ, e, Nat.div_div_eq_div_mul, Nat.pow_succ, Nat.mul_comm G]
/-- The text when the groups from k on are written. -/
def partText (n k : Nat) : List UInt8 := if 0 < n ∧ k = (mass n).length then [] else Lib.decDigits (n / G ^ k)
theorem partText_zero (n : Nat) : partText n 0 = Lib.decDigits n := by
  unfold partText
  rw [if_neg, Nat.pow_zero, Nat.div_one]
  rintro ⟨h1, h2⟩
  have := mass_len_pos.2 h1
  omega
theorem partText_step (n k : Nat) (hk : k < (mass n).length) : partText n k = partText n (k + 1) ++ padded (if k + 1 = (mass n).length then 1 else 18) ((mass n).getD k 0) := by
  have hn : 0 < n := mass_len_pos.1 (by omega)
  have hlt : n < G ^ (mass n).length := Dig.lt_digs_len G_two n
  have hk2 : n / G ^ k = n / G ^ (k + 1) * G + n / G ^ k % G := by
    rw [Nat.pow_succ, ← Nat.div_div_eq_div_mul]
    have := Nat.div_add_mod (n / G ^ k) G
    rw [Nat.mul_comm] at this
    exact this.symm
  have e1 : partText n k = Lib.decDigits (n / G ^ k) := by
    unfold partText
    rw [if_neg]
    rintro ⟨_, h⟩
    omega
  rw [e1, digs_getD]
  by_cases h : k + 1 = (mass n).length
  · have e2 : partText n (k + 1) = [] := by unfold partText; rw [if_pos ⟨hn, h⟩]
    rw [e2, if_pos h, List.nil_append]
    rw [h, Nat.div_eq_of_lt hlt, Nat.zero_mul, Nat.zero_add] at hk2
    rw [← hk2]
    unfold padded
    have := decDigits_length_pos (n / G ^ k)
    rw [Nat.sub_eq_zero_of_le (by omega)]
    rfl
  · have e2 : partText n (k + 1) = Lib.decDigits (n / G ^ (k + 1)) := by
      unfold partText
      rw [if_neg (fun h2 => h h2.2)]
    have hpos : 0 < n / G ^ (k + 1) := Nat.div_pos (Dig.le_of_digs_len G_two (by show k + 1 < (mass n).length; omega)) (Nat.pow_pos (by unfold G; omega))
    have hr : n / G ^ k % G < 10 ^ 18 := Nat.mod_lt _ (by unfold G; omega)
    have hpk := decDigits_padk hpos 18 (n / G ^ k % G) hr
    rw [show (10 : Nat) ^ 18 = G from rfl, (padk_eq 17 _ hr).2, ← hk2] at hpk
    rw [e2, if_neg h, hpk]
    rfl
end Go.Proofs.Xx
end
section
namespace Go.Proofs.Xx
open Go.RowKit Go.V Go.Grow Go.Txt

theorem partText_le (n : Nat) : ∀ k, k ≤ (mass n).length → (partText n k).length ≤ (Lib.decDigits n).length := by
  intro k
  induction k with
  | zero => intro _; rw [partText_zero]; exact Nat.le_refl _
  | succ k ih =>
    intro h
    have h1 := ih (by omega)
    rw [partText_step n k (by omega), List.length_append] at h1
    omega
def toldB (z : Int) : ByteArray := if (Lib.decDigits z.natAbs).length ≤ 600 then txtB z else .empty
def toldE (z : Int) : Int := if (Lib.decDigits z.natAbs).length ≤ 600 then 0 else 6
def sg (z : Int) : List UInt8 := if z < 0 then [45] else []
/-- A measure: one more than an index. -/
def downTo : Value → Nat
  | .int _ i => (i + 1).toNat
  | _ => 0
theorem sg_itoa (z : Int) : Lib.itoa z = sg z ++ Lib.decDigits z.natAbs := by
  unfold Lib.itoa sg
  by_cases h : z < 0
  · rw [if_pos h, if_pos h]; rfl
  · rw [if_neg h, if_neg h, show z.toNat = z.natAbs by omega]; rfl

set_option maxHeartbeats 4000000 in
set_option maxRecDepth 100000 in
theorem told_any (va : Value) (z : Int) (w : World) (ha : IsNum w va z) (htab : Tab w) (hs : (mass z.natAbs).length ≤ 1000000000000) :
    Calls Tryz.prog 133 #[va] w fun e w' => e = .returned (.tuple #[.string (toldB z), .int .i64 (toldE z)]) ∧ Ext w w' := by
  obtain ⟨m, rfl, hm⟩ := ha
  have HD : Hid (∀ w' : World, Ext w w' → Calls Tryz.prog 170 #[m] w' fun e w'' => e = .returned (.int .i64 (Lib.nDigits z.natAbs : Int)) ∧ Ext w' w'') := fun w' hE => digits_any m _ w' (hm.mono hE) (htab.mono hE) hs
  have hdl := Lib.decDigits_length z.natAbs
  have HM := Lib.hid hm
  have hpt : ∀ k, k ≤ (mass z.natAbs).length → (partText z.natAbs k).length ≤ Lib.nDigits z.natAbs := fun k hk => by rw [← hdl]; exact partText_le _ k hk
  have hst := partText_step z.natAbs
  have hG := fun k => Dig.getD_lt (mass_lt z.natAbs) (by unfold G; omega) k
  have hpn : 0 < z.natAbs → partText z.natAbs (mass z.natAbs).length = [] := fun h => by unfold partText; rw [if_pos ⟨h, rfl⟩]
  have HPT := Lib.hid hpt; have HST := Lib.hid hst; have HGT := Lib.hid hG; have HPN := Lib.hid hpn
  have hE0 : Ext w (w.alloc (.cells #[.bool (decide (z < 0)), m] 109)) := Ext.alloc _ _
  have hlen0 : (mass z.natAbs).length = 0 ↔ z.natAbs = 0 := by
    have := mass_len_pos (n := z.natAbs); omega
  have hlenb : (mass z.natAbs).length ≤ 1000000000000 := by omega
  have HLB := Lib.hid hlenb
  have HFIN : Hid (∀ bs : List UInt8, bs = sg z ++ partText z.natAbs 0 → (⟨bs.toArray⟩ : ByteArray) = txtB z) := fun bs h => by
    rw [h, partText_zero, ← sg_itoa]; rfl
  obtain ⟨A, c, rfl, hc, hmx, hr⟩ := hm
  have HR := Lib.hid hr
  have HTW : Hid (∀ (B b u width : Nat) (bs : List UInt8) (w' : World), Lib.IsBuilder 149 5 B b (Lib.byteCells bs) w' → u < G → width ≤ 18 → bs.length ≤ 1000 → Ext w w' → B ≤ w'.heap.size →
      Calls Tryz.prog 171 #[.int .u64 (u : Int), .int .i64 (width : Int), .pointer (some ⟨b, 0, none⟩)] w' fun e w'' => e = .returned (.tuple #[]) ∧ Lib.IsBuilder 149 5 B b (Lib.byteCells (bs ++ padded width u)) w'' ∧ Below B w' w'') := fun B b u width bs w' h hu hw hl hE hB => by
    have := write_any B b _ u width w' h (by unfold G at hu; omega) hw (by rw [Lib.byteCells_length]; omega) (htab.mono hE) hB
    rw [show Lib.byteCells bs ++ Lib.byteCells (padded width u) = Lib.byteCells (bs ++ padded width u) by simp [Lib.byteCells]] at this
    exact this
  clear hpt hst hG hr hs htab hlenb hmx hc hpn
  unfold toldB toldE
  rw [hdl]
  by_cases hbig : Lib.nDigits z.natAbs ≤ 600
  · rw [if_pos hbig, if_pos hbig]
    have hbi : (Lib.nDigits z.natAbs : Int) ≤ 600 := by omega
    have HBI := Lib.hid hbig
    clear hdl
    generalize hlen : (mass z.natAbs).length = len at *
    have HLEN := Lib.hid hlen
    by_cases hneg : z < 0
    · generalize hp : decide (z < 0) = p at *
      obtain rfl : p = true := by rw [← hp]; exact decide_eq_true hneg
      clear hp hlen
      go_enter Tryz.func133, Tryz.ntmps133
      go_wp2_with fail
      refine (HD.out _ hE0).mono ?_
      rintro e w1 ⟨rfl, hE1⟩
      have hs1 := hE1.size
      have k0 : w1.cell? ⟨w.heap.size, 0, none⟩ = some (.bool true) := hE1.cell (by go_simp)
      have k1 : w1.cell? ⟨w.heap.size, 1, none⟩ = some (.slice A len c) := hE1.cell (by go_simp)
      have hb := Lib.fresh_isBuilder 149 5 w1
      have hE2 : Ext w1 (w1.alloc (.cells #[.pointer none, .slice none 0 0] 149)) := Ext.alloc _ _
      have E2 := Ext.trans _ _ _ hE0 (Ext.trans _ _ _ hE1 hE2)
      have hbs : w1.heap.size < (w1.alloc (.cells #[.pointer none, .slice none 0 0] 149)).heap.size := by simp
      have hwb : w.heap.size < w1.heap.size := Nat.lt_of_lt_of_le (by simp) hs1
      have q0 := hE2.cell k0
      have q1 := hE2.cell k1
      clear k0 k1 hE1 hs1 hE2
      have hlenb := HLB.out
      go_wp2_with fail
      refine (writeByte_any _ _ [] 45 _ hb (by simp) (Nat.le_of_lt hbs)).mono ?_
      rintro e w2 ⟨⟨r, rfl⟩, hb2, hB2⟩
      replace hb2 : Lib.IsBuilder 149 5 w1.heap.size w1.heap.size (Lib.byteCells (sg z)) w2 := .inr (by unfold sg; rw [if_pos hneg]; exact hb2)
      have hl1 : 0 < len := by omega
      have hne : ((len : Int) == 0) = false := beq_eq_false_iff_ne.2 (by omega)
      have q0 := (Below.cell hB2 (p := ⟨w.heap.size, 0, none⟩) hwb).trans q0
      have q1 := (Below.cell hB2 (p := ⟨w.heap.size, 1, none⟩) hwb).trans q1
      generalize w1.alloc (.cells #[.pointer none, .slice none 0 0] 149) = W1 at *
      generalize w1.heap.size = B at *
      clear hb
      go_wp2_with fail
      go_loopw [6, 7] (fun s wd wr => ∃ k : Nat, s = .int .i64 ((k : Int) - 1) ∧ k ≤ len ∧ wd = .int .i64 ((if k = len then 1 else 18 : Nat) : Int) ∧ Lib.IsBuilder 149 5 B B (Lib.byteCells (sg z ++ partText z.natAbs k)) wr ∧ Below B W1 wr) (fun s _ _ => downTo s)
      case atStart => exact ⟨len, rfl, Nat.le_refl _, by rw [if_pos rfl]; rfl, by rw [show partText z.natAbs len = [] from HPN.out (by omega), List.append_nil]; exact hb2, hB2⟩
      case round =>
        obtain ⟨k, rfl, hk, rfl, hbr, hB⟩ := hrel
        have EW : Ext w wr := Below.trans E2 (hB.mono (Nat.le_of_lt hwb))
        have r0 : wr.cell? ⟨w.heap.size, 0, none⟩ = some (.bool true) := (Below.cell hB (p := ⟨w.heap.size, 0, none⟩) hwb).trans q0
        have r1 : wr.cell? ⟨w.heap.size, 1, none⟩ = some (.slice A len c) := (Below.cell hB (p := ⟨w.heap.size, 1, none⟩) hwb).trans q1
        rcases k with _ | k
        · generalize (if 0 = len then 1 else 18 : Nat) = wd at *
          go_wp2_with fail
          refine (Tryz.Builder_String_any B B _ wr hbr (Nat.le_trans (Nat.le_of_lt hbs) hB.size)).mono ?_
          rintro e w3 ⟨rfl, hE3⟩
          rw [HFIN.out _ rfl]
          go_wp2
          go_ret2
          exact ⟨rfl, Below.trans EW (hE3.mono (Nat.le_of_lt hwb))⟩
        · have hwd : (if k + 1 = len then 1 else 18 : Nat) ≤ 18 := by split <;> omega
          have HS := Lib.hid (HST.out k (by omega))
          have HPL := Lib.hid (HPT.out (k + 1) hk)
          generalize (if k + 1 = len then 1 else 18 : Nat) = wd at *
          obtain ⟨b0, o0, rfl, hcl⟩ := HR.out.at k (by rw [HLEN.out]; omega)
          have hcl := EW.cell hcl
          have HW := Lib.hid (HTW.out B B _ wd _ wr hbr (HGT.out k) hwd (by have := HPL.out; have := HBI.out; rw [List.length_append]; unfold sg; split <;> simp <;> omega) EW (Nat.le_trans (Nat.le_of_lt hbs) hB.size))
          go_wp2_with fail
          refine HW.out.mono ?_
          rintro e w3 ⟨rfl, hb3, hB3⟩
          rw [List.append_assoc, ← HS.out] at hb3
          have hkl : ¬ k = len := by omega
          have HB3 := Lib.hid hb3
          have HHB := Lib.hid (hB.trans hB3)
          clear hb3 hbr HS
          go_wp2_with fail
          go_roundw
          case rel => exact ⟨k, rfl, by omega, by rw [if_neg hkl]; rfl, HB3.out, HHB.out⟩
          case measure => show (((k : Int) - 1) + 1).toNat < (((k + 1 : Nat) : Int) - 1 + 1).toNat; omega
    · by_cases hz0 : z.natAbs = 0
      · have hl0 : len = 0 := hlen0.2 hz0
        generalize hp : decide (z < 0) = p at *
        obtain rfl : p = false := by rw [← hp]; exact decide_eq_false hneg
        have HL0 := Lib.hid hl0
        have hne0 : ((len : Int) == 0) = true := beq_iff_eq.2 (by omega)
        have HNG := Lib.hid hneg
        have HZ0 := Lib.hid hz0
        clear hl0 hneg hz0 hlen0
        clear hp hlen
        go_enter Tryz.func133, Tryz.ntmps133
        go_wp2_with fail
        refine (HD.out _ hE0).mono ?_
        rintro e w1 ⟨rfl, hE1⟩
        have hs1 := hE1.size
        have k0 : w1.cell? ⟨w.heap.size, 0, none⟩ = some (.bool false) := hE1.cell (by go_simp)
        have k1 : w1.cell? ⟨w.heap.size, 1, none⟩ = some (.slice A len c) := hE1.cell (by go_simp)
        have hb := Lib.fresh_isBuilder 149 5 w1
        have hE2 : Ext w1 (w1.alloc (.cells #[.pointer none, .slice none 0 0] 149)) := Ext.alloc _ _
        have E2 := Ext.trans _ _ _ hE0 (Ext.trans _ _ _ hE1 hE2)
        have hbs : w1.heap.size < (w1.alloc (.cells #[.pointer none, .slice none 0 0] 149)).heap.size := by simp
        have hwb : w.heap.size < w1.heap.size := Nat.lt_of_lt_of_le (by simp) hs1
        have q0 := hE2.cell k0
        have q1 := hE2.cell k1
        clear k0 k1 hE1 hs1 hE2
        have hlenb := HLB.out
        have HW0 := Lib.hid (HTW.out _ _ 0 1 [] _ hb (by unfold G; omega) (by omega) (by simp) E2 (Nat.le_of_lt hbs))
        go_wp2_with fail
        refine HW0.out.mono ?_
        rintro e w2 ⟨rfl, hb2, hB2⟩
        replace hb2 : Lib.IsBuilder 149 5 w1.heap.size w1.heap.size (Lib.byteCells (sg z ++ partText z.natAbs 0)) w2 := by
          rw [partText_zero, HZ0.out]
          unfold sg
          rw [if_neg (by have := HNG.out; omega)]
          rw [show padded 1 0 = Lib.decDigits 0 by unfold padded; rw [decDigits_small (by decide)]; rfl] at hb2
          exact hb2
        have q0 := (Below.cell hB2 (p := ⟨w.heap.size, 0, none⟩) hwb).trans q0
        have q1 := (Below.cell hB2 (p := ⟨w.heap.size, 1, none⟩) hwb).trans q1
        generalize w1.alloc (.cells #[.pointer none, .slice none 0 0] 149) = W1 at *
        generalize w1.heap.size = B at *
        clear hb HW0
        go_wp2_with fail
        go_loopw [6, 7] (fun s wd wr => ∃ k : Nat, s = .int .i64 ((k : Int) - 1) ∧ k ≤ len ∧ wd = .int .i64 ((if k = len then 1 else 18 : Nat) : Int) ∧ Lib.IsBuilder 149 5 B B (Lib.byteCells (sg z ++ partText z.natAbs k)) wr ∧ Below B W1 wr) (fun s _ _ => downTo s)
        case atStart => exact ⟨len, rfl, Nat.le_refl _, by rw [if_pos rfl]; rfl, by rw [HL0.out]; exact hb2, hB2⟩
        case round =>
          obtain ⟨k, rfl, hk, rfl, hbr, hB⟩ := hrel
          have EW : Ext w wr := Below.trans E2 (hB.mono (Nat.le_of_lt hwb))
          have r0 : wr.cell? ⟨w.heap.size, 0, none⟩ = some (.bool false) := (Below.cell hB (p := ⟨w.heap.size, 0, none⟩) hwb).trans q0
          have r1 : wr.cell? ⟨w.heap.size, 1, none⟩ = some (.slice A len c) := (Below.cell hB (p := ⟨w.heap.size, 1, none⟩) hwb).trans q1
          rcases k with _ | k
          · generalize (if 0 = len then 1 else 18 : Nat) = wd at *
            go_wp2_with fail
            refine (Tryz.Builder_String_any B B _ wr hbr (Nat.le_trans (Nat.le_of_lt hbs) hB.size)).mono ?_
            rintro e w3 ⟨rfl, hE3⟩
            rw [HFIN.out _ rfl]
            go_wp2
            go_ret2
            exact ⟨rfl, Below.trans EW (hE3.mono (Nat.le_of_lt hwb))⟩
          · have hwd : (if k + 1 = len then 1 else 18 : Nat) ≤ 18 := by split <;> omega
            have HS := Lib.hid (HST.out k (by omega))
            have HPL := Lib.hid (HPT.out (k + 1) hk)
            generalize (if k + 1 = len then 1 else 18 : Nat) = wd at *
            obtain ⟨b0, o0, rfl, hcl⟩ := HR.out.at k (by rw [HLEN.out]; omega)
            have hcl := EW.cell hcl
            have HW := Lib.hid (HTW.out B B _ wd _ wr hbr (HGT.out k) hwd (by have := HPL.out; have := HBI.out; rw [List.length_append]; unfold sg; split <;> simp <;> omega) EW (Nat.le_trans (Nat.le_of_lt hbs) hB.size))
            go_wp2_with fail
            refine HW.out.mono ?_
            rintro e w3 ⟨rfl, hb3, hB3⟩
            rw [List.append_assoc, ← HS.out] at hb3
            have hkl : ¬ k = len := by omega
            have HB3 := Lib.hid hb3
            have HHB := Lib.hid (hB.trans hB3)
            clear hb3 hbr HS
            go_wp2_with fail
            go_roundw
            case rel => exact ⟨k, rfl, by omega, by rw [if_neg hkl]; rfl, HB3.out, HHB.out⟩
            case measure => show (((k : Int) - 1) + 1).toNat < (((k + 1 : Nat) : Int) - 1 + 1).toNat; omega
      · generalize hp : decide (z < 0) = p at *
        obtain rfl : p = false := by rw [← hp]; exact decide_eq_false hneg
        have HNG := Lib.hid hneg
        have hl1 : 0 < len := by omega
        have HZP : Hid (0 < z.natAbs) := Nat.pos_of_ne_zero hz0
        clear hneg hz0 hlen0
        clear hp hlen
        go_enter Tryz.func133, Tryz.ntmps133
        go_wp2_with fail
        refine (HD.out _ hE0).mono ?_
        rintro e w1 ⟨rfl, hE1⟩
        have hs1 := hE1.size
        have k0 : w1.cell? ⟨w.heap.size, 0, none⟩ = some (.bool false) := hE1.cell (by go_simp)
        have k1 : w1.cell? ⟨w.heap.size, 1, none⟩ = some (.slice A len c) := hE1.cell (by go_simp)
        have hb := Lib.fresh_isBuilder 149 5 w1
        have hE2 : Ext w1 (w1.alloc (.cells #[.pointer none, .slice none 0 0] 149)) := Ext.alloc _ _
        have E2 := Ext.trans _ _ _ hE0 (Ext.trans _ _ _ hE1 hE2)
        have hbs : w1.heap.size < (w1.alloc (.cells #[.pointer none, .slice none 0 0] 149)).heap.size := by simp
        have hwb : w.heap.size < w1.heap.size := Nat.lt_of_lt_of_le (by simp) hs1
        have q0 := hE2.cell k0
        have q1 := hE2.cell k1
        clear k0 k1 hE1 hs1 hE2
        have hlenb := HLB.out
        have hne : ((len : Int) == 0) = false := beq_eq_false_iff_ne.2 (by omega)
        have hb2 : Lib.IsBuilder 149 5 w1.heap.size w1.heap.size (Lib.byteCells (sg z)) (w1.alloc (.cells #[.pointer none, .slice none 0 0] 149)) := by unfold sg; rw [if_neg (by have := HNG.out; omega)]; exact hb
        have hB2 : Below w1.heap.size (w1.alloc (.cells #[.pointer none, .slice none 0 0] 149)) (w1.alloc (.cells #[.pointer none, .slice none 0 0] 149)) := Below.refl _ _
        go_wp2_with fail
        generalize w1.alloc (.cells #[.pointer none, .slice none 0 0] 149) = W1 at *
        generalize w1.heap.size = B at *
        clear hb
        go_loopw [6, 7] (fun s wd wr => ∃ k : Nat, s = .int .i64 ((k : Int) - 1) ∧ k ≤ len ∧ wd = .int .i64 ((if k = len then 1 else 18 : Nat) : Int) ∧ Lib.IsBuilder 149 5 B B (Lib.byteCells (sg z ++ partText z.natAbs k)) wr ∧ Below B W1 wr) (fun s _ _ => downTo s)
        case atStart => exact ⟨len, rfl, Nat.le_refl _, by rw [if_pos rfl]; rfl, by rw [show partText z.natAbs len = [] from HPN.out HZP.out, List.append_nil]; exact hb2, hB2⟩
        case round =>
          obtain ⟨k, rfl, hk, rfl, hbr, hB⟩ := hrel
          have EW : Ext w wr := Below.trans E2 (hB.mono (Nat.le_of_lt hwb))
          have r0 : wr.cell? ⟨w.heap.size, 0, none⟩ = some (.bool false) := (Below.cell hB (p := ⟨w.heap.size, 0, none⟩) hwb).trans q0
          have r1 : wr.cell? ⟨w.heap.size, 1, none⟩ = some (.slice A len c) := (Below.cell hB (p := ⟨w.heap.size, 1, none⟩) hwb).trans q1
          rcases k with _ | k
          · generalize (if 0 = len then 1 else 18 : Nat) = wd at *
            go_wp2_with fail
            refine (Tryz.Builder_String_any B B _ wr hbr (Nat.le_trans (Nat.le_of_lt hbs) hB.size)).mono ?_
            rintro e w3 ⟨rfl, hE3⟩
            rw [HFIN.out _ rfl]
            go_wp2
            go_ret2
            exact ⟨rfl, Below.trans EW (hE3.mono (Nat.le_of_lt hwb))⟩
          · have hwd : (if k + 1 = len then 1 else 18 : Nat) ≤ 18 := by split <;> omega
            have HS := Lib.hid (HST.out k (by omega))
            have HPL := Lib.hid (HPT.out (k + 1) hk)
            generalize (if k + 1 = len then 1 else 18 : Nat) = wd at *
            obtain ⟨b0, o0, rfl, hcl⟩ := HR.out.at k (by rw [HLEN.out]; omega)
            have hcl := EW.cell hcl
            have HW := Lib.hid (HTW.out B B _ wd _ wr hbr (HGT.out k) hwd (by have := HPL.out; have := HBI.out; rw [List.length_append]; unfold sg; split <;> simp <;> omega) EW (Nat.le_trans (Nat.le_of_lt hbs) hB.size))
            go_wp2_with fail
            refine HW.out.mono ?_
            rintro e w3 ⟨rfl, hb3, hB3⟩
            rw [List.append_assoc, ← HS.out] at hb3
            have hkl : ¬ k = len := by omega
            have HB3 := Lib.hid hb3
            have HHB := Lib.hid (hB.trans hB3)
            clear hb3 hbr HS
            go_wp2_with fail
            go_roundw
            case rel => exact ⟨k, rfl, by omega, by rw [if_neg hkl]; rfl, HB3.out, HHB.out⟩
            case measure => show (((k : Int) - 1) + 1).toNat < (((k + 1 : Nat) : Int) - 1 + 1).toNat; omega
  · rw [if_neg hbig, if_neg hbig]
    have hbi : ¬ (Lib.nDigits z.natAbs : Int) ≤ 600 := by omega
    generalize (mass z.natAbs).length = len at *
    generalize decide (z < 0) = p at *
    clear hdl
    go_enter Tryz.func133, Tryz.ntmps133
    go_wp2_with fail
    refine (HD.out _ hE0).mono ?_
    rintro e w1 ⟨rfl, hE1⟩
    go_wp2
    go_ret2
    exact ⟨rfl, Ext.trans _ _ _ hE0 hE1⟩
end Go.Proofs.Xx
end
section
namespace Go.Proofs.Xx
open Go.RowKit Go.V Go.Grow Go.Txt

/-- Whether a rune is no digit. -/
def other (x : Nat) : Bool := decide (x < 48) || decide (57 < x)

set_option maxRecDepth 100000 in
theorem other_any (x : Nat) (w : World) (hx : x ≤ 1114111) : Calls Tryz.prog 184 #[.int .i32 (x : Int)] w fun e w' => e = .returned (.bool (other x)) ∧ Below w.heap.size w w' := by
  have hfin : ∀ b, b = (decide (x < 48) || decide (57 < x)) → b = other x := fun b h => h
  have HF := Lib.hid hfin
  clear hfin
  by_cases h1 : x < 48
  · have h1' : (x : Int) < 48 := by omega
    go_enter Tryz.func184, Tryz.ntmps184
    go_wp2
    go_ret
    refine ⟨?_, Below.refl _ _⟩
    rw [← HF.out true (by simp [h1])]
    rfl
  · have h1' : ¬ (x : Int) < 48 := by omega
    have HH := Lib.hid h1
    clear h1
    go_enter Tryz.func184, Tryz.ntmps184
    go_wp2
    go_ret
    refine ⟨?_, Below.refl _ _⟩
    rw [← HF.out (decide (57 < x)) (by have := HH.out; simp [this])]
    show Ending.returned (.bool (decide ((57 : Int) < x))) = _
    rw [show decide ((57 : Int) < x) = decide (57 < x) from decide_eq_decide.2 (by omega)]

instance (c : UInt8) : Decidable (isDig c) := inferInstanceAs (Decidable (_ ∧ _))
theorem list_size (s : ByteArray) : s.data.toList.length = s.size := by rw [Array.length_toList]; rfl
theorem idx_digits (s : ByteArray) : ∀ (f pos : Nat), s.size ≤ pos + f → (0 ≤ Lib.idxFuncFrom other true s f pos ↔ ∃ c ∈ s.data.toList.drop pos, ¬ isDig c)
  | 0, pos, h => by
    have : s.data.toList.drop pos = [] := List.drop_eq_nil_iff.2 (by rw [list_size]; omega)
    rw [this]
    simp [Lib.idxFuncFrom]
  | f + 1, pos, h => by
    unfold Lib.idxFuncFrom
    by_cases hp : pos < s.size
    · rw [if_pos hp]
      have hl : pos < s.data.toList.length := by rw [list_size]; exact hp
      have hd : s.data.toList.drop pos = s[pos] :: s.data.toList.drop (pos + 1) := by
        rw [List.drop_eq_getElem_cons hl]
        rfl
      rw [hd]
      by_cases ha : (s[pos]'hp).toNat < 128
      · rw [decode_ascii s pos hp ha]
        by_cases hdg : isDig s[pos]
        · have ho : other (s[pos]).toNat = false := by
            unfold other
            have h1 := hdg.1; have h2 := hdg.2
            simp
            omega
          simp only [ho]
          rw [if_neg (by simp), idx_digits s f (pos + 1) (by omega)]
          simp [hdg]
        · have ho : other (s[pos]).toNat = true := by
            unfold other
            unfold isDig at hdg
            simp
            omega
          simp only [ho]
          rw [if_pos trivial]
          constructor
          · intro _; exact ⟨_, List.mem_cons_self .., hdg⟩
          · intro _; omega
      · have hh := (decode_high s pos hp (by omega)).1
        have ho : other (Utf8.decode s pos).1 = true := by
          unfold other
          simp
          omega
        simp only [ho]
        rw [if_pos trivial]
        constructor
        · intro _
          refine ⟨_, List.mem_cons_self .., ?_⟩
          unfold isDig
          omega
        · intro _; omega
    · rw [if_neg hp]
      have : s.data.toList.drop pos = [] := List.drop_eq_nil_iff.2 (by rw [list_size]; omega)
      rw [this]
      simp
theorem contains_any (s : ByteArray) (w : World) : Calls Tryz.prog 185 #[.string s, .func (.func 184) #[] #[]] w fun e w' => e = .returned (.bool (decide (∃ c ∈ s.data.toList, ¬ isDig c))) ∧ Ext w w' := by
  have hp : PredGrows Tryz.prog 184 #[] other w := fun W x hx _ => other_any x W hx
  refine (Tryz.strings_ContainsFunc_grows 184 #[] (enters_of Tryz.func184 (by kernel_rfl) rfl) other s w hp).mono ?_
  · rintro e w' ⟨rfl, hE⟩
    refine ⟨?_, hE⟩
    have h := idx_digits s s.size 0 (by omega)
    rw [List.drop_zero] at h
    unfold Lib.idxFunc
    rw [decide_eq_decide.2 h]

instance (l : List UInt8) : Decidable (okW l) := by unfold okW; infer_instance
def checkE (a : ByteArray) : Int := if okW a.data.toList then 0 else 10

set_option maxHeartbeats 2000000 in
set_option maxRecDepth 100000 in
theorem wcheck_any (a : ByteArray) (w : World) : Calls Tryz.prog 153 #[.string a] w fun e w' => e = .returned (.int .i64 (checkE a)) ∧ Ext w w' := by
  have HTP := Lib.hid (fun w' : World => Tryz.strings_TrimPrefix a ⟨#[45]⟩ w')
  have hv : ∀ v : Int, (okW a.data.toList → v = 0) → (¬ okW a.data.toList → v = 10) → v = checkE a := fun v h1 h2 => by
    unfold checkE
    by_cases h : okW a.data.toList
    · rw [if_pos h]; exact h1 h
    · rw [if_neg h]; exact h2 h
  unfold okW at hv
  rw [show a.data.toList.length = a.size from list_size a] at hv
  rw [show (⟨#[45]⟩ : ByteArray).data.toList = [45] from rfl] at HTP
  generalize Lib.trimPrefix a.data.toList [45] = L at *
  have HV := Lib.hid hv
  clear hv
  have hno : ∀ (w1 w' : World) (v : Value), v = .int .i64 10 → Ext w1 w' → ¬ (L ≠ [] ∧ L.length ≤ 600 ∧ (∀ (c : UInt8), c ∈ L → isDig c) ∧ ¬(L.head? = some 48 ∧ (1 < L.length ∨ 1 < a.size))) → Ending.returned v = .returned (.int .i64 (checkE a)) ∧ Ext w1 w' := fun w1 w' v h h1 h2 => by
    subst h
    exact ⟨by rw [HV.out 10 (fun h => absurd h h2) (fun _ => rfl)], h1⟩
  have HNO := Lib.hid hno
  clear hno
  have hsz : (⟨L.toArray⟩ : ByteArray).size = L.length := bytes_size L
  by_cases h1 : L = []
  · subst h1
    go_enter Tryz.func153, Tryz.ntmps153
    go_wp2_with fail
    refine (HTP.out _).mono ?_
    rintro e w1 ⟨rfl, rfl⟩
    go_wp2
    go_ret
    exact HNO.out _ _ _ rfl (Ext.refl _) (fun h => h.1 rfl)
  · obtain ⟨c, r, rfl⟩ : ∃ c r, L = c :: r := by
      cases L with
      | nil => exact absurd rfl h1
      | cons c r => exact ⟨c, r, rfl⟩
    clear h1
    have hx : ∀ h, (⟨(c :: r).toArray⟩ : ByteArray)[0]'h = c := fun h => rfl
    by_cases h2 : (c :: r).length ≤ 600
    · have h2' : (r.length : Int) + 1 ≤ 600 := by simp at h2; omega
      have HC := Lib.hid (fun w' : World => contains_any ⟨(c :: r).toArray⟩ w')
      have H2 := Lib.hid h2
      clear h2
      by_cases h3 : ∃ x ∈ (c :: r), ¬ isDig x
      · have hd : decide (∃ x ∈ (⟨(c :: r).toArray⟩ : ByteArray).data.toList, ¬ isDig x) = true := decide_eq_true h3
        rw [hd] at HC
        have H3 := Lib.hid h3
        clear h3 hd
        go_enter Tryz.func153, Tryz.ntmps153
        go_wp2_with fail
        refine (HTP.out _).mono ?_
        rintro e w1 ⟨rfl, rfl⟩
        go_wp2_with fail
        refine (HC.out _).mono ?_
        rintro e w2 ⟨rfl, hE⟩
        go_wp2
        go_ret
        refine HNO.out _ _ _ rfl hE (fun h => ?_)
        obtain ⟨x, hx1, hx2⟩ := H3.out
        exact hx2 (h.2.2.1 x hx1)
      · have hd : decide (∃ x ∈ (⟨(c :: r).toArray⟩ : ByteArray).data.toList, ¬ isDig x) = false := decide_eq_false h3
        rw [hd] at HC
        have H3 : Hid (∀ x ∈ (c :: r), isDig x) := fun x hx => Decidable.by_contra fun h => h3 ⟨x, hx, h⟩
        clear h3 hd
        have HOK : Hid (∀ (w1 w' : World) (v : Value), v = .int .i64 0 → Ext w1 w' → ¬((c :: r).head? = some 48 ∧ (1 < (c :: r).length ∨ 1 < a.size)) → Ending.returned v = .returned (.int .i64 (checkE a)) ∧ Ext w1 w') := fun w1 w' v h k h1 => by
          subst h
          have hc : (c :: r) ≠ [] ∧ (c :: r).length ≤ 600 ∧ (∀ (x : UInt8), x ∈ (c :: r) → isDig x) ∧ ¬((c :: r).head? = some 48 ∧ (1 < (c :: r).length ∨ 1 < a.size)) := ⟨by simp, H2.out, H3.out, h1⟩
          exact ⟨by rw [HV.out 0 (fun _ => rfl) (fun h => absurd hc h)], k⟩
        by_cases h4 : c = 48
        · subst h4
          by_cases h5 : 1 < (r.length : Int) + 1
          · go_enter Tryz.func153, Tryz.ntmps153
            go_wp2_with fail
            refine (HTP.out _).mono ?_
            rintro e w1 ⟨rfl, rfl⟩
            go_wp2_with fail
            refine (HC.out _).mono ?_
            rintro e w2 ⟨rfl, hE⟩
            go_wp2
            go_ret
            exact HNO.out _ _ _ rfl hE (fun h => h.2.2.2 ⟨rfl, .inl (by simp; omega)⟩)
          · by_cases h6 : 1 < (a.size : Int)
            · go_enter Tryz.func153, Tryz.ntmps153
              go_wp2_with fail
              refine (HTP.out _).mono ?_
              rintro e w1 ⟨rfl, rfl⟩
              go_wp2_with fail
              refine (HC.out _).mono ?_
              rintro e w2 ⟨rfl, hE⟩
              go_wp2
              go_ret
              exact HNO.out _ _ _ rfl hE (fun h => h.2.2.2 ⟨rfl, .inr (by omega)⟩)
            · go_enter Tryz.func153, Tryz.ntmps153
              go_wp2_with fail
              refine (HTP.out _).mono ?_
              rintro e w1 ⟨rfl, rfl⟩
              go_wp2_with fail
              refine (HC.out _).mono ?_
              rintro e w2 ⟨rfl, hE⟩
              go_wp2
              go_ret
              exact HOK.out _ _ _ rfl hE (fun h => by
                rcases h.2 with k | k
                · rw [List.length_cons] at k; omega
                · omega)
        · have h4' : ((c.toNat : Int) == 48) = false := beq_eq_false_iff_ne.2 (fun e => h4 (UInt8.toNat_inj.1 (by show c.toNat = 48; omega)))
          go_enter Tryz.func153, Tryz.ntmps153
          go_wp2_with fail
          refine (HTP.out _).mono ?_
          rintro e w1 ⟨rfl, rfl⟩
          go_wp2_with fail
          refine (HC.out _).mono ?_
          rintro e w2 ⟨rfl, hE⟩
          go_wp2
          go_ret
          exact HOK.out _ _ _ rfl hE (fun h => h4 (by simpa using h.1))
    · have H2 := Lib.hid h2
      have h2' : 600 < (r.length : Int) + 1 := by simp at h2; omega
      clear h2
      go_enter Tryz.func153, Tryz.ntmps153
      go_wp2_with fail
      refine (HTP.out _).mono ?_
      rintro e w1 ⟨rfl, rfl⟩
      go_wp2
      go_ret
      exact HNO.out _ _ _ rfl (Ext.refl _) (fun h => H2.out h.2.1)
end Go.Proofs.Xx
end
section
namespace Go.Proofs.Xx
open Go.RowKit Go.V Go.Grow Go.Txt

theorem mass_len_digits (n : Nat) : (mass n).length ≤ (Lib.decDigits n).length := by
  rcases Nat.eq_zero_or_pos n with h | h
  · subst h; exact Nat.zero_le _
  · have hp := mass_len_pos.2 h
    obtain ⟨k, hk⟩ : ∃ k, (mass n).length = k + 1 := ⟨(mass n).length - 1, by omega⟩
    have h1 := nDigits_mass n k hk
    have h2 := (nDigits_bounds _ (Dig.digs_top_pos G_two n k hk)).2.2
    change 0 < Lib.nDigits ((mass n).getD k 0) at h2
    rw [hk, Lib.decDigits_length]
    omega
/-- A number of at most 600 digits. -/
def Short (n : Nat) : Prop := (Lib.decDigits n).length ≤ 600
theorem Short.mass {n : Nat} (h : Short n) : (mass n).length ≤ 600 := Nat.le_trans (mass_len_digits n) h
theorem txtB_list (z : Int) : (txtB z).data.toList = Lib.itoa z := rfl
theorem checkE_txt {z : Int} (h : Short z.natAbs) : checkE (txtB z) = 0 := by
  exact if_pos ((okW_iff _).2 ⟨z, rfl, h⟩)
theorem toldB_short {z : Int} (h : Short z.natAbs) : toldB z = txtB z := if_pos h
theorem toldE_short {z : Int} (h : Short z.natAbs) : toldE z = 0 := if_pos h

set_option maxHeartbeats 2000000 in
set_option maxRecDepth 100000 in
theorem gcd_any (y z : Int) (w : World) (hy : Short y.natAbs) (hz : Short z.natAbs) (htab : Tab w) :
    Calls Tryz.prog 154 #[.string (txtB y), .string (txtB z)] w fun e w' => e = .returned (.tuple #[.string (toldB (Nat.gcd y.natAbs z.natAbs : Nat)), .int .i64 (toldE (Nat.gcd y.natAbs z.natAbs : Nat))]) ∧ Ext w w' := by
  have HC1 := Lib.hid (fun w' : World => wcheck_any (txtB y) w')
  have HC2 := Lib.hid (fun w' : World => wcheck_any (txtB z) w')
  rw [checkE_txt hy] at HC1
  rw [checkE_txt hz] at HC2
  have HR1 : Hid (∀ w' : World, Calls Tryz.prog 132 #[.string (txtB y)] w' (Ret (.num y) w')) := fun w' => read_any y w' (by unfold Short at hy; omega)
  have HR2 : Hid (∀ w' : World, Calls Tryz.prog 132 #[.string (txtB z)] w' (Ret (.num z) w')) := fun w' => read_any z w' (by unfold Short at hz; omega)
  have HCM : Hid (∀ (va vb : Value) (w' : World), IsMass w' va y.natAbs → IsMass w' vb z.natAbs → Calls Tryz.prog 155 #[va, vb] w' (Ret (.mass (Nat.gcd y.natAbs z.natAbs)) w')) := fun va vb w' h1 h2 => common_any _ _ _ _ _ h1 h2 (by have := hy.mass; omega) (by have := hz.mass; omega)
  have hgl : (mass (Nat.gcd y.natAbs z.natAbs)).length ≤ 600 := by
    rcases Nat.eq_zero_or_pos y.natAbs with h | h
    · rw [h, Nat.gcd_zero_left]; exact hz.mass
    · exact Nat.le_trans (mass_len_mono (Nat.gcd_le_left _ h)) hy.mass
  have HT : Hid (∀ (v : Value) (w' : World), IsMass w' v (Nat.gcd y.natAbs z.natAbs) → Ext w w' → Calls Tryz.prog 133 #[.agg #[.bool false, v]] w' fun e w'' => e = .returned (.tuple #[.string (toldB (Nat.gcd y.natAbs z.natAbs : Nat)), .int .i64 (toldE (Nat.gcd y.natAbs z.natAbs : Nat))]) ∧ Ext w' w'') := fun v w' h hE => by
    refine told_any _ ((Nat.gcd y.natAbs z.natAbs : Nat) : Int) w' ⟨v, ?_, ?_⟩ (htab.mono hE) ?_
    · rw [decide_eq_false (by omega)]
    · rw [Int.natAbs_natCast]; exact h
    · rw [Int.natAbs_natCast]; omega
  generalize txtB y = ty at *
  generalize txtB z = tz at *
  generalize toldB (Nat.gcd y.natAbs z.natAbs : Nat) = tb at *
  generalize toldE (Nat.gcd y.natAbs z.natAbs : Nat) = te at *
  clear hy hz htab hgl
  go_enter Tryz.func154, Tryz.ntmps154
  go_wp2_with fail
  refine (HC1.out _).mono ?_
  rintro e w1 ⟨rfl, hE1⟩
  go_wp2_with fail
  refine (HC2.out _).mono ?_
  rintro e w2 ⟨rfl, hE2⟩
  go_wp2_with fail
  refine (HR1.out _).mono ?_
  rintro e w3 ⟨v3, rfl, ⟨m3, rfl, hm3⟩, hE3⟩
  have H3 := Lib.hid hm3
  obtain ⟨A3, c3, rfl, _⟩ := hm3
  generalize (mass y.natAbs).length = l3 at *
  generalize decide (y < 0) = p3 at *
  have hf3 := field_num p3 A3 l3 c3 w3
  go_wp2_with fail
  refine (HR2.out _).mono ?_
  rintro e w4 ⟨v4, rfl, ⟨m4, rfl, hm4⟩, hE4⟩
  have H4 := Lib.hid hm4
  obtain ⟨A4, c4, rfl, _⟩ := hm4
  generalize (mass z.natAbs).length = l4 at *
  generalize decide (z < 0) = p4 at *
  have hf4 := field_num p4 A4 l4 c4 w4
  go_wp2_with fail
  refine (HCM.out _ _ _ (H3.out.mono hE4) H4.out).mono ?_
  rintro e w5 ⟨v5, rfl, hm5, hE5⟩
  have E5 := Ext.trans _ _ _ hE1 (Ext.trans _ _ _ hE2 (Ext.trans _ _ _ hE3 (Ext.trans _ _ _ hE4 hE5)))
  have H5 := Lib.hid hm5
  obtain ⟨A5, c5, rfl, _⟩ := hm5
  generalize (mass (Nat.gcd y.natAbs z.natAbs)).length = l5 at *
  go_wp2_with fail
  refine (HT.out _ _ H5.out E5).mono ?_
  rintro e w6 ⟨rfl, hE6⟩
  go_wp2
  go_ret2
  exact ⟨rfl, Ext.trans _ _ _ E5 hE6⟩
end Go.Proofs.Xx
end
