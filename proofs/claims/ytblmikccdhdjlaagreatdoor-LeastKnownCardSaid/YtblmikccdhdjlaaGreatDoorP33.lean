/- A part of the proof: the texts W25, W26, W27, W28, W29, W30, W31. -/
import Derived.Test.YtblmikccdhdjlaaGreatDoorP31
import Derived.Test.YtblmikccdhdjlaaGreatDoorP32
import Derived.WalkMore
set_option linter.unusedVariables false
set_option linter.unusedSimpArgs false
section
namespace Go.Proofs.Xx
open Go.RowKit Go.V Go.Grow Go.Txt

/-- strconv.ParseUint(s, 10, 64) of one to eighteen digits. -/
theorem parse_any (t : ByteArray) (w : World) (h0 : t.size ≠ 0) (h18 : t.size ≤ 18) (hd : ∀ c ∈ t.data.toList, isDig c) :
    Calls Tryz.prog 169 #[.string t, .int .i64 10, .int .i64 64] w fun e w' => e = .returned (.tuple #[.int .u64 (decVal t.data.toList : Int), .nilIface]) ∧ Ext w w' := by
  have hp := Tryz.internal_strconv_ParseUint_10_b64 t h0 (by omega) w
  rw [parse_all _ hd (by have : t.data.toList.length = t.size := by rw [Array.length_toList]; rfl
                         omega)] at hp
  simp only [Lib.uintTuple] at hp
  have HP := Lib.hid hp
  clear hp
  have hE : Ext w (Lib.bytesWorld w 5 t) := by
    unfold Lib.bytesWorld World.freeze
    split
    · exact Ext.trans _ _ _ (Ext.drew w) (Ext.alloc _ _)
    · refine ⟨rfl, rfl, rfl, by simp, fun i hi => ?_⟩
      rw [Array.getElem?_modify, if_neg (by simp only; omega)]
      exact heap_alloc_old w.drew _ hi
  have HE := Lib.hid hE
  clear hE h18
  have hne : ∀ W : World, (binOp .neq 152 .nilIface .nilIface).run Tryz.prog W = .ok (.bool false) W := fun W => by kernel_rfl
  generalize decVal t.data.toList = n at *
  go_enter Tryz.func169, Tryz.ntmps169
  go_wp2_with fail
  refine HP.out.mono ?_
  rintro e w' ⟨rfl, rfl⟩
  go_wp2
  go_ret2
  exact ⟨rfl, HE.out⟩
end Go.Proofs.Xx
end
section
namespace Go.Proofs.Xx
open Go.RowKit Go.V Go.Grow Go.Txt

theorem ext_grown {w0 w w' : World} {row : Option Nat} (hE : Ext w0 w) (hg : w.grownBy w' row) (hrow : ∀ k, row = some k → w0.heap.size ≤ k) : Ext w0 w' :=
  ⟨hg.os.trans hE.os, hg.tape.trans hE.tape, hg.output.trans hE.output, Nat.le_trans hE.size hg.size, fun i hi => (hg.block i (Nat.lt_of_lt_of_le hi hE.size) (fun e => by have := hrow i e.symm; omega)).trans (hE.block i hi)⟩
/-- A list of numbers that the call itself has appended. -/
def Grown (w0 w : World) (v : Value) (gs : List Nat) : Prop := w.ownsRow w0.heap.size 192 1 v gs.length (u64s gs)
theorem Grown.reads {w0 w : World} {v : Value} {gs : List Nat} (h : Grown w0 w v gs) : Reads w v gs := by
  obtain ⟨h1, h2⟩ := h
  rcases h2 with ⟨rfl, h0⟩ | ⟨g, cap, cur, rfl, hb, hg, hc, hm, hs, ht⟩
  · have e : gs = [] := List.eq_nil_of_length_eq_zero h0
    rw [e]
    exact ⟨none, 0, rfl, Nat.le_refl _, Nat.zero_le _, .inl rfl⟩
  · refine ⟨_, cap, rfl, hc, hm, .inr ⟨g, 0, rfl, fun i v hv => ?_⟩⟩
    rw [Nat.zero_add]
    rw [← ht, Nat.mul_one, List.getElem?_take] at hv
    split at hv
    · simpa [World.cell?, hg] using hv
    · cases hv
theorem Grown.ext {w0 w w' : World} {v : Value} {gs : List Nat} (h : Grown w0 w v gs) (hE : Ext w w') : Grown w0 w' v gs :=
  World.ownsRow.kept h (row := none) ⟨hE.os, hE.tape, hE.output, hE.size, fun k hk _ => hE.block k hk⟩ (by cases hv : v.ownBlock <;> simp)
theorem app_one {w0 w : World} {v : Value} {gs : List Nat} {g n c : Nat} (hG : Grown w0 w v gs) (hE : Ext w0 w) (hO : Own w g [n]) (hl : gs.length + 1 ≤ 17592186044416) (ty : TypeId) :
    ∃ (u : Value) (W : World), (Builtin.append_ #[107, 107] ty #[v, .slice (some ⟨g, 0, none⟩) 1 c]).run Tryz.prog w = .ok u W ∧ Grown w0 W u (gs ++ [n]) ∧ Ext w0 W := by
  obtain ⟨i0, hi, hzz⟩ := Option.map_eq_some_iff.1 info403
  simp only [Prod.mk.injEq] at hzz
  obtain ⟨hz0, hz1, hz2⟩ := hzz
  obtain ⟨v', w', hr, h2, h3, h4⟩ := run_append_own (P := Tryz.prog) w w0.heap.size 107 ty 192 i0 (.int .u64 0) 1 8 Tryz.underlying107 hi hz0 hz1 hz2 rfl (by omega) v gs.length (u64s gs) hG ⟨g, 0, none⟩ 1 c (u64s [n]) rfl (row_cells hO.row) (by
    intro u hu
    obtain ⟨k, _, rfl⟩ := List.mem_map.1 hu
    rfl) (by unfold maxLen; omega) (by omega) hE.size
  refine ⟨v', w', hr, ?_, ext_grown hE h3 (fun k hk => (hG.lt k hk).1)⟩
  unfold Grown
  have e : u64s (gs ++ [n]) = u64s gs ++ u64s [n] := by simp [u64s]
  rw [e]
  simpa using h2

/-- What is read of a text's digits: p are left, the groups of the others stand in gs. -/
def Part (l : List UInt8) (p : Nat) (gs : List Nat) : Prop := 18 * gs.length + p = l.length ∧ (∀ x ∈ gs, x < G) ∧ decVal l = decVal (l.take p) * G ^ gs.length + Dig.val G gs
theorem pow18 : (10 : Nat) ^ 18 = G := by unfold G; decide
theorem chunk {l : List UInt8} {p : Nat} (hd : ∀ c ∈ l, isDig c) (hp : p ≤ l.length) : decVal (l.take p) = decVal (l.take (p - 18)) * G + decVal ((l.take p).drop (p - 18)) ∧ decVal ((l.take p).drop (p - 18)) < G := by
  have h1 : l.take p = l.take (p - 18) ++ (l.take p).drop (p - 18) := by
    have := (List.take_append_drop (p - 18) (l.take p)).symm
    rwa [List.take_take, Nat.min_eq_left (by omega)] at this
  have hdd : ∀ c ∈ (l.take p).drop (p - 18), isDig c := fun c hc => hd c (List.mem_of_mem_take (List.mem_of_mem_drop hc))
  have hl : ((l.take p).drop (p - 18)).length = p - (p - 18) := by rw [List.length_drop, List.length_take, Nat.min_eq_left hp]
  have h2 := decVal_lt _ hdd
  have h3 := decVal_append (l.take (p - 18)) ((l.take p).drop (p - 18))
  rw [← h1] at h3
  have h4 : 10 ^ ((l.take p).drop (p - 18)).length ≤ G := by
    rw [← pow18]
    exact Nat.pow_le_pow_right (by omega) (by omega)
  refine ⟨?_, by omega⟩
  by_cases h18 : 18 ≤ p
  · rw [h3, hl, show p - (p - 18) = 18 by omega, pow18]
  · have : p - 18 = 0 := by omega
    rw [h3, this]
    simp [decVal]
theorem Part.step {l : List UInt8} {p : Nat} {gs : List Nat} (hd : ∀ c ∈ l, isDig c) (h : Part l p gs) :
    decVal l = decVal (l.take (p - 18)) * G ^ (gs.length + 1) + Dig.val G (gs ++ [decVal ((l.take p).drop (p - 18))]) ∧ (∀ x ∈ gs ++ [decVal ((l.take p).drop (p - 18))], x < G) ∧ decVal ((l.take p).drop (p - 18)) < G := by
  obtain ⟨h1, h2, h3⟩ := h
  obtain ⟨h4, h5⟩ := chunk hd (show p ≤ l.length by omega)
  refine ⟨?_, ?_, h5⟩
  · rw [Dig.val_append, h3, h4]
    generalize decVal ((l.take p).drop (p - 18)) = c
    generalize decVal (l.take (p - 18)) = m
    simp only [Dig.val, Nat.mul_zero, Nat.add_zero]
    rw [Nat.add_mul, Nat.pow_succ, Nat.mul_assoc, Nat.mul_comm G, Nat.mul_comm c]
    omega
  · intro x hx
    rcases List.mem_append.1 hx with h | h
    · exact h2 x h
    · simp only [List.mem_singleton] at h
      subst h
      exact h5
end Go.Proofs.Xx
end
section
namespace Go.Proofs.Xx
open Go.RowKit Go.V Go.Grow Go.Txt

theorem ro_want {P : Program} {ops : Array Oper} {w0 : World} {Q : Exit → Act → World → Prop} {T : Act → World → Prop} {ms : List (Option Fact)} {a : Act} {o : Oper} {rest : List Oper} {fs : List (World → Prop)} {u : Value} (hw : Region.wanted o (yielded ops a.tmps) = true) (h1 : ∀ w : World, Ext w0 w → Grow.depsHold o fs w → (execOp a.eval o).run P w = .ok (.value u) w) (h2 : Ro P ops w0 Q T ms rest (fs ++ [fun _ : World => True]) (a.put o.dst u)) :
    Ro P ops w0 Q T (none :: ms) (o :: rest) fs a := by
  unfold Ro Grow.Rounds
  rw [if_pos hw]
  exact ⟨u, h1, h2⟩
theorem ro_skip {P : Program} {ops : Array Oper} {w0 : World} {Q : Exit → Act → World → Prop} {T : Act → World → Prop} {ms : List (Option Fact)} {a : Act} {o : Oper} {rest : List Oper} {fs : List (World → Prop)} {m : Option Fact} (hw : Region.wanted o (yielded ops a.tmps) = false) (h2 : Ro P ops w0 Q T ms rest (fs ++ [fun _ : World => True]) (a.put o.dst undef)) :
    Ro P ops w0 Q T (m :: ms) (o :: rest) fs a := by
  unfold Ro Grow.Rounds
  rw [if_neg (by rw [hw]; simp)]
  exact h2
theorem decDigits_head (u : Nat) : ∃ c r, Lib.decDigits u = c :: r ∧ isDig c := by
  cases h : Lib.decDigits u with
  | nil => exact absurd h (decDigits_ne u)
  | cons c r => exact ⟨c, r, rfl, decDigits_dig u c (by rw [h]; exact List.mem_cons_self ..)⟩
theorem itoa_head (z : Int) : ∃ c r, Lib.itoa z = c :: r ∧ (c = 45 ↔ z < 0) := by
  unfold Lib.itoa
  by_cases h : z < 0
  · exact ⟨45, _, by rw [if_pos h], by simp [h]⟩
  · obtain ⟨c, r, h1, h2⟩ := decDigits_head z.toNat
    refine ⟨c, r, by rw [if_neg h, h1], ⟨?_, fun k => absurd k h⟩⟩
    rintro rfl
    unfold isDig at h2
    simp at h2
theorem trim_itoa (z : Int) : Lib.trimPrefix (Lib.itoa z) [45] = Lib.decDigits z.natAbs := by
  unfold Lib.itoa
  by_cases h : z < 0
  · rw [if_pos h]
    simp [Lib.trimPrefix, Lib.hasPrefix]
  · rw [if_neg h]
    have e : z.toNat = z.natAbs := by omega
    rw [e]
    obtain ⟨c, r, h1, h2⟩ := decDigits_head z.natAbs
    rw [h1]
    have : ¬ c = 45 := by rintro rfl; unfold isDig at h2; simp at h2
    have h3 : ¬ (45 : UInt8) = c := fun e => this e.symm
    simp [Lib.trimPrefix, Lib.hasPrefix, h3]

theorem bytes_ext {a b : ByteArray} (h : a.data.toList = b.data.toList) : a = b := by
  cases a; cases b
  simp only [ByteArray.mk.injEq]
  exact Array.toList_inj.1 h
theorem extract_end (l : List UInt8) (p f : Nat) (hp : l.length = p) : (⟨l.toArray⟩ : ByteArray).extract f p = ⟨(l.drop f).toArray⟩ := by
  apply bytes_ext
  simp [ByteArray.data_extract, ← hp]
  exact List.take_of_length_le (by simp)
theorem extract_start (l : List UInt8) (f : Nat) : (⟨l.toArray⟩ : ByteArray).extract 0 f = ⟨(l.take f).toArray⟩ := by
  apply bytes_ext
  simp [ByteArray.data_extract]

set_option maxHeartbeats 4000000 in
set_option maxRecDepth 100000 in
theorem read_any (z : Int) (w : World) (hl : (Lib.decDigits z.natAbs).length ≤ 1000000000000) : Calls Tryz.prog 132 #[.string ⟨(Lib.itoa z).toArray⟩] w (Ret (.num z) w) := by
  have hd := decDigits_dig z.natAbs
  have hv := decVal_decDigits z.natAbs
  have hne := decDigits_ne z.natAbs
  have htp := fun w' : World => Tryz.strings_TrimPrefix ⟨(Lib.itoa z).toArray⟩ ⟨#[45]⟩ w'
  simp only [trim_itoa] at htp
  have HTP := Lib.hid htp
  clear htp
  generalize Lib.decDigits z.natAbs = l at *
  have hlp : 0 < l.length := List.length_pos_iff.2 hne
  have HD := Lib.hid hd; have HV := Lib.hid hv
  clear hd hv hne
  go_enter Tryz.func132, Tryz.ntmps132
  go_wp2_with fail
  go_step3
  go_wp2_with fail
  refine (HTP.out _).mono ?_
  rintro e w1 ⟨rfl, rfl⟩
  clear HTP
  go_wp2_with fail
  go_step3
  go_wp2_with fail
  have E0 : Ext w (w.alloc (.cells #[.bool false, .slice none 0 0] 109)) := Ext.alloc _ _
  have hc0 : (w.alloc (.cells #[.bool false, .slice none 0 0] 109)).cell? ⟨w.heap.size, 0, none⟩ = some (.bool false) := by go_simp
  have hc1 : (w.alloc (.cells #[.bool false, .slice none 0 0] 109)).cell? ⟨w.heap.size, 1, none⟩ = some (.slice none 0 0) := by go_simp
  have hf0' : (w.alloc (.cells #[.bool false, .slice none 0 0] 109)).frozen? ⟨w.heap.size, 0, none⟩ = false := by go_simp
  have hf1' : (w.alloc (.cells #[.bool false, .slice none 0 0] 109)).frozen? ⟨w.heap.size, 1, none⟩ = false := by go_simp
  have hws : w.heap.size < (w.alloc (.cells #[.bool false, .slice none 0 0] 109)).heap.size := by simp
  generalize w.alloc (.cells #[.bool false, .slice none 0 0] 109) = W0 at *
  go_loopw [3, 4] (fun s m wr => ∃ (p : Nat) (gs : List Nat), s = .string ⟨(l.take p).toArray⟩ ∧ 0 < p ∧ Part l p gs ∧ Grown W0 wr m gs ∧ Ext W0 wr) (fun s _ _ => match s with | .string b => b.size | _ => 0)
  case atStart =>
    refine ⟨l.length, [], by rw [List.take_length], hlp, ⟨by simp, by simp, ?_⟩, ⟨by simp [u64s], .inl ⟨rfl, rfl⟩⟩, Ext.refl _⟩
    rw [List.take_length]
    simp [Dig.val]
  case round =>
    obtain ⟨p, gs, rfl, hp, hpart, hgr, hE⟩ := hrel
    have hst := hpart.step HD.out
    have hpl : p ≤ l.length := by have := hpart.1; omega
    have hsz : (⟨(l.take p).toArray⟩ : ByteArray).size = p := by
      show (l.take p).toArray.size = p
      simp; omega
    have hmax : max ((p : Int) - 18) 0 = ((p - 18 : Nat) : Int) := by omega
    have hpl2 : (l.take p).length = p := by rw [List.length_take]; omega
    have he1 := extract_end (l.take p) p (p - 18) hpl2
    have he2 := extract_start (l.take p) (p - 18)
    rw [List.take_take, Nat.min_eq_left (by omega)] at he2
    have hcl : ((l.take p).drop (p - 18)).length = p - (p - 18) := by rw [List.length_drop, hpl2]
    have hcs : (⟨((l.take p).drop (p - 18)).toArray⟩ : ByteArray).size = p - (p - 18) := by
      show ((l.take p).drop (p - 18)).toArray.size = _
      simpa using hcl
    have hps := fun w' : World => parse_any ⟨((l.take p).drop (p - 18)).toArray⟩ w' (by rw [hcs]; omega) (by rw [hcs]; omega) (fun c hc => HD.out c (List.mem_of_mem_take (List.mem_of_mem_drop (by simpa using hc))))
    have HPS := Lib.hid hps
    have HST := Lib.hid hst
    have HPA := Lib.hid hpart
    have hf : p - 18 ≤ p := by omega
    clear hps hst hpart hcs hcl hpl2
    generalize hfe : p - 18 = f at *
    have HFE := Lib.hid hfe
    clear hfe
    go_wp2_with fail
    refine (HPS.out _).mono ?_
    rintro e w2 ⟨rfl, hE2⟩
    obtain ⟨nn, hnn⟩ : ∃ nn, nn = decVal ((l.take p).drop f) := ⟨_, rfl⟩
    have hdat : decVal (⟨((l.take p).drop f).toArray⟩ : ByteArray).data.toList = nn := by rw [hnn]
    rw [hdat]
    have HNN := Lib.hid hnn
    have hO : Own (w2.alloc (.cells #[.int .u64 (nn : Int)] 192)) w2.heap.size [nn] := Own.new w2 [nn] 192
    have hEa : Ext w2 (w2.alloc (.cells #[.int .u64 (nn : Int)] 192)) := Ext.alloc _ _
    have hglen : gs.length + 1 ≤ 17592186044416 := by have := HPA.out.1; omega
    obtain ⟨u, W, hap, hgu, hEu⟩ := app_one (c := 1) ((Grown.ext hgr hE2).ext hEa) (Ext.trans _ _ _ (Ext.trans _ _ _ hE hE2) hEa) hO hglen 107
    have HAP := Lib.hid hap
    have hwr : IntKind.u64.wrap (nn : Int) = (nn : Int) := wrap_u64 _ (by have := HST.out.2.2; rw [← hnn] at this; unfold G at this; omega)
    clear hnn hdat HPS hO hEa hap hglen hE2 hgr
    by_cases hf0 : f = 0
    · subst hf0
      have hval : Dig.val G (gs ++ [nn]) = z.natAbs := by
        have h1 := HST.out.1
        rw [← HNN.out, HV.out] at h1
        rw [h1]
        simp [decVal]
      have hrd := Grown.reads hgu
      have hgG : ∀ x ∈ gs ++ [nn], x < G := by rw [HNN.out]; exact HST.out.2.1
      have htr := fun (w' : World) (hE' : Ext W w') => trim_any u _ w' (hrd.mono hE') hgG
      rw [hval] at htr
      have HTR := Lib.hid htr
      clear htr hval hrd hgG HST HPA HNN HFE
      go_wp2_with (first | (at_builtin; refine wp_app rfl _ _ _ rfl rfl rfl HAP.out ?_) | fail)
      obtain ⟨c, r, hcr, hc45⟩ := itoa_head z
      rw [hcr]
      have hE1 := Ext.trans _ _ _ E0 hEu
      refine ro_region 9 [none, none, none, none, none, none, none, none, some (.mass z.natAbs)] (by kernel_rfl) (by kernel_rfl) ?_
      go_simp
      apply ro_quiet rfl (by intro w3 hE3 _; go_simp; exact rfl)
      go_simp
      apply ro_quiet rfl (by intro w3 hE3 _; go_simp; exact rfl)
      go_simp
      apply ro_quiet rfl (by intro w3 hE3 _; go_simp; exact rfl)
      go_simp
      have hcb : ((c.toNat : Int) == 45) = decide (z < 0) := by
        rw [Bool.eq_iff_iff, beq_iff_eq, decide_eq_true_eq, ← hc45]
        constructor
        · intro h
          apply UInt8.toNat_inj.1
          have : c.toNat = 45 := by omega
          rw [this]; rfl
        · rintro rfl; rfl
      have hx : ∀ h, (⟨(c :: r).toArray⟩ : ByteArray)[0]'h = c := fun h => rfl
      apply ro_want (by rfl) (by intro w3 hE3 _; go_simp; exact rfl)
      go_simp
      apply ro_want (by rfl) (by intro w3 hE3 _; go_simp; exact rfl)
      go_simp
      apply ro_want (by rfl) (by intro w3 hE3 _; go_simp; exact rfl)
      go_simp
      apply ro_quiet rfl (by intro w3 hE3 _; go_simp; exact rfl)
      go_simp
      apply ro_quiet rfl (by intro w3 hE3 _; go_simp; exact rfl)
      go_simp
      apply ro_call rfl (fun w => by go_simp; exact ⟨rfl, rfl⟩)
      · intro w3 hE3 hd
        exact HTR.out w3 (Ext.trans _ _ _ (Ext.drew _) hE3)
      intro v38
      go_simp
      refine ro_done (fun w3 hE3 hf => ?_)
      simp [-List.cons_append] at hf
      have HM := Lib.hid hf
      have hE4 := Ext.trans _ _ _ hEu (Ext.trans _ _ _ (Ext.drew _) hE3)
      have k0 := hE4.cell hc0
      have k1 := hE4.cell hc1
      have HR : Hid (IsNum w3 (.agg #[.bool (decide (z < 0)), v38]) z) := ⟨_, rfl, hf⟩
      obtain ⟨A, cc, rfl, _⟩ := hf
      generalize (mass z.natAbs).length = lz at *
      simp only [List.drop_succ_cons, List.drop_zero]
      have kf0 : w3.frozen? ⟨w.heap.size, 0, none⟩ = false := by rw [hE4.old.2 _ _ hws]; exact hf0'
      have kf1 : w3.frozen? ⟨w.heap.size, 1, none⟩ = false := by rw [hE4.old.2 _ _ hws]; exact hf1'
      go_wp2
      rw [Exit.noGoto_ret]
      refine bodyPost_ret (v := .agg #[.bool (decide (z < 0)), .slice A lz cc]) (by simp [results, Tryz.results132, go_sem, k0, k1]) rfl ⟨_, rfl, ?_, ?_⟩
      · exact IsNum.stored HR.out k0 k1 (notInt_bool _) (notInt_slice _ _ _) _ _
      · exact ((Ext.trans _ _ _ E0 hE4).set (Nat.le_refl _) _).set (Nat.le_refl _) _
    · have hpart : Part l f (gs ++ [nn]) := by
        obtain ⟨h1, h2, _⟩ := HST.out
        have h4 := HPA.out.1
        have h5 := HFE.out
        rw [← HNN.out] at h1 h2
        exact ⟨by simp; omega, h2, by simpa using h1⟩
      have HPART := Lib.hid hpart
      clear hpart
      have hemp : (l.take f).isEmpty = false := by
        rw [List.isEmpty_eq_false_iff]
        intro e
        have := congrArg List.length e
        rw [List.length_take, List.length_nil] at this
        omega
      have hfp : f < p := by have := HFE.out; omega
      have hms : (⟨(l.take f).toArray⟩ : ByteArray).size < (⟨(l.take p).toArray⟩ : ByteArray).size := by
        show (l.take f).toArray.size < (l.take p).toArray.size
        rw [List.size_toArray, List.size_toArray, List.length_take, List.length_take]
        have := HPA.out.1
        omega
      have HMS := Lib.hid hms
      clear hms
      go_wp2_with (first | (at_builtin; refine wp_app rfl _ _ _ rfl rfl rfl HAP.out ?_) | fail)
      go_roundw
      case rel => exact ⟨f, _, rfl, by omega, HPART.out, hgu, hEu⟩
      case measure => exact HMS.out
end Go.Proofs.Xx
end
section
namespace Go.Proofs.Xx
open Go.RowKit Go.V Go.Grow Go.Txt

/-- A number's text. -/
def txtB (z : Int) : ByteArray := ⟨(Lib.itoa z).toArray⟩
/-- A fraction's text. -/
def txtQ (q : Rat) : Value := .agg #[.string (txtB q.num), .string (txtB q.den)]

set_option maxHeartbeats 4000000 in
theorem fread_any (q : Rat) (w : World) (h1 : (Lib.decDigits q.num.natAbs).length ≤ 1000000000000) (h2 : (Lib.decDigits q.den).length ≤ 1000000000000) : Calls Tryz.prog 81 #[txtQ q] w (Ret (.rat q) w) := by
  have HN : Hid (∀ w' : World, Calls Tryz.prog 132 #[.string (txtB q.num)] w' (Ret (.num q.num) w')) := fun w' => read_any q.num w' h1
  have HD : Hid (∀ w' : World, Calls Tryz.prog 132 #[.string (txtB q.den)] w' (Ret (.num (q.den : Int)) w')) := fun w' => read_any (q.den : Int) w' (by rw [Int.natAbs_natCast]; exact h2)
  clear h1 h2
  unfold txtQ
  generalize txtB q.num = bn at *
  generalize txtB (q.den : Int) = bd at *
  go_enter Tryz.func81, Tryz.ntmps81
  go_upto_region 1 with fail
  refine ro_region 8 [none, none, some (.num q.num), none, none, some (.num (q.den : Int)), some (.mass q.den), some (.rat q)] (by kernel_rfl) (by kernel_rfl) ?_
  go_simp
  repeat (apply ro_quiet rfl; (intro w1 hE _; have hX := hE.old; go_simp; exact rfl); go_simp)
  apply ro_call rfl (fun w => by go_simp; exact ⟨rfl, rfl⟩)
  · intro w1 hE hd
    exact HN.out w1
  intro v5
  go_simp
  repeat (apply ro_quiet rfl; (intro w1 hE _; have hX := hE.old; go_simp; exact rfl); go_simp)
  apply ro_call rfl (fun w => by go_simp; exact ⟨rfl, rfl⟩)
  · intro w1 hE hd
    exact HD.out w1
  intro v8
  go_simp
  apply ro_run rfl
  · intro w1 hE hd
    simp [depsHold, Region.binds] at hd
    obtain ⟨m4, rfl, hm4⟩ := hd
    rw [Int.natAbs_natCast] at hm4
    have H4 := Lib.hid hm4
    obtain ⟨A4, c4, rfl, _⟩ := hm4
    have hfd := field_num (decide ((q.den : Int) < 0)) A4 (mass q.den).length c4 w1
    generalize (mass q.den).length = l4 at *
    generalize decide ((q.den : Int) < 0) = b4 at *
    go_simp
    exact ⟨_, _, ⟨rfl, rfl⟩, Ext.refl _, H4.out⟩
  intro v9
  go_simp
  apply ro_run rfl
  · intro w1 hE hd
    simp [depsHold, Region.binds] at hd
    obtain ⟨⟨m5, rfl, hm5⟩, h9⟩ := hd
    have HR : Hid (IsRat w1 (.agg #[.bool (decide (q.num < 0)), m5, v9]) q) := ⟨_, _, rfl, hm5, h9⟩
    obtain ⟨A5, c5, rfl, _⟩ := hm5
    obtain ⟨A9, c9, rfl, _⟩ := h9
    generalize (mass q.num.natAbs).length = l5 at *
    generalize (mass q.den).length = l9 at *
    generalize decide (q.num < 0) = b5 at *
    go_simp
    exact ⟨_, _, ⟨rfl, rfl⟩, Ext.refl _, HR.out⟩
  intro v10
  go_simp
  refine ro_done (fun w1 hE hf => ?_)
  simp [-List.cons_append] at hf
  obtain ⟨_, _, _, hr⟩ := hf
  have hr' := hr
  obtain ⟨_, _, rfl, ⟨A1, c1, rfl, _⟩, ⟨A2, c2, rfl, _⟩⟩ := hr
  have E0 : Ext w ((w.alloc (.cells #[.string bn, .string bd] 46)).alloc (.cells #[.bool false, .slice none 0 0, .slice none 0 0] 111)).drew := Ext.trans _ _ _ (alloc2 _ _ _) (Ext.drew _)
  have hX := hE.old
  simp only [List.drop_succ_cons, List.drop_zero]
  clear HN HD
  generalize (mass q.num.natAbs).length = l1 at *
  generalize (mass q.den).length = l2 at *
  go_wp2
  refine bodyPost_ret (v := .agg #[.bool (decide (q.num < 0)), .slice A1 l1 c1, .slice A2 l2 c2]) (by simp [results, Tryz.results81, go_sem, hX]) rfl ⟨_, rfl, ?_, ?_⟩
  · exact hr'.stored (x0 := .bool false) (x1 := .slice none 0 0) (x2 := .slice none 0 0) (by go_simp) (by go_simp) (by go_simp) (notInt_bool _) (notInt_slice _ _ _) (notInt_slice _ _ _) _ _ _
  · exact (((Ext.trans _ _ _ E0 hE).set (by simp) _).set (by simp) _).set (by simp) _
end Go.Proofs.Xx
end
section
namespace Go.Proofs.Xx
open Go.RowKit Go.V Go.Grow Go.Txt

theorem nDigits_bounds : ∀ u : Nat, 0 < u → 10 ^ (Lib.nDigits u - 1) ≤ u ∧ u < 10 ^ Lib.nDigits u ∧ 0 < Lib.nDigits u := by
  intro u
  induction u using Nat.strongRecOn with
  | _ u ih =>
    intro h0
    by_cases h : u < 10
    · rw [Lib.nDigits_small h]; simp; omega
    · obtain ⟨h1, h2, h3⟩ := ih (u / 10) (by omega) (by omega)
      rw [Lib.nDigits_big h, Nat.add_sub_cancel]
      generalize Lib.nDigits (u / 10) = k at *
      obtain ⟨j, rfl⟩ : ∃ j, k = j + 1 := ⟨k - 1, by omega⟩
      rw [Nat.add_sub_cancel] at h1
      rw [Nat.pow_succ] at h2
      refine ⟨?_, ?_, by omega⟩
      · rw [Nat.pow_succ]; omega
      · rw [Nat.pow_succ, Nat.pow_succ]; omega
/-- How many decimal digits a number has, by its groups. -/
theorem nDigits_mass (n k : Nat) (hk : (mass n).length = k + 1) : Lib.nDigits n = 18 * k + Lib.nDigits ((mass n).getD k 0) := by
  have h1 := Dig.digs_top G_two n k hk
  change n / G ^ k = (mass n).getD k 0 at h1
  have h2 := Dig.digs_top_pos G_two n k hk
  change 0 < (mass n).getD k 0 at h2
  rw [← h1] at h2 ⊢
  obtain ⟨h3, h4, h5⟩ := nDigits_bounds (n / G ^ k) h2
  have hP : 0 < G ^ k := Nat.pow_pos (by unfold G; omega)
  have hG : G ^ k = 10 ^ (18 * k) := by rw [Nat.pow_mul, pow18]
  generalize hd : Lib.nDigits (n / G ^ k) = d at *
  obtain ⟨j, rfl⟩ : ∃ j, d = j + 1 := ⟨d - 1, by omega⟩
  rw [Nat.add_sub_cancel] at h3
  have e : 18 * k + (j + 1) = (18 * k + j) + 1 := by omega
  rw [e]
  apply Lib.nDigits_unique
  · have := Nat.mul_le_of_le_div _ _ _ h3
    rw [hG, ← Nat.pow_add, Nat.add_comm j] at this
    exact this
  · have := (Nat.div_lt_iff_lt_mul hP).1 h4
    rw [hG, ← Nat.pow_add] at this
    have e2 : j + 1 + 18 * k = 18 * k + j + 1 := by omega
    rwa [e2] at this

set_option maxRecDepth 100000 in
theorem digits_any (va : Value) (n : Nat) (w : World) (ha : IsMass w va n) (htab : Tab w) (hs : (mass n).length ≤ 1000000000000) : Calls Tryz.prog 170 #[va] w fun e w' => e = .returned (.int .i64 (Lib.nDigits n : Int)) ∧ Ext w w' := by
  obtain ⟨A, c, rfl, hc, hm, hr⟩ := ha
  by_cases h0 : n = 0
  · subst h0
    have hl : (mass 0).length = 0 := rfl
    rw [hl]
    have hn : Lib.nDigits 0 = 1 := Lib.nDigits_small (by omega)
    rw [hn]
    go_enter Tryz.func170, Tryz.ntmps170
    go_wp2
    go_ret
    exact ⟨rfl, Ext.refl _⟩
  · have hp := mass_len_pos.2 (Nat.pos_of_ne_zero h0)
    obtain ⟨k, hk⟩ : ∃ k, (mass n).length = k + 1 := ⟨(mass n).length - 1, by omega⟩
    obtain ⟨B, o, rfl, hcl⟩ := hr.at k (by omega)
    have hnd := nDigits_mass n k hk
    have htG := Dig.getD_lt (mass_lt n) (by unfold G; omega) k
    rw [hk] at hs hc ⊢
    generalize (mass n).getD k 0 = t at *
    have ht64 : t < 18446744073709551616 := by unfold G at htG; omega
    have HF := Lib.hid (format_any t w ht64 htab)
    have hsz : (⟨(Lib.decDigits t).toArray⟩ : ByteArray).size = Lib.nDigits t := by
      show (Lib.decDigits t).toArray.size = _
      rw [List.size_toArray, Lib.decDigits_length]
    have hnb : Lib.nDigits t ≤ 20 := by
      by_cases ht : 1 ≤ t
      · have := Lib.numDigits_eq t ht ht64; split at this <;> omega
      · rw [Lib.nDigits_small (by omega)]; omega
    have HND := Lib.hid hnd
    clear hnd hr hp h0 hm hc ht64 htG hk
    go_enter Tryz.func170, Tryz.ntmps170
    go_wp2_with fail
    refine HF.out.mono ?_
    rintro e w' ⟨rfl, hE⟩
    clear HF
    go_wp2
    go_ret
    refine ⟨?_, hE⟩
    rw [HND.out, Int.natCast_add, Int.natCast_mul]
    rfl
end Go.Proofs.Xx
end
section
namespace Go.Proofs.Xx
open Go.RowKit Go.V Go.Grow Go.Txt

theorem sizeBuilder : (Tryz.prog.info? 149).map (·.size) = some 2 := by kernel_rfl
theorem liesBuilder : liesAt Tryz.prog Tryz.prog.depth 149 (2 / Tryz.prog.cellsOf 149) 0 149 1 = true := by kernel_rfl

set_option maxHeartbeats 1000000 in
set_option maxRecDepth 100000 in
theorem copyCheck_used (b : Nat) (w : World) (h0 : w.cell? ⟨b, 0, none⟩ = some (.pointer (some ⟨b, 0, none⟩))) :
    Calls Tryz.prog 150 #[.pointer (some ⟨b, 0, none⟩)] w fun e w' => e = .returned (.tuple #[]) ∧ w' = w := by
  obtain ⟨j, hj, _⟩ := Option.map_eq_some_iff.1 sizeBuilder
  go_enter Tryz.func150, Tryz.ntmps150
  go_wp2
  rw [Lib.run_neq_ptr_same w _ Tryz.underlying147 hj]
  go_wp2
  go_end0
  exact ⟨rfl, rfl⟩

set_option maxHeartbeats 1000000 in
set_option maxRecDepth 100000 in
theorem copyCheck_fresh (b : Nat) (w : World) (h0 : w.cell? ⟨b, 0, none⟩ = some (.pointer none)) (hsh : w.shape? b = some (149, 2)) (hfz : w.frozen? ⟨b, 0, none⟩ = false) :
    Calls Tryz.prog 150 #[.pointer (some ⟨b, 0, none⟩)] w fun e w' => e = .returned (.tuple #[]) ∧ w' = w.setCell ⟨b, 0, none⟩ (.pointer (some ⟨b, 0, none⟩)) := by
  obtain ⟨j, hj, hjs⟩ := Option.map_eq_some_iff.1 sizeBuilder
  go_enter Tryz.func150, Tryz.ntmps150
  go_wp2
  rw [Lib.run_to_unsafe w ⟨b, 0, none⟩ Tryz.underlying147 Tryz.underlying221 hj (by rw [hjs]; decide) hsh (Nat.zero_lt_succ 1)]
  simp only [Result.andThen]
  rw [Oper.upon_value]
  go_wp2
  rw [run_callFunc_extern Tryz.func182 (by kernel_rfl) (by kernel_rfl) (by kernel_rfl) (e := Extern.AbiNoEscape.same) (by kernel_rfl)]
  rw [Lib.run_noEscape]
  simp only [Result.andThen]
  rw [Oper.upon_value]
  go_wp2
  rw [Lib.run_from_unsafe w ⟨b, 0, none⟩ Tryz.underlying221 Tryz.underlying147 hj hsh liesBuilder]
  simp only [Result.andThen]
  rw [Oper.upon_value]
  go_wp2
  go_end0
  exact ⟨rfl, rfl⟩

/-- Behind it the builder is in use; its bytes are as they were. -/
theorem copyCheck_any (B b : Nat) (bs : List Value) (w : World) (h : Lib.IsBuilder 149 5 B b bs w) :
    Calls Tryz.prog 150 #[.pointer (some ⟨b, 0, none⟩)] w fun e w' => e = .returned (.tuple #[]) ∧ Lib.BuilderAt 149 5 B b (.pointer (some ⟨b, 0, none⟩)) bs w' ∧ Below B w w' := by
  rcases h with h | h
  · refine (copyCheck_fresh b w h.cell0 h.shape h.frozen0).mono ?_
    rintro e w' ⟨rfl, rfl⟩
    exact ⟨rfl, h.used _, (Below.refl B w).setCell (p := ⟨b, 0, none⟩) h.1 _⟩
  · refine (copyCheck_used b w h.cell0).mono ?_
    rintro e w' ⟨rfl, rfl⟩
    exact ⟨rfl, h, Below.refl B _⟩
end Go.Proofs.Xx
end
section
namespace Go.Proofs.Xx
open Go.RowKit Go.V Go.Grow Go.Txt

theorem info5 : (Tryz.prog.info? 5).map (fun i => (i.zero, i.size, i.bytes)) = some (some (.int .u8 0), 1, 1) := by kernel_rfl

set_option maxHeartbeats 1000000 in
set_option maxRecDepth 100000 in
/-- Text is written behind what a builder holds. -/
theorem writeString_any (B b : Nat) (bs : List Value) (s : ByteArray) (w : World) (h : Lib.IsBuilder 149 5 B b bs w) (hlen : bs.length + s.size ≤ 140737488355328) (hBw : B ≤ w.heap.size) :
    Calls Tryz.prog 104 #[.pointer (some ⟨b, 0, none⟩), .string s] w fun e w' => (∃ r, e = .returned r) ∧ Lib.BuilderAt 149 5 B b (.pointer (some ⟨b, 0, none⟩)) (bs ++ Lib.strCells s) w' ∧ Below B w w' := by
  obtain ⟨i0, hi, hz0, hz1, hz2⟩ := info_parts info5
  go_enter Tryz.func104, Tryz.ntmps104
  go_wp2_with fail
  refine (copyCheck_any B b bs _ h).mono ?_
  rintro e w1 ⟨rfl, ⟨hB, v, hbk, hown, hne⟩, hb1⟩
  have c1 : w1.cell? ⟨b, 1, none⟩ = some v := by rw [Lib.cell_of_heap hbk]; rfl
  have hsz := hb1.size
  go_wp2_with (first | (at_builtin; refine Lib.wpList_append_own_string _ rfl _ _ 27 9 rfl B 5 i0 Tryz.underlying27 Tryz.underlying9 hi hz0 hz1 hz2 _ _ _ rfl hown s rfl ?c3 ?c4 ?c5 ?_) | fail)
  case c3 => unfold maxLen; omega
  case c4 => omega
  case c5 => omega
  intro v' w2 hown' hgrow _
  have hlt : b < w1.heap.size := (Array.getElem?_eq_some_iff.1 hbk).1
  have hb2 : w2.heap[b]? = some (.cells #[.pointer (some ⟨b, 0, none⟩), v] 149 (0, 0)) := by
    rw [hgrow.block b hlt (fun e => hne e.symm)]
    exact hbk
  have d1 : w2.cell? ⟨b, 1, none⟩ = some v := by rw [Lib.cell_of_heap hb2]; rfl
  have f1 : w2.frozen? ⟨b, 1, none⟩ = false := Lib.frozen_of_heap hb2 1
  have HE := Lib.hid ((hb1.grown hgrow (by omega) (fun k hk => (hown.lt k hk).1)).setCell (p := ⟨b, 1, none⟩) hB v')
  have HP := Lib.hid (Lib.BuilderAt.put (T := 149) (e := 5) hB hb2 (bs' := bs ++ Lib.strCells s) (by simpa [Lib.strCells_length] using hown') (by decide))
  obtain ⟨ao, n', cap, rfl⟩ : ∃ ao n' cap, v' = .slice ao n' cap := by
    rcases hown'.2 with ⟨hv, _⟩ | ⟨g, cap, cur, hv, _⟩
    · exact ⟨_, _, _, hv⟩
    · exact ⟨_, _, _, hv⟩
  clear hown' hgrow hown hbk c1
  go_wp2
  go_ret2
  exact ⟨⟨_, rfl⟩, HP.out, HE.out⟩

set_option maxHeartbeats 1000000 in
set_option maxRecDepth 100000 in
/-- One byte is written behind what a builder holds. -/
theorem writeByte_any (B b : Nat) (bs : List Value) (c : Int) (w : World) (h : Lib.IsBuilder 149 5 B b bs w) (hlen : bs.length + 1 ≤ 140737488355328) (hBw : B ≤ w.heap.size) :
    Calls Tryz.prog 173 #[.pointer (some ⟨b, 0, none⟩), .int .u8 c] w fun e w' => (∃ r, e = .returned r) ∧ Lib.BuilderAt 149 5 B b (.pointer (some ⟨b, 0, none⟩)) (bs ++ [.int .u8 c]) w' ∧ Below B w w' := by
  obtain ⟨i0, hi, hz0, hz1, hz2⟩ := info_parts info5
  go_enter Tryz.func173, Tryz.ntmps173
  go_wp2_with fail
  refine (copyCheck_any B b bs _ h).mono ?_
  rintro e w1 ⟨rfl, ⟨hB, v, hbk, hown, hne⟩, hb1⟩
  have c1 : w1.cell? ⟨b, 1, none⟩ = some v := by rw [Lib.cell_of_heap hbk]; rfl
  have hsz := hb1.size
  go_wp2_with (first | (at_builtin; refine wpList_append_own _ rfl _ _ 27 rfl B 5 i0 (.int .u8 0) 1 1 Tryz.underlying27 hi hz0 hz1 hz2 rfl (by decide) _ _ _ rfl (hown.alloc _) ⟨w1.heap.size, 0, none⟩ 1 1 [.int .u8 c] rfl rfl ?c1 ?c2 ?c3 ?c4 ?c5 ?_) | fail)
  case c1 =>
    intro j u hj
    match j, hj with
    | 0, hj => simp at hj; subst hj; simp [Addr.add]
  case c2 => intro u hu; simp at hu; subst hu; rfl
  case c3 => unfold maxLen; omega
  case c4 => omega
  case c5 => simp; omega
  intro v' w2 hown' hgrow _
  have hlt : b < w1.heap.size := (Array.getElem?_eq_some_iff.1 hbk).1
  have hb2 : w2.heap[b]? = some (.cells #[.pointer (some ⟨b, 0, none⟩), v] 149 (0, 0)) := by
    rw [hgrow.block b (by simp; omega) (fun e => hne e.symm), Lib.alloc_old w1 _ b hlt]
    exact hbk
  have d1 : w2.cell? ⟨b, 1, none⟩ = some v := by rw [Lib.cell_of_heap hb2]; rfl
  have f1 : w2.frozen? ⟨b, 1, none⟩ = false := Lib.frozen_of_heap hb2 1
  have HE := Lib.hid ((Below.grown (hb1.alloc (Nat.le_trans hBw hsz) _) hgrow (by simp; omega) (fun k hk => (hown.lt k hk).1)).setCell (p := ⟨b, 1, none⟩) hB v')
  have HP := Lib.hid (Lib.BuilderAt.put (T := 149) (e := 5) hB hb2 (bs' := bs ++ [.int .u8 c]) (by simpa using hown') (by decide))
  obtain ⟨ao, n', cap, rfl⟩ : ∃ ao n' cap, v' = .slice ao n' cap := by
    rcases hown'.2 with ⟨hv, _⟩ | ⟨g, cap, cur, hv, _⟩
    · exact ⟨_, _, _, hv⟩
    · exact ⟨_, _, _, hv⟩
  clear hown' hgrow hown hbk c1
  go_wp2
  go_ret
  exact ⟨⟨_, rfl⟩, HP.out, HE.out⟩
end Go.Proofs.Xx
end
