/- A part of the proof: the texts W59. -/
import Derived.Test.YtblmikccdhdjlaaGreatDoorP37
set_option linter.unusedVariables false
set_option linter.unusedSimpArgs false
section
namespace Go.Proofs.Xx
open Go.RowKit Go.V Go.Grow Lin Go.Txt

/-- The rows of a system: those of the table, and the right side's element behind. -/
def augQ (qa : Nat → List Rat) (qb : List Rat) (i : Nat) : List Rat := qa i ++ [qb.getD i 0]

theorem scaledZ_all (qs : List Rat) (c : Nat) : (scaledZ qs c : Rat) = (lcmD qs : Rat) * qs.getD c 0 := by
  by_cases h : c < qs.length
  · exact scaledZ_eq qs c h
  · have e : qs.getD c 0 = 0 := by rw [List.getD_eq_getElem?_getD, List.getElem?_eq_none (by omega)]; rfl
    unfold scaledZ
    rw [e]
    simp
/-- The elimination of a system. -/
noncomputable def sysP (n : Nat) (qa : Nat → List Rat) (qb : List Rat) : PS := runP n (fun i => scaledZ (augQ qa qb i)) (n + 1)
/-- There is no one answer. -/
def NoOne (n : Nat) (P : PS) : Prop := P.steps.length < n ∨ P.steps.getD (n - 1) 0 ≠ n - 1
theorem diag_ne (n : Nat) (hn : 0 < n) (qa : Nat → List Rat) (qb : List Rat) (h : ¬ NoOne n (sysP n qa qb)) : ∀ i, i < n → (sysP n qa qb).E i i ≠ 0 := by
  obtain ⟨h1, h2⟩ := solve_same n hn (fun i c => (augQ qa qb i).getD c 0) (fun i => scaledZ (augQ qa qb i)) (fun i => (lcmD (augQ qa qb i) : Rat)) (fun i _ => ⟨by
    have := lcmD_pos (augQ qa qb i)
    intro e
    have : lcmD (augQ qa qb i) = 0 := by exact_mod_cast e
    omega, fun c => scaledZ_all _ c⟩)
  have h3 := fun h' => h (h1 h')
  exact (h2 h3).2.2.2.1
/-- What the back substitution comes to. -/
def Back (n : Nat) (P : PS) (x : Nat → Rat) : Prop := ∀ i, i < n → x i = ((P.E i n : Rat) - rsum (n - 1 - i) (fun t => (P.E i (i + 1 + t) : Rat) * x (i + 1 + t))) / (P.E i i : Rat)
/-- How large the answer's k-th element from behind may be. -/
def XB (LE k : Nat) : Nat := (3 * 2 ^ k - 1) * (LE + 1)
/-- What solve hands back. -/
def Solved (n : Nat) (P : PS) (LE : Nat) (w : World) (e : Ending) (w' : World) : Prop :=
  ((NoOne n P ∧ e = .returned (.tuple #[.slice none 0 0, .int .i64 7])) ∨ (¬ NoOne n P ∧ ∃ xb x, e = .returned (.tuple #[.slice (some ⟨xb, 0, none⟩) n n, .int .i64 0]) ∧ RRow w' xb n (fun _ => True) x ∧ (∀ i, i < n → Sz (x i) (XB LE (n - 1 - i))) ∧ Back n P x)) ∧ Ext w w'
theorem sz_int {z : Int} {L : Nat} (h : (mass z.natAbs).length ≤ L) (h1 : 1 ≤ L) : Sz (z : Rat) L := ⟨h, Nat.le_trans (Dig.digs_len_le (b := G) (k := 1) G_two (by show (1 : Nat) < G ^ 1; unfold G; omega)) h1⟩
set_option maxHeartbeats 8000000 in
set_option maxRecDepth 100000 in
theorem solve0_any (va vb : Value) (n : Nat) (us : Nat → Value) (qa : Nat → List Rat) (qb : List Rat) (w : World) (hL : IsL w va n us) (hR : ∀ i, i < n → IsRats w (us i) (qa i) ∧ (qa i).length = n) (hb : IsRats w vb qb) (hbl : qb.length = n) (hn : 0 < n) (hn10 : n ≤ 10)
    (s : Nat) (hsz : ∀ i, i < n → ∀ q ∈ augQ qa qb i, Sz q s) (hs : s ≤ 100000) :
    Calls Tryz.prog 59 #[va, vb] w (Solved n (sysP n qa qb) ((12 * s + 2) * 1024) w) := by
  obtain ⟨A, ca, rfl, hca, hcm, _⟩ := id hL
  obtain ⟨Ab, cb, rfl, hcb, hcbm, _⟩ := id hb
  have HL := Lib.hid hL
  have HR := Lib.hid hR
  have HB := Lib.hid hb
  have HSC : Hid (∀ (i : Nat) (v : Value) (w' : World), i < n → IsRats w' v (augQ qa qb i) → Calls Tryz.prog 52 #[v] w' fun e w'' => ∃ g, e = .returned (.slice (some ⟨g, 0, none⟩) (n + 1) (n + 1)) ∧ w'.heap.size ≤ g ∧ NRow w'' g (n + 1) (scaledZ (augQ qa qb i)) ∧ Ext w' w'') := fun i v w' hi h => by
    have hl : (augQ qa qb i).length = n + 1 := by unfold augQ; rw [List.length_append, (hR i hi).2]; rfl
    have h0 : (n + 1 + 1) * s ≤ 12 * s := Nat.mul_le_mul_right _ (by omega)
    have := scaled_any v (augQ qa qb i) w' h (by omega) (s := s) (hsz i hi) (by rw [hl]; omega)
    rw [hl] at this
    exact this
  have hbl' : (qb.length : Int) = (n : Int) := by omega
  rw [hbl] at HB ⊢
  clear hL hR hb hcm hcbm
  have E1 : Ext w (w.alloc (.cells #[.slice none 0 0] 88)) := Ext.alloc _ _
  have hS0 : SI w (w.alloc (.cells #[.slice none 0 0] 88)) w.heap.size n 0 (fun i => scaledZ (augQ qa qb i)) (.slice none 0 0) (fun _ => 0) :=
    ⟨(Blk.new w [.slice none 0 0] 88).cell 0, (Blk.new w [.slice none 0 0] 88).frozen 0, Lst.nil _ _ _ _, fun j hj => by omega, fun j hj => by omega, fun j l _ hl => by omega, E1, fun _ => rfl⟩
  have HS0 := Lib.hid hS0
  have HSZ := Lib.hid hsz
  clear hS0 hsz E1
  go_enter Tryz.func59, Tryz.ntmps59
  go_wp2_with fail
  generalize w.alloc (.cells #[.slice none 0 0] 88) = W1 at *
  generalize htb : w.heap.size = tb at *
  have HTB := Lib.hid htb
  clear htb
  go_loopw [17] (fun t wr => ∃ i : Nat, t = .int .i64 (i : Int) ∧ i ≤ n ∧ ∃ rv rb, SI w wr tb n i (fun i => scaledZ (augQ qa qb i)) rv rb) (fun t _ => upTo n t)
  case atStart => exact ⟨0, rfl, Nat.zero_le _, _, _, HS0.out⟩
  case round =>
    obtain ⟨i, rfl, hi, rv, rb, hI⟩ := hrel
    obtain ⟨w1, hw1⟩ : ∃ w1, w1 = wr := ⟨_, rfl⟩
    subst hw1
    by_cases hlt : i < n
    · obtain ⟨b, o, rfl, k1⟩ := IsL.get HL.out hlt
      obtain ⟨hr1, hr2⟩ := HR.out i hlt
      have r1 := hI.ext.cell k1
      generalize us i = ui at *
      obtain ⟨Ai, ci, rfl, _⟩ := id hr1
      have hne : qa i ≠ [] := by intro e; rw [e] at hr2; simp at hr2; omega
      obtain ⟨bi, oi, vs, rfl, _, hvl, hvc, hvp⟩ := IsRats.cells hr1 hne
      have hP : Parts w vs (qa i) := ⟨hvl, hvp⟩
      rw [hr2] at r1 hr1
      -- the right side's element
      obtain ⟨q, hq⟩ : ∃ q, qb[i]? = some q := ⟨qb[i], List.getElem?_eq_getElem (by omega)⟩
      have hqd : qb.getD i 0 = q := by rw [List.getD_eq_getElem?_getD, hq]; rfl
      obtain ⟨bb, ob, p, m, d, hAb, y1, y2, y3, y4⟩ := IsRats.get HB.out hq
      subst hAb
      obtain ⟨hpq, hm, hd⟩ := y4.parts
      clear hpq
      have z1 := hI.ext.cell y1
      have z2 := hI.ext.cell y2
      have z3 := hI.ext.cell y3
      obtain ⟨A3, c3, hm3, _⟩ := hm
      obtain ⟨A4, c4, hd4, _⟩ := hd
      subst hm3 hd4
      generalize hl3 : (mass q.num.natAbs).length = l3 at *
      generalize hl4 : (mass q.den).length = l4 at *
      obtain ⟨Ar, cr, hrv⟩ := hI.lst.slice
      have htc := hI.cell
      have hPw := hP.keep hI.ext.keep
      have hvc' : ∀ j u, (ratCells vs)[j]? = some u → w1.cell? ⟨bi, oi + j, none⟩ = some u := fun j u hu => hI.ext.cell (hvc j u hu)
      have hyw := y4.mono hI.ext
      have HI := Lib.hid hI
      have HPW := Lib.hid hPw
      have HVC := Lib.hid hvc'
      have HY := Lib.hid hyw
      have htbl : tb < w1.heap.size := World.block_lt_of_cell? w1 _ htc
      have hicap : i < ca := by omega
      have hicb : i < cb := by omega
      clear hI hP hPw hvc hvc' hvp hyw y4 hr1 hl3 hl4
      go_wp2_with fail
      obtain ⟨cs, hcs⟩ : ∃ cs, cs = ratCells vs := ⟨_, rfl⟩
      obtain ⟨bs, hbs⟩ : ∃ bs, bs = [Value.bool p, .slice A3 l3 c3, .slice A4 l4 c4] := ⟨_, rfl⟩
      have hbsn : ∀ u ∈ bs, NotU u := fun u hu => by
        rw [hbs] at hu
        simp at hu
        rcases hu with rfl | rfl | rfl
        · exact (notInt_bool _).u
        · exact (notInt_slice _ _ _).u
        · exact (notInt_slice _ _ _).u
      have hbs1 : ∀ u ∈ bs, u.oneCell' = true ∧ NotU u := fun u hu => ⟨by
        rw [hbs] at hu
        simp at hu
        rcases hu with rfl | rfl | rfl <;> rfl, hbsn u hu⟩
      have hcl : cs.length = n * 3 := by rw [hcs, ratCells_length, hvl, hr2]
      have hbl3 : bs.length = 3 := by rw [hbs]; rfl
      obtain ⟨N, hN⟩ : ∃ N, N = w1.heap.size := ⟨_, rfl⟩
      obtain ⟨EE, hEE⟩ : ∃ EE, EE = EC N 111 cs bs := ⟨_, rfl⟩
      have hrefl : ∀ u, EE u u := fun u => by rw [hEE]; exact EC.refl u
      have htr : ∀ a b c, EE a b → EE b c → EE a c := by rw [hEE]; exact EC.trans
      have hDR : EE w1 w1.drew := by rw [hEE]; exact EC.ofExt (Ext.drew _) (Nat.le_of_eq hN)
      have hsz2 : ∀ u v, EE u v → u.heap.size ≤ v.heap.size := fun u v h => by rw [hEE] at h; exact h.size
      have hold : ∀ u, EE w1.drew u → EE w1 u ∧ Ext w1 u := fun u h => by
        have h2 := htr _ _ _ hDR h
        refine ⟨h2, ?_⟩
        rw [hEE, hN] at h2
        exact h2.1
      have hext : ∀ u v, EE w1.drew u → Ext u v → EE u v := fun u v h hE => by
        have := hsz2 _ _ (hold u h).1
        rw [hEE]
        exact EC.ofExt hE (by rw [hN]; exact this)
      -- what is known of the values
      let F25 : Value → World → Prop := fun v u => Lst u N 111 3 v n cs
      let F30 : Value → World → Prop := fun v u => ∃ h, v = .slice (some ⟨h, 0, none⟩) 1 1 ∧ Blk u h bs
      let F31 : Value → World → Prop := fun v u => Lst u N 111 3 v (n + 1) (cs ++ bs)
      let F32 : Value → World → Prop := fun v u => ∃ r, v = .slice (some ⟨r, 0, none⟩) (n + 1) (n + 1) ∧ N ≤ r ∧ NRow u r (n + 1) (scaledZ (augQ qa qb i))
      let F33 : Value → World → Prop := fun v u => ∃ h r, v = .slice (some ⟨h, 0, none⟩) 1 1 ∧ Blk u h [.slice (some ⟨r, 0, none⟩) (n + 1) (n + 1)] ∧ N ≤ r ∧ NRow u r (n + 1) (scaledZ (augQ qa qb i))
      have hst25 : ∀ v, Grow.Stable EE (F25 v) := fun v u u' hE h => by rw [hEE] at hE; exact hE.lst0 hbsn h
      have hst30 : ∀ v, Grow.Stable EE (F30 v) := fun v u u' hE h => by
        rw [hEE] at hE
        obtain ⟨q, e, hq⟩ := h
        exact ⟨q, e, hE.blk hq (by omega)⟩
      have hst31 : ∀ v, Grow.Stable EE (F31 v) := fun v u u' hE h => by rw [hEE] at hE; exact hE.lst1 h
      have hd2 : ∃ A c l, cs[2]? = some (Value.slice A l c) := by
        obtain ⟨q0, hq0⟩ : ∃ q0, (qa i)[0]? = some q0 := ⟨(qa i)[0]'(by omega), List.getElem?_eq_getElem _⟩
        obtain ⟨p0, e0, h0⟩ := HPW.out.2 0 q0 hq0
        obtain ⟨_, _, A, c, e1, _⟩ := h0.parts
        have := (ratCells_get vs 0).2.2
        rw [e0] at this
        refine ⟨A, c, (mass q0.den).length, ?_⟩
        rw [hcs, ← e1]
        exact this
      have hrowst : ∀ (r : Nat) (z : Nat → Int) (u u' : World), EE u u' → NRow u r (n + 1) z → NRow u' r (n + 1) z := fun r z u u' hE h => by
        rw [hEE] at hE
        obtain ⟨vs', ⟨T, hT⟩, k2, k3⟩ := h
        refine ⟨vs', ⟨T, hE.stays hT fun sp _ e => ?_⟩, k2, fun j q hq => (k3 j q hq).keep hE.2.1⟩
        obtain ⟨A, c, l, h2⟩ := hd2
        have h3 : (numCells vs')[2]? = vs'[1]?.map (fun p => .bool p.1) := (numCells_get vs' 1).1
        rw [e, List.getElem?_append_left (by omega), h2] at h3
        cases hh : vs'[1]? <;> rw [hh] at h3 <;> simp at h3
      have hst32 : ∀ v, Grow.Stable EE (F32 v) := fun v u u' hE h => by
        obtain ⟨r, e1, e2, e3⟩ := h
        exact ⟨r, e1, e2, hrowst r _ u u' hE e3⟩
      have hst33 : ∀ v, Grow.Stable EE (F33 v) := fun v u u' hE h => by
        obtain ⟨q, r, e1, e2, e3, e4⟩ := h
        refine ⟨q, r, e1, ?_, e3, hrowst r _ u u' hE e4⟩
        rw [hEE] at hE
        exact hE.blk e2 (by rw [hcl, hbl3]; simp)
      have hKE : ∀ u v, EE u v → Keep u v := fun u v h => by rw [hEE] at h; exact h.2.1
      have HC25 : Hid (∀ u, EE w1.drew u → Calls Tryz.prog 126 #[.slice (some ⟨bi, oi, none⟩) n ci] u fun e u' => ∃ v, e = .returned v ∧ F25 v u' ∧ EE u u') := fun u hE => by
        obtain ⟨h1, h2⟩ := hold u hE
        have := clone_vals bi oi ci vs (qa i) u (HPW.out.keep h2.keep) (fun j x hx => h2.cell (HVC.out j x hx)) (by omega) (by omega)
        rw [hr2] at this
        refine this.mono ?_
        rintro e u' ⟨v, rfl, hv, hE2⟩
        refine ⟨v, rfl, ?_, hext u u' hE hE2⟩
        show Lst u' N 111 3 v n cs
        rw [hcs]
        exact hv.weaken (by rw [hN]; exact h2.size)
      have HA31 : Hid (∀ u v h c, EE w1.drew u → F25 v u → Blk u h bs → ∃ v' u', (Builtin.append_ #[83, 83] 83 #[v, .slice (some ⟨h, 0, none⟩) 1 c]).run Tryz.prog u = .ok v' u' ∧ EE u u' ∧ F31 v' u') := fun u v h c hE hv hh => by
        obtain ⟨h1, h2⟩ := hold u hE
        obtain ⟨v', u', k1, k2, k3, k4, k5, k6⟩ := app_rats hv ⟨h, 0, none⟩ 1 c bs hbl3 (fun j x hx => by rw [add0, hh.cell]; exact hx) hbs1 (by decide) (by omega) (by rw [hN]; exact h2.size) 83 83 Tryz.underlying83
        refine ⟨v', u', k1, ?_, k2⟩
        have ho : ∀ g, v.ownBlock = some g → N ≤ g := fun g hg => (hv.own hg).1
        rw [hEE]
        refine ⟨⟨k4.os, k4.tape, k4.output, k4.size, fun q hq => k4.block q (Nat.lt_of_lt_of_le hq (by rw [hN]; exact h2.size)) (fun e => by have := ho q e.symm; omega)⟩, k3, fun q hq => ?_⟩
        by_cases e : v.ownBlock = some q
        · exact k6 q e
        · exact .inl (k4.block q hq (fun e2 => e e2.symm))
      have HC32 : Hid (∀ u v, EE w1.drew u → F31 v u → Calls Tryz.prog 52 #[v] u fun e u' => ∃ v', e = .returned v' ∧ F32 v' u' ∧ EE u u') := fun u v hE hv => by
        obtain ⟨h1, h2⟩ := hold u hE
        have hPs : Parts u (vs ++ [(p, .slice A3 l3 c3, .slice A4 l4 c4)]) (augQ qa qb i) := by
          unfold augQ
          rw [hqd]
          exact Parts.snoc (HPW.out.keep h2.keep) (HY.out.mono h2)
        have hv2 : Lst u N 111 3 v (augQ qa qb i).length (ratCells (vs ++ [(p, .slice A3 l3 c3, .slice A4 l4 c4)])) := by
          rw [ratCells_snoc, ← hcs, ← hbs]
          have : (augQ qa qb i).length = n + 1 := by unfold augQ; rw [List.length_append, hr2]; rfl
          rw [this]
          exact hv
        refine (HSC.out i v u hlt (Lst.rats hv2 hPs (by unfold augQ; simp))).mono ?_
        rintro e u' ⟨g, rfl, hg, hN', hE2⟩
        exact ⟨_, rfl, ⟨g, rfl, by rw [hN]; exact Nat.le_trans h2.size hg, hN'⟩, hext u u' hE hE2⟩
      have HEE := Lib.hid hEE
      have HOLD := Lib.hid hold
      have HEXT := Lib.hid hext
      have HCELL : Hid (∀ u, EE w1.drew u → u.cell? ⟨tb, 0, none⟩ = some (.slice Ar i cr) ∧ u.cell? ⟨bb, ob + i * 3, none⟩ = some (.bool p) ∧ u.cell? ⟨bb, ob + i * 3 + 1, none⟩ = some (.slice A3 l3 c3) ∧ u.cell? ⟨bb, ob + i * 3 + 2, none⟩ = some (.slice A4 l4 c4)) := fun u hE => by
        have h2 := (hold u hE).2
        refine ⟨?_, h2.cell z1, h2.cell z2, h2.cell z3⟩
        have := h2.cell htc
        rw [hrv] at this
        exact this
      have H30i : Hid (∀ u h, Blk u h bs → F30 (.slice (some ⟨h, 0, none⟩) 1 1) u) := fun u h hh => ⟨h, rfl, hh⟩
      have H30e : Hid (∀ v u, F30 v u → ∃ h, v = .slice (some ⟨h, 0, none⟩) 1 1 ∧ Blk u h bs) := fun v u h => h
      have H32e : Hid (∀ v u, F32 v u → ∃ r, v = .slice (some ⟨r, 0, none⟩) (n + 1) (n + 1) ∧ N ≤ r ∧ NRow u r (n + 1) (scaledZ (augQ qa qb i))) := fun v u h => h
      have H33i : Hid (∀ u h r, Blk u h [.slice (some ⟨r, 0, none⟩) (n + 1) (n + 1)] → N ≤ r → NRow u r (n + 1) (scaledZ (augQ qa qb i)) → F33 (.slice (some ⟨h, 0, none⟩) 1 1) u) := fun u h r h1 h2 h3 => ⟨h, r, rfl, h1, h2, h3⟩
      have H33e : Hid (∀ v u, F33 v u → ∃ h r, v = .slice (some ⟨h, 0, none⟩) 1 1 ∧ Blk u h [.slice (some ⟨r, 0, none⟩) (n + 1) (n + 1)] ∧ N ≤ r ∧ NRow u r (n + 1) (scaledZ (augQ qa qb i))) := fun v u h => h
      have HBS := Lib.hid hbs
      have HNN := Lib.hid hN
      have HKE := Lib.hid hKE
      have HSI := Lib.hid (HI.out)
      clear_value F25 F30 F31 F32 F33
      clear hEE hold hext hDR hsz2 hrowst hd2 hbsn hbs1 hcs hbs hN hKE z1 z2 z3 htc hqd hq
      have hrv' := hrv
      subst hrv'
      refine roE_region EE 12 [none, none, none, some F25, none, none, none, none, some F30, some F31, some F32, some F33] (by kernel_rfl) (by kernel_rfl) hrefl htr ?_ ?_
      · intro S hS v
        simp only [List.mem_cons, List.not_mem_nil, or_false, Option.some.injEq, reduceCtorEq, false_or] at hS
        rcases hS with rfl | rfl | rfl | rfl | rfl
        · exact hst25 v
        · exact hst30 v
        · exact hst31 v
        · exact hst32 v
        · exact hst33 v
      go_simp
      repeat (apply roE_quiet rfl; (intro w2 hE2' _; have hX := HCELL.out w2 hE2'; go_simp; exact rfl); go_simp)
      apply roE_call rfl (fun w => by go_simp; exact ⟨rfl, rfl⟩)
      · intro w2 hE2' hd
        exact HC25.out w2 hE2'
      intro v25
      go_simp
      repeat (apply roE_quiet rfl; (intro w2 hE2' _; have hX := HCELL.out w2 hE2'; go_simp; exact rfl); go_simp)
      apply roE_run rfl
      · intro w2 hE2' hd
        go_simp
        exact ⟨_, _, ⟨rfl, rfl⟩, HEXT.out _ _ hE2' (Ext.alloc _ _), H30i.out _ _ (by rw [HBS.out]; exact Blk.new w2 [Value.bool p, .slice A3 l3 c3, .slice A4 l4 c4] _)⟩
      intro v30
      go_simp
      apply roE_run rfl
      · intro w2 hE2' hd
        simp [depsHold, Region.binds] at hd
        obtain ⟨q1, rfl, q2⟩ := H30e.out _ _ hd.2.1
        obtain ⟨v', u', k1, k2, k3⟩ := HA31.out w2 v25 q1 1 hE2' hd.1 q2
        exact ⟨v', u', app_exec (v := v25) (u := .slice (some ⟨q1, 0, none⟩) 1 1) _ _ 83 rfl rfl rfl k1, k2, k3⟩
      intro v31
      go_simp
      apply roE_call rfl (fun w => by go_simp; exact ⟨rfl, rfl⟩)
      · intro w2 hE2' hd
        simp [depsHold, Region.binds] at hd
        exact HC32.out w2 v31 hE2' hd
      intro v32
      go_simp
      apply roE_run rfl
      · intro w2 hE2' hd
        simp [depsHold, Region.binds] at hd
        obtain ⟨r, rfl, q1, q2⟩ := H32e.out _ _ hd
        go_simp
        exact ⟨_, _, ⟨rfl, rfl⟩, HEXT.out _ _ hE2' (Ext.alloc _ _), H33i.out _ _ r (Blk.new w2 [.slice (some ⟨r, 0, none⟩) (n + 1) (n + 1)] _) q1 (q2.ext (Ext.alloc _ _))⟩
      intro v33
      go_simp
      refine roE_done (fun w2 hE2' hf => ?_)
      simp [-List.cons_append] at hf
      obtain ⟨_, _, _, _, h33⟩ := hf
      obtain ⟨h2, r, rfl, hb2, hr2', hN2⟩ := H33e.out _ _ h33
      have hE2 := (HOLD.out w2 hE2').2
      have hK2 := HKE.out _ _ (HOLD.out w2 hE2').1
      obtain ⟨v', w3, k1, k2, k3, ⟨A5, c5, hv5⟩, k4⟩ := HSI.out.step (Nat.le_of_eq HTB.out) hE2 hK2 (by rw [← HNN.out]; exact hr2') hN2 hb2 (by omega) 86 86 Tryz.underlying86
      subst hv5
      have HK1 := Lib.hid k1
      have HK4 := Lib.hid k4
      have HWI : Hid (wrap64 ((i : Int) + 1) = ((i + 1 : Nat) : Int)) := by
        show wrap64 ((i : Int) + 1) = ((i + 1 : Nat) : Int)
        rw [IntWalk.wrap64_in _ (by omega)]
        omega
      clear k1 k4 hE2 hK2 hN2 hb2 hst25 hst30 hst31 hst32 hst33 hrefl htr HC25 HA31 HC32
      simp only [List.drop_succ_cons, List.drop_zero]
      go_wp2_with (first | (at_builtin; refine wp_app rfl _ _ _ rfl rfl rfl HK1.out ?_) | fail)
      go_roundw
      case rel => exact ⟨i + 1, rfl, hlt, _, _, HK4.out⟩
      case measure => exact upTo_lt hlt
    · have hin : i = n := by omega
      subst hin
      have hE0 := hI.ext
      obtain ⟨g, c, hrv, hgc, hg1, hg2, hgcell, _⟩ := hI.lst.cell hn
      have hT : Tbl w1 g 0 i (i + 1) rb (fun i => scaledZ (augQ qa qb i)) := by
        refine ⟨fun q hq => ?_, fun q hq e => ?_, fun q l hq hl e => ?_, fun q hq => hI.row q hq⟩
        · rw [Nat.zero_add]; exact hgcell q _ (slices_get rb (i + 1) i q hq)
        · obtain ⟨p, m, y1, _⟩ := (hI.row q hq).get (j := 0) (by omega)
          have := hgcell 0 _ (slices_get rb (i + 1) i 0 hn)
          rw [e, Nat.zero_mul, this] at y1
          cases y1
        · rcases Nat.lt_trichotomy q l with k | k | k
          · have := hI.inj q l k hl; omega
          · exact k
          · have := hI.inj l q k hq; omega
      have htc := hI.cell
      have htbl : tb < w1.heap.size := World.block_lt_of_cell? w1 _ htc
      have HEL := Lib.hid (elim_any g 0 i (i + c) (i + 1) rb (fun i => scaledZ (augQ qa qb i)) (tb + 1) w1 hT hn (by omega) (by omega) (by omega) (by omega) (fun q hq => by have := hI.up q hq; omega) (by omega) (12 * s + 1) 10 (by omega) (fun q x hq hx => by
        have hl : (augQ qa qb q).length = i + 1 := by unfold augQ; rw [List.length_append, (HR.out q hq).2]; rfl
        have := scaledZ_len (HSZ.out q hq) (n := 11) (by omega) x (by omega)
        omega) (fun j hj => Nat.le_trans (runP_len i _ j) (by omega)) (by omega))
      rw [hrv] at htc
      have HDG := Lib.hid (diag_ne i hn qa qb)
      have HSZE : Hid (∀ q x, q < i → x < i + 1 → (mass ((sysP i qa qb).E q x).natAbs).length ≤ (12 * s + 2) * 1024) := fun q x hq hx => by
        have h1 := (run_size i (i + 1) (fun i => scaledZ (augQ qa qb i)) (12 * s + 1) (by omega) (fun q x hq hx => by
          have hl : (augQ qa qb q).length = i + 1 := by unfold augQ; rw [List.length_append, (HR.out q hq).2]; rfl
          have := scaledZ_len (HSZ.out q hq) (n := 11) (by omega) x (by omega)
          omega) (i + 1) (Nat.le_refl _)).1 q x hq hx
        have h2 : 2 ^ (runP i (fun i => scaledZ (augQ qa qb i)) (i + 1)).steps.length ≤ 2 ^ 10 := Nat.pow_le_pow_right (by omega) (Nat.le_trans (runP_len i _ _) (by omega))
        have h3 := Nat.mul_le_mul_left (12 * s + 1 + 1) h2
        unfold sysP
        omega
      have hPd : runP i (fun i => scaledZ (augQ qa qb i)) (i + 1) = sysP i qa qb := rfl
      have hlenP : (sysP i qa qb).steps.length ≤ i := runP_len i _ _
      rw [hPd] at HEL
      generalize sysP i qa qb = P at *
      clear hPd
      clear hI hT
      go_wp2_with fail
      refine HEL.out.mono ?_
      rintro e w2 ⟨sv, rfl, hSt, hT2, hB2⟩
      have htc2 := (Below.cell hB2 (p := ⟨tb, 0, none⟩) (by show tb < tb + 1; omega)).trans htc
      have E2 : Ext w w2 := Below.trans hE0 (hB2.mono (by have := HTB.out; omega))
      have hB2s := hB2.size
      have hlen : P.steps.length ≤ i := hlenP
      obtain ⟨As, cs, hsv⟩ := hSt.slice
      subst hsv
      have HT2 := Lib.hid hT2
      by_cases h1 : P.steps.length < i
      · have h1' : (P.steps.length : Int) < (i : Int) := by omega
        have HNO : Hid (NoOne i P) := .inl h1
        have HE2 := Lib.hid E2
        clear hSt hT2 hB2
        go_wp2
        go_ret2
        exact ⟨.inl ⟨HNO.out, rfl⟩, HE2.out⟩
      · have h1' : ¬ (P.steps.length : Int) < (i : Int) := by omega
        have hle : P.steps.length = i := by omega
        obtain ⟨gs, cc, hsl, _, _, _, hcs, _⟩ := Lst.cell hSt (by omega)
        cases hsl
        have hst : w2.cell? ⟨gs, i - 1, none⟩ = some (.int .i64 ((P.steps.getD (i - 1) 0 : Nat) : Int)) := by
          refine hcs _ _ ?_
          rw [List.getElem?_map, List.getElem?_eq_getElem (by omega), List.getD_eq_getElem?_getD, List.getElem?_eq_getElem (by omega)]
          rfl
        have hi1 : ((i : Int) - 1) = ((i - 1 : Nat) : Int) := by omega
        by_cases h2 : P.steps.getD (i - 1) 0 = i - 1
        · have HNO : Hid (¬ NoOne i P) := fun h => h.elim h1 (fun h => h h2)
          have HDI := Lib.hid (HDG.out HNO.out)
          have hne : (((P.steps.getD (i - 1) 0 : Nat) : Int) != ((i - 1 : Nat) : Int)) = false := by rw [h2]; exact bne_self_eq_false _
          have HE2 := Lib.hid E2
          have hmk := make_rats 83 Tryz.underlying83 i (by omega) w2
          have Ea : Ext w2 (w2.alloc (.cells (ratCells (List.replicate i (false, .slice none 0 0, .slice none 0 0))).toArray 111)) := Ext.alloc _ _
          have HX0 := Lib.hid (RRow.fresh w2 i 111 (fun _ => 0))
          have HEa := Lib.hid Ea
          generalize P.steps.getD (i - 1) 0 = st at *
          generalize hpl : P.steps.length = pl at *
          subst hle
          generalize hi0 : pl - 1 = p1 at *
          have hp1 : pl = p1 + 1 := by omega
          have HT20 := Lib.hid hT2
          clear hSt hT2 hB2 h2 hi0 hi1 Ea E2 HDG HEL hpl h1 h1' hlen hlenP
          subst hp1
          rw [show ((p1 + 1 : Nat) : Int) = (p1 : Int) + 1 from rfl] at hmk
          have HTC2 := Lib.hid htc2
          have HGL : Hid (g < w2.heap.size ∧ tb < w2.heap.size) := ⟨Nat.lt_of_lt_of_le hg2 hB2s, World.block_lt_of_cell? w2 _ htc2⟩
          go_wp2_with fail
          generalize w2.alloc (.cells (ratCells (List.replicate (p1 + 1) (false, .slice none 0 0, .slice none 0 0))).toArray 111) = W3 at *
          generalize hxb : w2.heap.size = xb at *
          have HXB := Lib.hid hxb
          clear hmk hxb htc2 hst hcs
          obtain ⟨LE, hLE⟩ : ∃ LE, LE = (12 * s + 2) * 1024 := ⟨_, rfl⟩
          have HLE := Lib.hid hLE
          rw [← hLE] at HSZE ⊢
          clear hLE
          go_loopw [12] (fun t wr => ∃ (k : Nat) (x : Nat → Rat), t = .int .i64 ((k : Int) - 1) ∧ k ≤ p1 + 1 ∧ RRow wr xb (p1 + 1) (fun j => k ≤ j) x ∧ (∀ j, k ≤ j → j < p1 + 1 → Sz (x j) (XB LE (p1 - j))) ∧ (∀ j, k ≤ j → j < p1 + 1 → x j = ((P.E j (p1 + 1) : Rat) - rsum (p1 - j) (fun t => (P.E j (j + 1 + t) : Rat) * x (j + 1 + t))) / (P.E j j : Rat)) ∧ Ext w2 wr) (fun t _ => downTo t)
          case atStart =>
            refine ⟨p1 + 1, fun _ => 0, by simp, Nat.le_refl _, ?_, fun j h1 h2 => by omega, fun j h1 h2 => by omega, HEa.out⟩
            obtain ⟨vs', k1, k2, k3, _⟩ := HX0.out
            exact ⟨vs', k1, k2, k3, fun j q hq hj => by
              have := (List.getElem?_eq_some_iff.1 hq).1
              have hj' : p1 + 1 ≤ j := hj
              omega⟩
          case round =>
            obtain ⟨w5, hw5⟩ : ∃ w5, w5 = wr := ⟨_, rfl⟩
            subst hw5
            obtain ⟨k, x, rfl, hk, hX, hXs, hXr, hE5⟩ := hrel
            have ht5 := hE5.cell HTC2.out
            rcases k with _ | k
            · have HXX := Lib.hid hX
              have HXS := Lib.hid hXs
              have HXR := Lib.hid hXr
              have HEE5 := Lib.hid hE5
              clear hX hXs hXr hE5
              go_wp2_with fail
              go_ret2
              refine ⟨.inr ⟨HNO.out, xb, x, rfl, ?_, fun j hj => ?_, fun j hj => ?_⟩, Ext.trans _ _ _ HE2.out HEE5.out⟩
              · obtain ⟨vs', k1, k2, k3, k4⟩ := HXX.out
                exact ⟨vs', k1, k2, k3, fun j q hq _ => k4 j q hq (Nat.zero_le _)⟩
              · rw [Nat.add_sub_cancel, ← HLE.out]; exact HXS.out j (Nat.zero_le _) hj
              · rw [Nat.add_sub_cancel]; exact HXR.out j (Nat.zero_le _) hj
            · have hT5 := HT20.out.ext hE5
              have hkp : k < p1 + 1 := by omega
              have sk := hT5.sl k hkp
              rw [Nat.zero_add] at sk
              obtain ⟨ep, em, e1, e2, e3, _, _⟩ := (hT5.row k hkp).get (j := p1 + 1) (by omega)
              obtain ⟨A7, c7, hem, _⟩ := IsNum.isMass e3
              subst hem
              have HFR := Lib.hid (fraction_any _ _ w5 e3)
              have hpc : k < p1 + 1 + c := by omega
              have HXX := Lib.hid hX
              have HXS := Lib.hid hXs
              have HXR := Lib.hid hXr
              have HEE5 := Lib.hid hE5
              have HT5 := Lib.hid hT5
              generalize (mass (P.E k (p1 + 1)).natAbs).length = l7 at *
              have hk1 : ((k + 1 : Nat) : Int) - 1 = (k : Int) := by omega
              clear hX hXs hXr hE5 hT5 e3
              rw [hk1]
              clear hk1
              go_wp2_with fail
              refine HFR.out.mono ?_
              rintro e w6 ⟨vS, rfl, hvS, hE6⟩
              have HVS := Lib.hid hvS
              obtain ⟨mS, dS, rfl, hmS, hdS⟩ := hvS
              obtain ⟨A8, c8, rfl, _⟩ := hmS
              obtain ⟨A9, c9, rfl, _⟩ := hdS
              generalize (mass (P.E k (p1 + 1) : Rat).num.natAbs).length = l8 at *
              generalize (mass (P.E k (p1 + 1) : Rat).den).length = l9 at *
              generalize decide ((P.E k (p1 + 1) : Rat).num < 0) = p8 at *
              have Es : Ext w6 (w6.alloc (.cells #[.bool p8, .slice A8 l8 c8, .slice A9 l9 c9] 111)) := Ext.alloc _ _
              have HSB : Hid (RRow (w6.alloc (.cells #[.bool p8, .slice A8 l8 c8, .slice A9 l9 c9] 111)) w6.heap.size 1 (fun _ => True) (fun _ => (P.E k (p1 + 1) : Rat))) := ⟨[(p8, .slice A8 l8 c8, .slice A9 l9 c9)], Blk.new w6 _ _, rfl, (fun j q hq => by
                match j, hq with
                | 0, hq => cases hq; exact ⟨notInt_slice _ _ _, notInt_slice _ _ _⟩), fun j q hq _ => by
                match j, hq with
                | 0, hq => cases hq; exact IsRat.mono HVS.out Es⟩
              have HX7 := Lib.hid (HXX.out.ext (Ext.trans _ _ _ hE6 Es))
              have HE7 := Lib.hid (Ext.trans _ _ _ HEE5.out (Ext.trans _ _ _ hE6 Es))
              have HSBX : Hid (xb < w6.heap.size) := Nat.lt_of_lt_of_le HXX.out.lt hE6.size
              have ht7 := HE7.out.cell HTC2.out
              clear hE6 Es
              go_wp2_with fail
              generalize w6.alloc (.cells #[.bool p8, .slice A8 l8 c8, .slice A9 l9 c9] 111) = W7 at *
              generalize w6.heap.size = sb at *
              go_loopw [14] (fun t wr => ∃ j : Nat, t = .int .i64 (j : Int) ∧ k + 1 ≤ j ∧ j ≤ p1 + 1 ∧ RRow wr sb 1 (fun _ => True) (fun _ => (P.E k (p1 + 1) : Rat) - rsum (j - (k + 1)) (fun t => (P.E k (k + 1 + t) : Rat) * x (k + 1 + t))) ∧ RRow wr xb (p1 + 1) (fun j => k + 1 ≤ j) x ∧ (∃ b, Sz ((P.E k (p1 + 1) : Rat) - rsum (j - (k + 1)) (fun t => (P.E k (k + 1 + t) : Rat) * x (k + 1 + t))) b ∧ b + 3 * 2 ^ (p1 + 1 - j) * (LE + 1) ≤ LE + 3 * 2 ^ (p1 - k) * (LE + 1)) ∧ Ext w2 wr) (fun t _ => upTo (p1 + 1) t)
              case atStart =>
                have e0 : (P.E k (p1 + 1) : Rat) - rsum (k + 1 - (k + 1)) (fun t => (P.E k (k + 1 + t) : Rat) * x (k + 1 + t)) = (P.E k (p1 + 1) : Rat) := by
                  rw [Nat.sub_self]
                  show (P.E k (p1 + 1) : Rat) - 0 = _
                  grind
                refine ⟨k + 1, rfl, Nat.le_refl _, hkp, ?_, HX7.out, ?_, HE7.out⟩
                · rw [e0]; exact HSB.out
                · rw [e0]
                  refine ⟨LE, sz_int (HSZE.out k (p1 + 1) hkp (by omega)) (by rw [HLE.out]; omega), ?_⟩
                  rw [show p1 + 1 - (k + 1) = p1 - k by omega]
                  omega
              case round =>
                obtain ⟨w8, hw8⟩ : ∃ w8, w8 = wr := ⟨_, rfl⟩
                subst hw8
                obtain ⟨j, rfl, hj1, hj2, hS8, hX8, hSz8, hE8⟩ := hrel
                have HT8 := Lib.hid (HT20.out.ext hE8)
                have sk8 := HT8.out.sl k hkp
                rw [Nat.zero_add] at sk8
                have ht8 := hE8.cell HTC2.out
                obtain ⟨q0, qm, qd, s1, s2, s3, _, _, s4, _⟩ := hS8.cells (j := 0) (by omega)
                rw [Nat.zero_mul] at s1 s2 s3
                rw [Nat.zero_add] at s2 s3
                have s4 := s4 trivial
                obtain ⟨b8, hb8, hb8'⟩ := hSz8
                obtain ⟨hq0, hqm, hqd⟩ := s4.parts
                clear hq0
                by_cases hjl : j < p1 + 1
                · obtain ⟨ep, em, e1, e2, e3, _, _⟩ := (HT8.out.row k hkp).get (j := j) (by omega)
                  obtain ⟨xp, xm, xd, x1, x2, x3, _, _, x4, _⟩ := hX8.cells hjl
                  have x4 := x4 hj1
                  have hpw1 : 2 ^ (p1 - k) ≤ 512 := Nat.le_trans (Nat.pow_le_pow_right (by omega) (by omega : p1 - k ≤ 9)) (by decide)
                  have hpw2 : 2 ^ (p1 - j) ≤ 512 := Nat.le_trans (Nat.pow_le_pow_right (by omega) (by omega : p1 - j ≤ 9)) (by decide)
                  have hLEb : LE ≤ 1228802048 := by rw [HLE.out]; omega
                  have hxs := HXS.out j hj1 hjl
                  have hXBj : XB LE (p1 - j) + (LE + 1) = 3 * 2 ^ (p1 - j) * (LE + 1) := by
                    unfold XB
                    have h1 : 1 ≤ 2 ^ (p1 - j) := Nat.pow_pos (by decide)
                    generalize 2 ^ (p1 - j) = q at *
                    obtain ⟨q', rfl⟩ : ∃ q', q = q' + 1 := ⟨q - 1, by omega⟩
                    rw [show 3 * (q' + 1) - 1 = 3 * q' + 2 by omega, show 3 * (q' + 1) = 3 * q' + 2 + 1 by omega, Nat.add_mul (3 * q' + 2) 1]
                    omega
                  have hXBb : XB LE (p1 - j) ≤ 1887439948800 := by
                    have h1 : 3 * 2 ^ (p1 - j) * (LE + 1) ≤ 1536 * (1228802049) := Nat.mul_le_mul (by omega) (by omega)
                    omega
                  have hbb : b8 ≤ 1887439948800 + 1228802048 := by
                    have h1 : 3 * 2 ^ (p1 - k) * (LE + 1) ≤ 1536 * (1228802049) := Nat.mul_le_mul (by omega) (by omega)
                    omega
                  have hEs : Sz (P.E k j : Rat) LE := sz_int (HSZE.out k j hkp (by omega)) (by rw [HLE.out]; omega)
                  obtain ⟨S, hS⟩ : ∃ S, S = (P.E k (p1 + 1) : Rat) - rsum (j - (k + 1)) (fun t => (P.E k (k + 1 + t) : Rat) * x (k + 1 + t)) := ⟨_, rfl⟩
                  rw [← hS] at hb8 hqm hqd s4
                  have HFR8 : Hid (∀ u, Ext w8 u → Calls Tryz.prog 127 #[.agg #[.bool ep, em]] u (Ret (.rat (P.E k j : Rat)) u)) := fun u hE => fraction_any _ _ u (IsNum.mono e3 hE)
                  have HTM8 : Hid (∀ (v : Value) (u : World), Ext w8 u → IsRat u v (P.E k j : Rat) → Calls Tryz.prog 97 #[v, .agg #[.bool xp, xm, xd]] u (Ret (.rat ((P.E k j : Rat) * x j)) u)) := fun v u hE h => rtimes_any _ _ _ _ u h (x4.mono hE) hEs hxs (by omega)
                  have HMI8 : Hid (∀ (v : Value) (u : World), Ext w8 u → IsRat u v ((P.E k j : Rat) * x j) → Calls Tryz.prog 80 #[.agg #[.bool q0, qm, qd], v] u (Ret (.rat (S - (P.E k j : Rat) * x j)) u)) := fun v u hE h => rminus_any _ _ _ _ u (s4.mono hE) h hb8 (hEs.mul hxs) (by omega)
                  have hnext : S - (P.E k j : Rat) * x j = (P.E k (p1 + 1) : Rat) - rsum (j + 1 - (k + 1)) (fun t => (P.E k (k + 1 + t) : Rat) * x (k + 1 + t)) := by
                    rw [hS, show j + 1 - (k + 1) = (j - (k + 1)) + 1 by omega]
                    show _ = (P.E k (p1 + 1) : Rat) - (rsum (j - (k + 1)) (fun t => (P.E k (k + 1 + t) : Rat) * x (k + 1 + t)) + (P.E k (k + 1 + (j - (k + 1))) : Rat) * x (k + 1 + (j - (k + 1))))
                    rw [show k + 1 + (j - (k + 1)) = j by omega]
                    grind
                  have hSzn : ∃ b, Sz (S - (P.E k j : Rat) * x j) b ∧ b + 3 * 2 ^ (p1 + 1 - (j + 1)) * (LE + 1) ≤ LE + 3 * 2 ^ (p1 - k) * (LE + 1) := by
                    refine ⟨b8 + (LE + XB LE (p1 - j)) + 1, ?_, ?_⟩
                    · rw [Rat.sub_eq_add_neg]
                      exact hb8.add (hEs.mul hxs).neg
                    · rw [show p1 + 1 - (j + 1) = p1 - j by omega]
                      rw [show p1 + 1 - j = (p1 - j) + 1 by omega, Nat.pow_succ] at hb8'
                      have h3 : 3 * (2 ^ (p1 - j) * 2) * (LE + 1) = 3 * 2 ^ (p1 - j) * (LE + 1) + 3 * 2 ^ (p1 - j) * (LE + 1) := by
                        generalize 2 ^ (p1 - j) = q
                        rw [show 3 * (q * 2) = 3 * q + 3 * q by omega, Nat.add_mul]
                      rw [h3] at hb8'
                      omega
                  have HSZN := Lib.hid hSzn
                  have HNEXT := Lib.hid hnext
                  have HSD := Lib.hid hS
                  have HS8 := Lib.hid hS8
                  have HX8 := Lib.hid hX8
                  have HE8 := Lib.hid hE8
                  have hsbl : sb < w8.heap.size := hS8.lt
                  have hki : (k : Int) < (p1 : Int) + 1 := by omega
                  have hji : (j : Int) < (p1 : Int) + 1 := by omega
                  have hji2 : (j : Int) < (p1 : Int) + 1 + 1 := by omega
                  have HCE : Hid (∀ u, Ext w8 u → u.cell? ⟨tb, 0, none⟩ = some (.slice (some ⟨g, 0, none⟩) (p1 + 1) (p1 + 1 + c)) ∧ u.cell? ⟨g, k, none⟩ = some (.slice (some ⟨rb k, 0, none⟩) (p1 + 1 + 1) (p1 + 1 + 1)) ∧ u.cell? ⟨rb k, j * 2, none⟩ = some (.bool ep) ∧ u.cell? ⟨rb k, j * 2 + 1, none⟩ = some em ∧ u.cell? ⟨sb, 0, none⟩ = some (.bool q0) ∧ u.cell? ⟨sb, 1, none⟩ = some qm ∧ u.cell? ⟨sb, 2, none⟩ = some qd ∧ u.cell? ⟨xb, j * 3, none⟩ = some (.bool xp) ∧ u.cell? ⟨xb, j * 3 + 1, none⟩ = some xm ∧ u.cell? ⟨xb, j * 3 + 2, none⟩ = some xd) := fun u hE => ⟨hE.cell ht8, hE.cell sk8, hE.cell e1, hE.cell e2, hE.cell s1, hE.cell s2, hE.cell s3, hE.cell x1, hE.cell x2, hE.cell x3⟩
                  clear hSzn hnext hS hS8 hX8 hE8 ht8 sk8 e1 e2 e3 s1 s2 s3 s4 x1 x2 x3 x4 hb8 hb8' hxs hEs hpw1 hpw2 hLEb hXBj hXBb hbb hqm hqd
                  go_wp2_with fail
                  refine ro_region 16 [none, none, none, none, none, none, none, none, none, some (.rat (P.E k j : Rat)), none, none, none, none, some (.rat ((P.E k j : Rat) * x j)), some (.rat (S - (P.E k j : Rat) * x j))] (by kernel_rfl) (by kernel_rfl) ?_
                  go_simp
                  repeat (apply ro_quiet rfl; (intro u hE _; have hX := HCE.out u (Ext.trans _ _ _ (Ext.drew _) hE); go_simp; exact rfl); go_simp)
                  apply ro_call rfl (fun w => by go_simp; exact ⟨rfl, rfl⟩)
                  · intro u hE hd
                    exact HFR8.out u (Ext.trans _ _ _ (Ext.drew _) hE)
                  intro v88
                  go_simp
                  repeat (apply ro_quiet rfl; (intro u hE _; have hX := HCE.out u (Ext.trans _ _ _ (Ext.drew _) hE); go_simp; exact rfl); go_simp)
                  apply ro_call rfl (fun w => by go_simp; exact ⟨rfl, rfl⟩)
                  · intro u hE hd
                    simp [depsHold, Region.binds] at hd
                    exact HTM8.out v88 u (Ext.trans _ _ _ (Ext.drew _) hE) hd
                  intro v93
                  go_simp
                  apply ro_call rfl (fun w => by go_simp; exact ⟨rfl, rfl⟩)
                  · intro u hE hd
                    simp [depsHold, Region.binds] at hd
                    exact HMI8.out v93 u (Ext.trans _ _ _ (Ext.drew _) hE) hd
                  intro v94
                  go_simp
                  refine ro_done (fun u hE hf => ?_)
                  simp [-List.cons_append] at hf
                  obtain ⟨_, _, hv⟩ := hf
                  have EU : Ext w8 u := Ext.trans _ _ _ (Ext.drew _) hE
                  have HV := Lib.hid hv
                  obtain ⟨m9, d9, rfl, hm9, hd9⟩ := hv
                  have hSu := HS8.out.ext EU
                  obtain ⟨z0, z1, z2, y1, y2, y3, _, _, _, f1, f2, f3⟩ := hSu.cells (j := 0) (by omega)
                  rw [Nat.zero_mul] at y1 y2 y3 f1 f2 f3
                  rw [Nat.zero_add] at y2 y3 f2 f3
                  have hset := hSu.set (j := 0) (by omega) HV.out
                  have HSET : Hid (RRow (((u.setCell ⟨sb, 0, none⟩ (.bool (decide ((S - (P.E k j : Rat) * x j).num < 0)))).setCell ⟨sb, 1, none⟩ m9).setCell ⟨sb, 2, none⟩ d9) sb 1 (fun _ => True) (fun _ => S - (P.E k j : Rat) * x j) ∧ Keep u (((u.setCell ⟨sb, 0, none⟩ (.bool (decide ((S - (P.E k j : Rat) * x j).num < 0)))).setCell ⟨sb, 1, none⟩ m9).setCell ⟨sb, 2, none⟩ d9)) := by
                    refine ⟨?_, hset.2⟩
                    obtain ⟨vs', k1, k2, k3, k4⟩ := hset.1
                    refine ⟨vs', k1, k2, k3, fun j' q hq _ => ?_⟩
                    have hj0 : j' = 0 := by have := (List.getElem?_eq_some_iff.1 hq).1; omega
                    subst hj0
                    have := k4 0 q hq (.inl rfl)
                    simpa using this
                  have HXU : Hid (RRow (((u.setCell ⟨sb, 0, none⟩ (.bool (decide ((S - (P.E k j : Rat) * x j).num < 0)))).setCell ⟨sb, 1, none⟩ m9).setCell ⟨sb, 2, none⟩ d9) xb (p1 + 1) (fun j => k + 1 ≤ j) x) := by
                    refine (HX8.out.ext EU).keep ?_ HSET.out.2
                    have hne : xb ≠ sb := by have := HSBX.out; omega
                    rw [Below.heap_setCell _ _ _ _ hne, Below.heap_setCell _ _ _ _ hne, Below.heap_setCell _ _ _ _ hne]
                  have hw2 : w2.heap.size ≤ sb := by have := HSBX.out; have := HXB.out; omega
                  have HEU := Lib.hid ((((Ext.trans _ _ _ HE8.out EU).set (p := ⟨sb, 0, none⟩) hw2 (.bool (decide ((S - (P.E k j : Rat) * x j).num < 0)))).set (p := ⟨sb, 1, none⟩) hw2 m9).set (p := ⟨sb, 2, none⟩) hw2 d9)
                  obtain ⟨A5, c5, rfl, _⟩ := hm9
                  obtain ⟨A6, c6, rfl, _⟩ := hd9
                  generalize (mass (S - (P.E k j : Rat) * x j).num.natAbs).length = l5 at *
                  generalize (mass (S - (P.E k j : Rat) * x j).den).length = l6 at *
                  generalize decide ((S - (P.E k j : Rat) * x j).num < 0) = p5 at *
                  clear hset hSu EU hE HFR8 HTM8 HMI8 HCE
                  simp only [List.drop_succ_cons, List.drop_zero]
                  go_wp2_with fail
                  go_roundw
                  case rel =>
                    refine ⟨j + 1, rfl, by omega, hjl, ?_, HXU.out, ?_, HEU.out⟩
                    · rw [← HNEXT.out]; exact HSET.out.1
                    · rw [← HNEXT.out]; exact HSZN.out
                  case measure => exact upTo_lt hjl
                · have hjn : j = p1 + 1 := by omega
                  subst hjn
                  obtain ⟨ep, em, e1, e2, e3, _, _⟩ := (HT8.out.row k hkp).get (j := k) (by omega)
                  obtain ⟨xp, xm, xd, x1, x2, x3, _, _, _, f1, f2, f3⟩ := hX8.cells hkp
                  have hpw1 : 2 ^ (p1 - k) ≤ 512 := Nat.le_trans (Nat.pow_le_pow_right (by omega) (by omega : p1 - k ≤ 9)) (by decide)
                  have hLEb : LE ≤ 1228802048 := by rw [HLE.out]; omega
                  have hbb : b8 ≤ 1887439948800 + 1228802048 := by
                    have h1 : 3 * 2 ^ (p1 - k) * (LE + 1) ≤ 1536 * (1228802049) := Nat.mul_le_mul (by omega) (by omega)
                    omega
                  have hEs : Sz (P.E k k : Rat) LE := sz_int (HSZE.out k k hkp (by omega)) (by rw [HLE.out]; omega)
                  obtain ⟨S, hS⟩ : ∃ S, S = (P.E k (p1 + 1) : Rat) - rsum (p1 + 1 - (k + 1)) (fun t => (P.E k (k + 1 + t) : Rat) * x (k + 1 + t)) := ⟨_, rfl⟩
                  rw [← hS] at hb8 hqm hqd s4
                  have hE0 : (P.E k k : Rat) ≠ 0 := fun e => HDI.out k hkp (by exact_mod_cast e)
                  have HFR8 : Hid (∀ u, Ext w8 u → Calls Tryz.prog 127 #[.agg #[.bool ep, em]] u (Ret (.rat (P.E k k : Rat)) u)) := fun u hE => fraction_any _ _ u (IsNum.mono e3 hE)
                  have HOV8 : Hid (∀ (v : Value) (u : World), Ext w8 u → IsRat u v (P.E k k : Rat) → Calls Tryz.prog 128 #[.agg #[.bool q0, qm, qd], v] u (Ret (.rat (S / (P.E k k : Rat))) u)) := fun v u hE h => rover_any _ _ _ _ u (s4.mono hE) h hE0 hb8 hEs (by omega)
                  have HSQ : Hid (Sz (S / (P.E k k : Rat)) (XB LE (p1 - k))) := by
                    rw [Rat.div_def]
                    refine (hb8.mul (hEs.inv hE0)).mono ?_
                    rw [show p1 + 1 - (p1 + 1) = 0 by omega] at hb8'
                    unfold XB
                    have h1 : 1 ≤ 2 ^ (p1 - k) := Nat.pow_pos (by decide)
                    generalize 2 ^ (p1 - k) = q at *
                    obtain ⟨q', rfl⟩ : ∃ q', q = q' + 1 := ⟨q - 1, by omega⟩
                    rw [show 3 * (q' + 1) - 1 = 3 * q' + 2 by omega]
                    rw [show 3 * (q' + 1) = 3 * q' + 2 + 1 by omega, Nat.add_mul (3 * q' + 2) 1] at hb8'
                    omega
                  have HSD := Lib.hid hS
                  have HX8 := Lib.hid hX8
                  have HE8 := Lib.hid hE8
                  have hki : (k : Int) < (p1 : Int) + 1 := by omega
                  have hki2 : (k : Int) < (p1 : Int) + 1 + 1 := by omega
                  have HCE : Hid (∀ u, Ext w8 u → u.cell? ⟨tb, 0, none⟩ = some (.slice (some ⟨g, 0, none⟩) (p1 + 1) (p1 + 1 + c)) ∧ u.cell? ⟨g, k, none⟩ = some (.slice (some ⟨rb k, 0, none⟩) (p1 + 1 + 1) (p1 + 1 + 1)) ∧ u.cell? ⟨rb k, k * 2, none⟩ = some (.bool ep) ∧ u.cell? ⟨rb k, k * 2 + 1, none⟩ = some em ∧ u.cell? ⟨sb, 0, none⟩ = some (.bool q0) ∧ u.cell? ⟨sb, 1, none⟩ = some qm ∧ u.cell? ⟨sb, 2, none⟩ = some qd) := fun u hE => ⟨hE.cell ht8, hE.cell sk8, hE.cell e1, hE.cell e2, hE.cell s1, hE.cell s2, hE.cell s3⟩
                  clear hS hS8 hX8 hE8 ht8 sk8 e1 e2 e3 s1 s2 s3 s4 x1 x2 x3 f1 f2 f3 hb8 hb8' hEs hpw1 hLEb hbb hqm hqd hE0
                  go_wp2_with fail
                  refine ro_region 13 [none, none, none, none, none, none, none, none, none, none, none, some (.rat (P.E k k : Rat)), some (.rat (S / (P.E k k : Rat)))] (by kernel_rfl) (by kernel_rfl) ?_
                  go_simp
                  repeat (apply ro_quiet rfl; (intro u hE _; have hX := HCE.out u (Ext.trans _ _ _ (Ext.drew _) hE); go_simp; exact rfl); go_simp)
                  apply ro_call rfl (fun w => by go_simp; exact ⟨rfl, rfl⟩)
                  · intro u hE hd
                    exact HFR8.out u (Ext.trans _ _ _ (Ext.drew _) hE)
                  intro v106
                  go_simp
                  apply ro_call rfl (fun w => by go_simp; exact ⟨rfl, rfl⟩)
                  · intro u hE hd
                    simp [depsHold, Region.binds] at hd
                    exact HOV8.out v106 u (Ext.trans _ _ _ (Ext.drew _) hE) hd
                  intro v107
                  go_simp
                  refine ro_done (fun u hE hf => ?_)
                  simp [-List.cons_append] at hf
                  obtain ⟨_, hv⟩ := hf
                  have EU : Ext w8 u := Ext.trans _ _ _ (Ext.drew _) hE
                  have HV := Lib.hid hv
                  obtain ⟨m9, d9, rfl, hm9, hd9⟩ := hv
                  have hXu := HX8.out.ext EU
                  obtain ⟨z0, z1, z2, y1, y2, y3, _, _, _, f1, f2, f3⟩ := hXu.cells hkp
                  have HSET := Lib.hid (hXu.set hkp HV.out).1
                  have hw2 : w2.heap.size ≤ xb := Nat.le_of_eq HXB.out
                  have HEU := Lib.hid ((((Ext.trans _ _ _ HE8.out EU).set (p := ⟨xb, k * 3, none⟩) hw2 (.bool (decide ((S / (P.E k k : Rat)).num < 0)))).set (p := ⟨xb, k * 3 + 1, none⟩) hw2 m9).set (p := ⟨xb, k * 3 + 2, none⟩) hw2 d9)
                  obtain ⟨A5, c5, rfl, _⟩ := hm9
                  obtain ⟨A6, c6, rfl, _⟩ := hd9
                  generalize (mass (S / (P.E k k : Rat)).num.natAbs).length = l5 at *
                  generalize (mass (S / (P.E k k : Rat)).den).length = l6 at *
                  generalize decide ((S / (P.E k k : Rat)).num < 0) = p5 at *
                  clear hXu EU hE HFR8 HOV8 HCE
                  simp only [List.drop_succ_cons, List.drop_zero]
                  go_wp2_with fail
                  go_roundw
                  case rel =>
                    refine ⟨k, fun c => if c = k then S / (P.E k k : Rat) else x c, rfl, by omega, ?_, fun j h1 h2 => ?_, fun j h1 h2 => ?_, HEU.out⟩
                    · obtain ⟨vs', k1, k2, k3, k4⟩ := HSET.out
                      refine ⟨vs', k1, k2, k3, fun j q hq hj => k4 j q hq ?_⟩
                      have hj' : k ≤ j := hj
                      show j = k ∨ k + 1 ≤ j
                      omega
                    · by_cases e : j = k
                      · subst e
                        simp only [if_pos rfl]
                        exact HSQ.out
                      · simp only [if_neg e]
                        exact HXS.out j (by omega) h2
                    · by_cases e : j = k
                      · subst e
                        have e9 : ∀ v : Rat, (fun t => (P.E j (j + 1 + t) : Rat) * (if j + 1 + t = j then v else x (j + 1 + t))) = fun t => (P.E j (j + 1 + t) : Rat) * x (j + 1 + t) := fun v => by
                          funext t
                          rw [if_neg (by omega)]
                        show (if j = j then S / (P.E j j : Rat) else x j) = _
                        rw [if_pos rfl, e9, HSD.out, show p1 + 1 - (j + 1) = p1 - j by omega]
                      · have e9 : ∀ v : Rat, (fun t => (P.E j (j + 1 + t) : Rat) * (if j + 1 + t = k then v else x (j + 1 + t))) = fun t => (P.E j (j + 1 + t) : Rat) * x (j + 1 + t) := fun v => by
                          funext t
                          rw [if_neg (by omega)]
                        show (if j = k then S / (P.E k k : Rat) else x j) = _
                        rw [if_neg e, e9]
                        exact HXR.out j (by omega) h2
                  case measure => show (((k : Int) - 1) + 1).toNat < ((k : Int) + 1).toNat; omega
        · have HNO : Hid (NoOne i P) := .inr h2
          have hne : (((P.steps.getD (i - 1) 0 : Nat) : Int) != ((i - 1 : Nat) : Int)) = true := bne_iff_ne.2 (by omega)
          have HE2 := Lib.hid E2
          generalize P.steps.getD (i - 1) 0 = st at *
          generalize P.steps.length = pl at *
          subst hle
          generalize hi0 : pl - 1 = p1 at *
          have hp1 : pl = p1 + 1 := by omega
          clear hSt hT2 hB2 h2 hi0 hi1
          go_wp2_with fail
          go_ret2
          exact ⟨.inl ⟨HNO.out, rfl⟩, HE2.out⟩
end Go.Proofs.Xx
end
