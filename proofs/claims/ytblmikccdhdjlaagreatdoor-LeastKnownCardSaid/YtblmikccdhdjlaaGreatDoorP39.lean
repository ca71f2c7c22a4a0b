/- A part of the proof: the texts XSpec, XFr, W60, W61, W62, XRVar. -/
import Derived.Test.YtblmikccdhdjlaaGreatDoorP38
set_option linter.unusedVariables false
set_option linter.unusedSimpArgs false
section
namespace Go.Proofs.Xx
open Go.RowKit Go.V Go.Grow Lin Go.Txt

/-- A ratio's two texts. -/
def txtFr (q : Rat) : Fr := (txtB q.num, txtB (q.den : Int))
/-- Both parts have at most 600 digits. -/
def ShortQ (q : Rat) : Prop := Short q.num.natAbs ∧ Short q.den
instance (q : Rat) : Decidable (ShortQ q) := by unfold ShortQ; infer_instance
theorem okFr_iff (x : Fr) : okFr x = true ↔ x = txtFr (frQ x) ∧ ShortQ (frQ x) := by
  constructor
  · intro h
    obtain ⟨h1, h2, h3⟩ := okFr_txt h
    exact ⟨h1, h2, h3⟩
  · rintro ⟨h1, h2, h3⟩
    unfold okFr
    refine decide_eq_true ((okF_iff _ _).2 ⟨frQ x, ?_, ?_, h2, h3⟩)
    · have := congrArg (fun p : Fr => p.1.data.toList) h1
      exact this.trans (by simp [txtFr, txtB])
    · have := congrArg (fun p : Fr => p.2.data.toList) h1
      exact this.trans (by simp [txtFr, txtB])
theorem frQ_txt (q : Rat) : frQ (txtFr q) = q := by
  unfold frQ txtFr
  have e : ∀ z : Int, (txtB z).data.toList = Lib.itoa z := fun z => by simp [txtB]
  show ratF (txtB q.num).data.toList (txtB (q.den : Int)).data.toList = q
  rw [e, e]
  exact ratF_itoa q
theorem okFr_txtFr (q : Rat) : okFr (txtFr q) = true ↔ ShortQ q := by
  rw [okFr_iff, frQ_txt]
  exact ⟨fun h => h.2, fun h => ⟨rfl, h⟩⟩
theorem txtFr_inj {p q : Rat} (h : txtFr p = txtFr q) : p = q := by
  rw [← frQ_txt p, h, frQ_txt]
theorem txtQ_fr (q : Rat) : txtQ q = .agg #[.string (txtFr q).1, .string (txtFr q).2] := rfl
theorem decDigits_lt (n : Nat) : n < 10 ^ (Lib.decDigits n).length := by
  induction n using Nat.strongRecOn with
  | ind n ih =>
    by_cases h : 10 ≤ n
    · rw [decDigits_length_succ h, Nat.pow_succ]
      have := ih (n / 10) (by omega)
      omega
    · have h1 : 0 < (Lib.decDigits n).length := decDigits_length_pos n
      have h2 : 10 ^ 1 ≤ 10 ^ (Lib.decDigits n).length := Nat.pow_le_pow_right (by decide) h1
      omega
theorem short_mass34 {n : Nat} (h : Short n) : (mass n).length ≤ 34 := by
  apply Dig.digs_len_le G_two
  have hp : ∀ m k : Nat, k ≤ 18 * m → 10 ^ k ≤ (10 ^ 18) ^ m := fun m k h => by
    rw [← Nat.pow_mul]
    exact Nat.pow_le_pow_right (by decide) h
  have h3 : G = 10 ^ 18 := by unfold G; decide
  rw [h3]
  exact Nat.lt_of_lt_of_le (decDigits_lt n) (hp 34 _ (Nat.le_trans h (by decide)))
theorem okFr_sz34 {x : Fr} (h : okFr x = true) : Sz (frQ x) 34 := ⟨short_mass34 (okFr_txt h).2.1, short_mass34 (okFr_txt h).2.2⟩
/-- What told answers: the list, and the error. -/
def toldC (qs : List Rat) : List Fr × Int := if qs.all (fun q => decide (ShortQ q)) then (qs.map txtFr, 0) else ([], 6)
/-- What one fraction is told as. -/
def told1 (q : Rat) : Fr × Int := if ShortQ q then (txtFr q, 0) else ((.empty, .empty), 6)
/-- The elements of a system, the right side behind. -/
def augA (qa : Nat → List Rat) (qb : List Rat) : Nat → Nat → Rat := fun i c => (augQ qa qb i).getD c 0
/-- What solve and told answer. -/
def solC (n : Nat) (a : Nat → Nat → Rat) : List Fr × Int := if (runR n a n).steps.length < n then ([], 7) else toldC ((List.range n).map fun i => (runR n a n).R i n)
/-- A table's rows as ratios. -/
def tabR (t : List (List Fr)) (i : Nat) : List Rat := (t.getD i []).map frQ
/-- A list that is not valid. -/
def badL (l : List Fr) : Bool := l.any fun x => !okFr x
/-- What Solve answers. -/
def solveC (t : List (List Fr)) (b : List Fr) : List Fr × Int :=
  if okT t = false then ([], 60) else if badL b then ([], 20) else if ¬ (t.length = (t.headD []).length ∧ b.length = t.length) then ([], 2) else solC t.length (augA (tabR t) (b.map frQ))
/-- One of some fractions is negative. -/
def negL (l : List Fr) : Bool := l.any fun x => x.1.data.toList.head? == some 45
/-- A sum of products of three lists. -/
def wsum (m : Nat) (w x y : Nat → Rat) : Rat := rsum m fun i => w i * x i * y i
/-- An element of a table. -/
def tabE (t : List (List Fr)) (i j : Nat) : Rat := (tabR t i).getD j 0
def lisE (l : List Fr) (i : Nat) : Rat := (l.map frQ).getD i 0
/-- What Least answers. -/
def leastC (t : List (List Fr)) (b w : List Fr) : List Fr × Int :=
  if okT t = false then ([], 60) else if badL b || badL w then ([], 20) else if ¬ (b.length = t.length ∧ w.length = t.length ∧ negL w = false) then ([], 2) else
    let m := t.length
    let n := (t.headD []).length
    solC n (augA (fun j => (List.range n).map fun k => wsum m (lisE w) (fun i => tabE t i j) (fun i => tabE t i k)) ((List.range n).map fun j => wsum m (lisE w) (fun i => tabE t i j) (lisE b)))
/-- The residual of a row. -/
def resQ (t : List (List Fr)) (b x : List Fr) (n i : Nat) : Rat := wsum n (fun _ => 1) (tabE t i) (lisE x) - lisE b i
/-- What Measure answers. -/
def measureC (t : List (List Fr)) (b w x : List Fr) : Fr × Int :=
  if okT t = false then ((.empty, .empty), 60) else if badL b || badL w || badL x then ((.empty, .empty), 20) else if ¬ (b.length = t.length ∧ w.length = t.length ∧ x.length = (t.headD []).length ∧ negL w = false) then ((.empty, .empty), 2) else
    told1 (wsum t.length (lisE w) (resQ t b x (t.headD []).length) (resQ t b x (t.headD []).length))
/-- A system that has one answer. -/
theorem solved_eq {n : Nat} (hn : 0 < n) (qa : Nat → List Rat) (qb : List Rat) : (NoOne n (sysP n qa qb) ↔ (runR n (augA qa qb) n).steps.length < n) ∧
    (¬ NoOne n (sysP n qa qb) → ∀ x, Back n (sysP n qa qb) x → ∀ i, i < n → x i = (runR n (augA qa qb) n).R i n) := by
  obtain ⟨h1, h2⟩ := solve_same n hn (augA qa qb) (fun i => scaledZ (augQ qa qb i)) (fun i => (lcmD (augQ qa qb i) : Rat)) (fun i _ => ⟨by
    have := lcmD_pos (augQ qa qb i)
    intro e
    have : lcmD (augQ qa qb i) = 0 := by exact_mod_cast e
    omega, fun c => scaledZ_all _ c⟩)
  refine ⟨⟨fun h => ?_, h1⟩, fun h x hx => ?_⟩
  · by_cases k : (runR n (augA qa qb) n).steps.length < n
    · exact k
    · obtain ⟨_, k1, k2, _⟩ := h2 k
      rcases h with h | h
      · exact absurd h k1
      · exact absurd k2 h
  · exact (h2 (fun k => h (h1 k))).2.2.2.2 x hx
end Go.Proofs.Xx
end
section
namespace Go.Proofs.Xx
open Go.RowKit Go.V Go.Grow Lin Go.Txt

/-- The cells of fractions: two texts each. -/
def fracCells (l : List Fr) : List Value := l.flatMap fun x => [.string x.1, .string x.2]
theorem fracCells_length (l : List Fr) : (fracCells l).length = l.length * 2 := by
  induction l with
  | nil => rfl
  | cons p l ih => simp only [fracCells, List.flatMap_cons, List.length_append, List.length_cons, List.length_nil] at ih ⊢; omega
theorem fracCells_get : ∀ (l : List Fr) (j : Nat), (fracCells l)[j * 2]? = l[j]?.map (fun p => .string p.1) ∧ (fracCells l)[j * 2 + 1]? = l[j]?.map (fun p => .string p.2)
  | [], j => by simp [fracCells]
  | p :: l, 0 => by simp [fracCells]
  | p :: l, j + 1 => by
    have := fracCells_get l j
    simp only [fracCells, List.flatMap_cons] at this ⊢
    rw [show (j + 1) * 2 = j * 2 + 1 + 1 by omega]
    simpa using this
theorem fracCells_snoc (l : List Fr) (x : Fr) : fracCells (l ++ [x]) = fracCells l ++ [.string x.1, .string x.2] := by
  unfold fracCells
  rw [List.flatMap_append]
  rfl
theorem fracCells_cell (l : List Fr) : ∀ u ∈ fracCells l, u.oneCell' = true ∧ NotU u := by
  intro u hu
  unfold fracCells at hu
  obtain ⟨x, _, hx⟩ := List.mem_flatMap.1 hu
  simp at hx
  rcases hx with rfl | rfl <;> exact ⟨rfl, fun n h => by cases h⟩
theorem infoFrac : (Tryz.prog.info? 46).map (fun i => (i.zero, i.size, i.bytes)) = some (some (.agg #[.string .empty, .string .empty]), 2, 32) := by kernel_rfl
theorem fracZero_notU : ∀ u ∈ (Value.agg #[.string .empty, .string .empty]).cells, NotU u := by
  intro u hu
  simp [Value.cells] at hu
  subst hu
  intro n h; cases h
/-- A list of the call's own that reads as fractions. -/
theorem Lst.fracs {w : World} {B : Nat} {v : Value} {l : List Fr} (h : Lst w B 46 2 v l.length (fracCells l)) : IsFracs w v l := by
  rcases Nat.eq_zero_or_pos l.length with h0 | hn
  · have e : l = [] := List.eq_nil_of_length_eq_zero h0
    subst e
    rcases h.2.2 with ⟨rfl, _⟩ | ⟨g, c, spare, rfl, _, _, _, _, hm⟩
    · exact ⟨none, 0, rfl, Nat.le_refl _, Nat.zero_le _, .inl rfl⟩
    · exact ⟨_, _, rfl, Nat.zero_le _, hm, .inl rfl⟩
  · obtain ⟨g, c, rfl, hm, _, _, hc, _⟩ := h.cell hn
    refine ⟨_, _, rfl, Nat.le_add_right _ _, hm, .inr ⟨g, 0, rfl, fun i x hx => ?_⟩⟩
    obtain ⟨g1, g2⟩ := fracCells_get l i
    rw [hx] at g1 g2
    rw [Nat.zero_add]
    exact ⟨hc _ _ g1, hc _ _ g2⟩
/-- append of fractions. -/
theorem app_fracs {w : World} {B : Nat} {v : Value} {n : Nat} {xs : List Value} (h : Lst w B 46 2 v n xs) (a : Addr) (m c : Nat) (news : List Value) (hl : news.length = m * 2) (hnews : ∀ j u, news[j]? = some u → w.cell? (a.add j) = some u) (h1 : ∀ u ∈ news, u.oneCell' = true ∧ NotU u) (hm : 0 < m) (hb : n + m ≤ 1099511627776) (hB : B ≤ w.heap.size) (t ty : TypeId) (ht : Tryz.prog.underlying t = some (.slice 46)) :
    ∃ v' w', (Builtin.append_ #[t, t] ty #[v, .slice (some a) m c]).run Tryz.prog w = .ok v' w' ∧ Lst w' B 46 2 v' (n + m) (xs ++ news) ∧ Keep w w' ∧ w.grownBy w' v.ownBlock ∧ (v'.ownBlock = v.ownBlock ∨ v'.ownBlock = some w.heap.size) ∧
      ∀ g, v.ownBlock = some g → w'.heap[g]? = w.heap[g]? ∨ ∃ sp sp', w.heap[g]? = some (.cells (xs ++ sp).toArray 46 (0, 0)) ∧ w'.heap[g]? = some (.cells (xs ++ (news ++ sp')).toArray 46 (0, 0)) ∧ sp.length = news.length + sp'.length ∧ ∀ u ∈ sp', NotU u := by
  obtain ⟨i0, hi, hzz⟩ := Option.map_eq_some_iff.1 infoFrac
  simp only [Prod.mk.injEq] at hzz
  obtain ⟨hz0, hz1, hz2⟩ := hzz
  exact Lst.append h t ty i0 _ 32 ht hi hz0 hz1 hz2 rfl (by decide) fracZero_notU a m c news hl hnews (fun u hu => (h1 u hu).1) (fun u hu => (h1 u hu).2) hm (by unfold maxLen; omega) (by omega) hB
/-- The world behind an append to an own list: what was there at the call's begin is as it was. -/
theorem grown_ext {w wr w' : World} {v : Value} (hE : Ext w wr) (hG : wr.grownBy w' v.ownBlock) (ho : ∀ g, v.ownBlock = some g → w.heap.size ≤ g) : Ext w w' :=
  ⟨hG.os.trans hE.os, hG.tape.trans hE.tape, hG.output.trans hE.output, Nat.le_trans hE.size hG.size, fun q hq => (hG.block q (Nat.lt_of_lt_of_le hq hE.size) (fun e => by
    have := ho q e.symm
    omega)).trans (hE.block q hq)⟩
end Go.Proofs.Xx
end
section
namespace Go.Proofs.Xx
open Go.RowKit Go.V Go.Grow Lin Go.Txt

/-- append, with what its run gives. -/
theorem wp_appG {P : Program} {w : World} {R : Value → World → Prop} {ops : Array Oper} {rest : List Oper} {o : Oper} {a : Act} {Q : Exit → Act → World → Prop} (hg : o.guard = none) (s x : Operand) (t : TypeId)
    (hop : o.op = Op.call { callee := Callee.builtin Builtin.append, args := #[s, x], argTypes := #[t, t] }) {v u : Value} (hs : a.eval s = v) (hx : a.eval x = u)
    (hrun : ∃ v' w', (Builtin.append_ #[t, t] o.type #[v, u]).run P w = .ok v' w' ∧ R v' w') (hK : ∀ v' w', R v' w' → wpList P ops Q rest (a.put o.dst v') w') : wpList P ops Q (o :: rest) a w := by
  obtain ⟨v', w', h1, h2⟩ := hrun
  exact wp_app hg s x t hop hs hx h1 (hK v' w' h2)
theorem _root_.Go.V.Blk.new' {w : World} {n : Nat} {cs : List Value} {arr : Array Value} (T : TypeId) (hn : w.heap.size = n) (ha : cs.toArray = arr) : Blk (w.alloc (.cells arr T)) n cs := by
  subst hn; subst ha
  exact Blk.new _ _ _

set_option maxHeartbeats 4000000 in
set_option maxRecDepth 100000 in
theorem told_list (vl : Value) (qs : List Rat) (w : World) (hl : IsRats w vl qs) (htab : Tab w) (hlen : qs.length ≤ 1000000) (hs : ∀ q ∈ qs, Sz q 1000000000000) :
    Calls Tryz.prog 61 #[vl] w fun e w' => ∃ v, e = .returned (.tuple #[v, .int .i64 (toldC qs).2]) ∧ IsFracs w' v (toldC qs).1 ∧ Ext w w' := by
  obtain ⟨A, c, rfl, hc, hmx, _⟩ := id hl
  have HL := Lib.hid hl
  have HC := Lib.hid hc
  have HN := Lib.hid hlen
  have HT : Hid (∀ (q : Rat) (va : Value) (w' : World), q ∈ qs → Ext w w' → IsRat w' va q → Calls Tryz.prog 82 #[va] w' fun e w'' => e = .returned (.tuple #[toldQ q, .int .i64 (toldQE q)]) ∧ Ext w' w'') := fun q va w' hq hE h => rtold_any va q w' h (htab.mono hE) (hs q hq).1 (hs q hq).2
  have HBAD : Hid (∀ q, q ∈ qs → ¬ ShortQ q → toldC qs = ([], 6)) := fun q hq h => by
    unfold toldC
    rw [if_neg]
    intro h2
    exact h (of_decide_eq_true (List.all_eq_true.1 h2 q hq))
  have HGOOD : Hid ((∀ q, q ∈ qs → ShortQ q) → toldC qs = (qs.map txtFr, 0)) := fun h => by
    unfold toldC
    rw [if_pos (List.all_eq_true.2 fun q hq => decide_eq_true (h q hq))]
  clear hl hmx hlen hs htab hc
  go_enter Tryz.func61, Tryz.ntmps61
  go_wp2_with fail
  go_loopw [4, 11] (fun out t wr => ∃ i : Nat, t = .int .i64 (i : Int) ∧ i ≤ qs.length ∧ (∀ q ∈ qs.take i, ShortQ q) ∧ Lst wr w.heap.size 46 2 out i (fracCells ((qs.take i).map txtFr)) ∧ Ext w wr) (fun _ t _ => upTo qs.length t)
  case atStart => exact ⟨0, rfl, Nat.zero_le _, fun q h => by simp at h, Lst.nil _ _ _ _, Ext.refl _⟩
  case round =>
    obtain ⟨i, rfl, hi, hsh, hLs, hE⟩ := hrel
    by_cases hlt : i < qs.length
    · obtain ⟨q, hq⟩ : ∃ q, qs[i]? = some q := ⟨qs[i], List.getElem?_eq_getElem hlt⟩
      have hqm := List.mem_of_getElem? hq
      obtain ⟨b, o, p, m, d, rfl, y1, y2, y3, y4⟩ := IsRats.get HL.out hq
      have q1 := hE.cell y1
      have q2 := hE.cell y2
      have q3 := hE.cell y3
      have Ea : Ext wr (wr.alloc (.cells #[.bool p, m, d] 111)) := Ext.alloc _ _
      have HCT := Lib.hid (HT.out q _ _ hqm (Ext.trans _ _ _ hE Ea) ((y4.mono hE).mono Ea))
      have HWI : Hid (wrap64 ((i : Int) + 1) = ((i + 1 : Nat) : Int)) := by
        have := HN.out
        show wrap64 ((i : Int) + 1) = ((i + 1 : Nat) : Int)
        rw [IntWalk.wrap64_in _ (by omega)]
        omega
      have hicap : i < c := by have := HC.out; omega
      have HLS := Lib.hid hLs
      have HSH := Lib.hid hsh
      have htk := Lib.hid (take_snoc hq)
      obtain ⟨Ao, co, hout⟩ := hLs.slice
      obtain ⟨hpq, hm, hd⟩ := y4.parts
      clear hpq
      obtain ⟨A3, c3, rfl, _⟩ := hm
      obtain ⟨A4, c4, rfl, _⟩ := hd
      generalize (mass q.num.natAbs).length = l3 at *
      generalize (mass q.den).length = l4 at *
      subst hout
      clear hLs hsh y1 y2 y3 y4
      unfold toldQ toldQE at HCT
      by_cases hS : Short q.num.natAbs ∧ Short q.den
      · rw [if_pos hS, if_pos hS, txtQ_fr] at HCT
        have HS : Hid (ShortQ q) := hS
        clear hS
        generalize hx : txtFr q = x at *
        obtain ⟨x1, x2⟩ := x
        have HX := Lib.hid hx
        clear hx
        simp only at HCT
        go_wp2_with fail
        refine HCT.out.mono ?_
        rintro e w3 ⟨rfl, hE3⟩
        have hX := hE3.old
        have E3 := Ext.trans _ _ _ Ea hE3
        have E4 : Ext wr ((w3.alloc (.cells #[.string x1, .string x2] 46)).alloc (.cells #[.string x1, .string x2] 46)) := Ext.trans _ _ _ E3 (Ext.trans _ _ _ (Ext.alloc _ _) (Ext.alloc _ _))
        have hB : Blk ((w3.alloc (.cells #[.string x1, .string x2] 46)).alloc (.cells #[.string x1, .string x2] 46)) (w3.heap.size + 1) [.string x1, .string x2] := Blk.new' 46 (by simp) rfl
        have hLs4 := HLS.out.ext E4
        have hsz4 : w.heap.size ≤ ((w3.alloc (.cells #[.string x1, .string x2] 46)).alloc (.cells #[.string x1, .string x2] 46)).heap.size := (Ext.trans _ _ _ hE E4).size
        obtain ⟨v', W', hr, k2, k3, k4, k5, _⟩ := app_fracs hLs4 ⟨w3.heap.size + 1, 0, none⟩ 1 1 [.string x1, .string x2] rfl (fun j u hu => by rw [add0, hB.cell]; exact hu) (fun u hu => by
          simp at hu
          rcases hu with rfl | rfl <;> exact ⟨rfl, fun n h => by cases h⟩) (by decide) (by have := HN.out; omega) hsz4 23 23 Tryz.underlying23
        have HR := Lib.hid hr
        have HG : Hid (Ext w W') := grown_ext (Ext.trans _ _ _ hE E4) k4 (fun g hg => (hLs4.own hg).1)
        have HK := Lib.hid k2
        clear hr k2 k3 k4 k5 hB hLs4 hsz4
        go_wp2_with (first | (at_builtin; refine wp_app rfl _ _ _ rfl rfl rfl HR.out ?_) | fail)
        go_roundw
        case rel =>
          refine ⟨i + 1, by rw [HWI.out], hlt, fun y hy => ?_, ?_, HG.out⟩
          · rw [htk.out] at hy
            rcases List.mem_append.1 hy with h | h
            · exact HSH.out y h
            · rw [List.mem_singleton.1 h]; exact HS.out
          · rw [htk.out, List.map_append, List.map_singleton, HX.out, fracCells_snoc]
            exact HK.out
        case measure =>
          rw [HWI.out]
          exact upTo_lt hlt
      · rw [if_neg hS, if_neg hS] at HCT
        have HS : Hid (¬ ShortQ q) := hS
        clear hS
        unfold emptyQ at HCT
        go_wp2_with fail
        refine HCT.out.mono ?_
        rintro e w3 ⟨rfl, hE3⟩
        have hX := hE3.old
        have E3 := Ext.trans _ _ _ Ea hE3
        have HF := Lib.hid (HBAD.out q hqm HS.out)
        have HE3 := Lib.hid (Ext.trans _ _ _ hE E3)
        go_wp2
        go_ret2
        rw [HF.out]
        exact ⟨_, rfl, ⟨none, 0, rfl, Nat.le_refl _, Nat.zero_le _, .inl rfl⟩, Ext.trans _ _ _ HE3.out (Ext.alloc _ _)⟩
    · have hin : i = qs.length := by omega
      have HLS := Lib.hid hLs
      have HSH := Lib.hid hsh
      obtain ⟨Ao, co, hout⟩ := hLs.slice
      subst hout
      have HF := Lib.hid (HGOOD.out (fun q hq => HSH.out q (by rw [hin, List.take_length]; exact hq)))
      clear hLs hsh
      go_wp2
      go_ret2
      rw [HF.out]
      refine ⟨_, rfl, Lst.fracs (B := w.heap.size) ?_, hE⟩
      have := HLS.out
      rw [hin, List.take_length] at this
      rw [List.length_map]
      rw [hin]
      exact this
end Go.Proofs.Xx
end
section
namespace Go.Proofs.Xx
open Go.RowKit Go.V Go.Grow Lin Go.Txt

/-- What fits answers. -/
def fitsE (t : List (List Fr)) (ls : List (List Fr)) (r : Bool) : Int := if okT t = false then 60 else if ls.any badL then 20 else if r = false then 2 else 0

set_option maxHeartbeats 4000000 in
set_option maxRecDepth 100000 in
theorem lfits_any (va vls : Value) (t ls : List (List Fr)) (g : Nat) (lb : Array Value) (r : Bool) (w : World) (ht : IsTab w va t) (hls : IsTab w vls ls) (htab : Tab w) (eg : ∀ args w, (callFunc g args).run Tryz.prog w = .ok (.enter g args) w)
    (hr : ∀ w', okT t = true → ls.any badL = false → Ext w w' → Calls Tryz.prog g lb w' fun e w'' => e = .returned (.bool r) ∧ Ext w' w'') :
    Calls Tryz.prog 57 #[va, .func (.func g) #[] lb, vls] w fun e w' => e = .returned (.int .i64 (fitsE t ls r)) ∧ Ext w w' := by
  have HC := Lib.hid (lcheck_any va t w ht htab)
  have HW : Hid (∀ w' : World, Ext w w' → Calls Tryz.prog 125 #[vls, .func (.func 47) #[] #[]] w' fun e w'' => e = .returned (.bool (ls.any badL)) ∧ Ext w' w'') := fun w' hE => containsT_any 47 #[] (enters_of Tryz.func47 (by kernel_rfl) rfl) vls ls badL w' (hls.mono hE) (fun i x u w2 hx hE2 hu => wrong_any u x w2 hu (htab.mono (Ext.trans _ _ _ hE hE2)))
  have HR := Lib.hid hr
  unfold lcheckE at HC
  unfold fitsE
  clear ht hls htab hr
  cases hok : okT t with
  | false =>
    rw [hok] at HC
    simp only [Bool.false_eq_true, if_false, if_true] at HC ⊢
    clear hok
    go_enter Tryz.func57, Tryz.ntmps57
    go_wp2_with fail
    refine HC.out.mono ?_
    rintro e w1 ⟨rfl, hE⟩
    go_wp2
    go_ret
    exact ⟨rfl, hE⟩
  | true =>
    have HOK := Lib.hid hok
    rw [hok] at HC
    simp only [if_true, Bool.true_eq_false, if_false] at HC ⊢
    clear hok
    cases hb : ls.any badL with
    | true =>
      rw [hb] at HW
      simp only [if_true]
      clear hb
      go_enter Tryz.func57, Tryz.ntmps57
      go_wp2_with fail
      refine HC.out.mono ?_
      rintro e w1 ⟨rfl, hE⟩
      go_wp2_with fail
      refine (HW.out _ hE).mono ?_
      rintro e w2 ⟨rfl, hE2⟩
      go_wp2
      go_ret
      exact ⟨rfl, Ext.trans _ _ _ hE hE2⟩
    | false =>
      have HB := Lib.hid hb
      rw [hb] at HW
      simp only [Bool.false_eq_true, if_false]
      clear hb
      cases r with
      | false =>
        simp only [if_true]
        go_enter Tryz.func57, Tryz.ntmps57
        go_wp2_with fail
        refine HC.out.mono ?_
        rintro e w1 ⟨rfl, hE⟩
        go_wp2_with fail
        refine (HW.out _ hE).mono ?_
        rintro e w2 ⟨rfl, hE2⟩
        have HCR := Lib.hid (HR.out w2 HOK.out HB.out (Ext.trans _ _ _ hE hE2))
        go_wp2_with fail
        refine HCR.out.mono ?_
        rintro e w3 ⟨rfl, hE3⟩
        go_wp2
        go_ret
        exact ⟨rfl, Ext.trans _ _ _ (Ext.trans _ _ _ hE hE2) hE3⟩
      | true =>
        simp only [Bool.true_eq_false, if_false]
        go_enter Tryz.func57, Tryz.ntmps57
        go_wp2_with fail
        refine HC.out.mono ?_
        rintro e w1 ⟨rfl, hE⟩
        go_wp2_with fail
        refine (HW.out _ hE).mono ?_
        rintro e w2 ⟨rfl, hE2⟩
        have HCR := Lib.hid (HR.out w2 HOK.out HB.out (Ext.trans _ _ _ hE hE2))
        go_wp2_with fail
        refine HCR.out.mono ?_
        rintro e w3 ⟨rfl, hE3⟩
        go_wp2
        go_ret
        exact ⟨rfl, Ext.trans _ _ _ (Ext.trans _ _ _ hE hE2) hE3⟩
end Go.Proofs.Xx
end
section
namespace Go.Proofs.Xx
open Go.RowKit Go.V Go.Grow Lin Go.Txt

theorem okFr_ne {x : Fr} (h : okFr x = true) : 0 < x.1.size := by
  have h1 := (okFr_txt h).1
  have h2 : x.1 = txtB (frQ x).num := congrArg Prod.fst h1
  obtain ⟨c, r, h3, _⟩ := itoa_head (frQ x).num
  rw [h2]
  show 0 < (txtB (frQ x).num).data.toList.length
  have : (txtB (frQ x).num).data.toList = Lib.itoa (frQ x).num := by simp [txtB]
  rw [this, h3]
  simp
set_option maxHeartbeats 1000000 in
theorem negative1_any (x : Fr) (w : World) (hx : 0 < x.1.size) : Calls Tryz.prog 130 #[.agg #[.string x.1, .string x.2]] w fun e w' => e = .returned (.bool (x.1.data.toList.head? == some 45)) ∧ Ext w w' := by
  obtain ⟨x1, x2⟩ := x
  have E0 : Ext w (w.alloc (.cells #[.string x1, .string x2] 46)) := Ext.alloc _ _
  simp only at hx
  have hh : (x1.data.toList.head? == some 45) = (((x1[0]'hx).toNat : Int) == 45) := by
    obtain ⟨⟨l⟩⟩ := x1
    match l, hx with
    | c :: r, hx =>
      show (some c == some 45) = ((c.toNat : Int) == 45)
      by_cases h : c = 45
      · subst h; rfl
      · have h2 : ¬ (c.toNat : Int) = 45 := fun e => h (UInt8.toNat_inj.1 (by show c.toNat = 45; omega))
        rw [beq_eq_false_iff_ne.2 h2, beq_eq_false_iff_ne]
        intro e; exact h (Option.some.inj e)
  simp only
  rw [hh]
  go_enter Tryz.func130, Tryz.ntmps130
  go_wp2
  go_ret
  exact ⟨rfl, E0⟩
theorem negative_any (vl : Value) (l : List Fr) (w : World) (hl : IsFracs w vl l) (hok : badL l = false) : Calls Tryz.prog 67 #[vl] w fun e w' => e = .returned (.bool (negL l)) ∧ Ext w w' := by
  have HC := Lib.hid (containsF_any 130 #[] (enters_of Tryz.func130 (by kernel_rfl) rfl) vl l (fun x => x.1.data.toList.head? == some 45) w hl (fun i x w' hx hE => negative1_any x w' (okFr_ne (by
    unfold badL at hok
    rw [List.any_eq_false] at hok
    have := hok x (List.mem_of_getElem? hx)
    simpa using this))))
  unfold negL
  clear hl hok
  generalize (l.any fun x => x.1.data.toList.head? == some 45) = r at *
  go_enter Tryz.func67, Tryz.ntmps67
  go_wp2_with fail
  refine HC.out.mono ?_
  rintro e w1 ⟨rfl, hE⟩
  go_wp2
  go_ret
  exact ⟨rfl, hE⟩
end Go.Proofs.Xx
end
section
namespace Go.Proofs.Xx
open Go.RowKit Go.V Go.Grow Lin Go.Txt

/-- A variable of the call's own that holds a ratio. -/
def RVar (w : World) (g : Nat) (q : Rat) : Prop := RRow w g 1 (fun _ => True) (fun _ => q)
theorem RVar.new {w : World} {p : Bool} {A A' : Option Addr} {l c l' c' : Nat} {q : Rat} (h : IsRat w (.agg #[.bool p, .slice A l c, .slice A' l' c']) q) (T : TypeId) : RVar (w.alloc (.cells #[.bool p, .slice A l c, .slice A' l' c'] T)) w.heap.size q :=
  ⟨[(p, .slice A l c, .slice A' l' c')], Blk.new w _ _, rfl, (fun j x hx => by
    match j, hx with
    | 0, hx => cases hx; exact ⟨notInt_slice _ _ _, notInt_slice _ _ _⟩), fun j x hx _ => by
    match j, hx with
    | 0, hx => cases hx; exact IsRat.mono h (Ext.alloc _ _)⟩
theorem RVar.ext {w w' : World} {g : Nat} {q : Rat} (h : RVar w g q) (hE : Ext w w') : RVar w' g q := RRow.ext h hE
theorem RVar.cells {w : World} {g : Nat} {q : Rat} (h : RVar w g q) : ∃ p m d, w.cell? ⟨g, 0, none⟩ = some (.bool p) ∧ w.cell? ⟨g, 1, none⟩ = some m ∧ w.cell? ⟨g, 2, none⟩ = some d ∧ IsRat w (.agg #[.bool p, m, d]) q ∧ w.frozen? ⟨g, 0, none⟩ = false ∧ w.frozen? ⟨g, 1, none⟩ = false ∧ w.frozen? ⟨g, 2, none⟩ = false := by
  obtain ⟨p, m, d, h1, h2, h3, _, _, h4, h5, h6, h7⟩ := RRow.cells h (j := 0) (by omega)
  rw [Nat.zero_mul] at h1 h2 h3 h5 h6 h7
  rw [Nat.zero_add] at h2 h3 h6 h7
  exact ⟨p, m, d, h1, h2, h3, h4 trivial, h5, h6, h7⟩
theorem RVar.set {w : World} {g : Nat} {q z : Rat} (h : RVar w g q) {p : Bool} {m d : Value} (hz : IsRat w (.agg #[.bool p, m, d]) z) :
    RVar (((w.setCell ⟨g, 0, none⟩ (.bool p)).setCell ⟨g, 1, none⟩ m).setCell ⟨g, 2, none⟩ d) g z := by
  have := (RRow.set h (j := 0) (by omega) hz).1
  rw [Nat.zero_mul, Nat.zero_add, Nat.zero_add] at this
  obtain ⟨vs', k1, k2, k3, k4⟩ := this
  refine ⟨vs', k1, k2, k3, fun j' x hx _ => ?_⟩
  have hj0 : j' = 0 := by have := (List.getElem?_eq_some_iff.1 hx).1; omega
  subst hj0
  have := k4 0 x hx (.inl rfl)
  simpa using this
theorem Ext.set3 {w w1 : World} (h : Ext w w1) {g : Nat} (hg : w.heap.size ≤ g) (a b c : Value) : Ext w (((w1.setCell ⟨g, 0, none⟩ a).setCell ⟨g, 1, none⟩ b).setCell ⟨g, 2, none⟩ c) :=
  ((h.set (p := ⟨g, 0, none⟩) hg a).set (p := ⟨g, 1, none⟩) hg b).set (p := ⟨g, 2, none⟩) hg c
/-- Three cells that were just stored. -/
theorem stored3 {w : World} {g : Nat} {x0 x1 x2 : Value} (h0 : w.cell? ⟨g, 0, none⟩ = some x0) (h1 : w.cell? ⟨g, 1, none⟩ = some x1) (h2 : w.cell? ⟨g, 2, none⟩ = some x2) (a b c : Value) :
    (w.setCell ⟨g, 0, none⟩ a).cell? ⟨g, 0, none⟩ = some a ∧ ((w.setCell ⟨g, 0, none⟩ a).setCell ⟨g, 1, none⟩ b).cell? ⟨g, 1, none⟩ = some b ∧ (((w.setCell ⟨g, 0, none⟩ a).setCell ⟨g, 1, none⟩ b).setCell ⟨g, 2, none⟩ c).cell? ⟨g, 2, none⟩ = some c := by
  have h1' : (w.setCell ⟨g, 0, none⟩ a).cell? ⟨g, 1, none⟩ = some x1 := by rw [World.cell?_setCell_other _ _ _ _ (by simp)]; exact h1
  have h2' : ((w.setCell ⟨g, 0, none⟩ a).setCell ⟨g, 1, none⟩ b).cell? ⟨g, 2, none⟩ = some x2 := by
    rw [World.cell?_setCell_other _ _ _ _ (by simp), World.cell?_setCell_other _ _ _ _ (by simp)]; exact h2
  exact ⟨World.cell?_setCell_same _ _ _ h0, World.cell?_setCell_same _ _ _ h1', World.cell?_setCell_same _ _ _ h2'⟩
theorem Sz.rsum {S : Nat} {f : Nat → Rat} : ∀ {i : Nat}, (∀ j, j < i → Sz (f j) S) → Sz (Lin.rsum i f) (1 + i * (S + 1))
  | 0, _ => by
    rw [Nat.zero_mul]
    exact sz_int (z := 0) (L := 1) (by show (mass 0).length ≤ 1; decide) (Nat.le_refl _)
  | i + 1, h => by
    have h1 := (Sz.rsum (i := i) fun j hj => h j (by omega)).add (h i (by omega))
    refine Sz.mono h1 ?_
    rw [Nat.add_mul]
    omega
end Go.Proofs.Xx
end
