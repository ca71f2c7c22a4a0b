/- A part of the proof: the texts XCol, W69, XLst2. -/
import Derived.Test.YtblmikccdhdjlaaGreatDoorP40
set_option linter.unusedVariables false
set_option linter.unusedSimpArgs false
section
namespace Go.V
open Go.RowKit
/-- What a statement may do that appends bs to one list (which lies in the block ob, its cells are cs). -/
def ED (N : Nat) (e : TypeId) (ob : Option Nat) (cs bs : List Value) (w w' : World) : Prop := Below N w w' ∧ Keep w w' ∧ ∀ h, h < w.heap.size → w'.heap[h]? = w.heap[h]? ∨ (ob = some h ∧ ∃ sp sp', w.heap[h]? = some (.cells (cs ++ sp).toArray e (0, 0)) ∧ w'.heap[h]? = some (.cells (cs ++ (bs ++ sp')).toArray e (0, 0)) ∧ sp.length = bs.length + sp'.length ∧ ∀ u ∈ sp', NotU u)
section
variable {N : Nat} {e : TypeId} {ob : Option Nat} {cs bs : List Value}
theorem ED.ec {w w' : World} (h : ED N e ob cs bs w w') : EC N e cs bs w w' := ⟨h.1, h.2.1, fun q hq => by
  rcases h.2.2 q hq with x | ⟨_, x⟩
  · exact .inl x
  · exact .inr x⟩
theorem ED.refl (w : World) : ED N e ob cs bs w w := ⟨Below.refl _ _, Keep.refl w, fun _ _ => .inl rfl⟩
theorem ED.trans (a b c : World) (h : ED N e ob cs bs a b) (k : ED N e ob cs bs b c) : ED N e ob cs bs a c := by
  have hec := EC.trans a b c h.ec k.ec
  refine ⟨hec.1, hec.2.1, fun q hq => ?_⟩
  rcases hec.2.2 q hq with x | x
  · exact .inl x
  · have hq2 : q < b.heap.size := Nat.lt_of_lt_of_le hq h.1.size
    rcases h.2.2 q hq with y | ⟨y, _⟩
    · rcases k.2.2 q hq2 with z | ⟨z, _⟩
      · exact .inl (z.trans y)
      · exact .inr ⟨z, x⟩
    · exact .inr ⟨y, x⟩
theorem ED.ofExt {w w' : World} (h : Ext w w') (hN : N ≤ w.heap.size) : ED N e ob cs bs w w' := ⟨h.mono hN, h.keep, fun q hq => .inl (h.block q hq)⟩
theorem ED.size {w w' : World} (h : ED N e ob cs bs w w') : w.heap.size ≤ w'.heap.size := h.1.size
theorem ED.block {w w' : World} (h : ED N e ob cs bs w w') {q : Nat} (hq : q < w.heap.size) (ho : ob ≠ some q) : w'.heap[q]? = w.heap[q]? := by
  rcases h.2.2 q hq with x | ⟨y, _⟩
  · exact x
  · exact absurd y ho
theorem ED.cell {w w' : World} (h : ED N e ob cs bs w w') {p : Addr} {x : Value} (hp : w.cell? p = some x) (ho : ob ≠ some p.block) : w'.cell? p = some x := by
  rw [World.cell?_of_block (h.block (World.block_lt_of_cell? w p hp) ho)]
  exact hp
theorem ED.frozen {w w' : World} (h : ED N e ob cs bs w w') {p : Addr} {b : Bool} (hl : p.block < w.heap.size) (hp : w.frozen? p = b) (ho : ob ≠ some p.block) : w'.frozen? p = b := by
  rw [World.frozen?_of_block (h.block hl ho)]
  exact hp
end
end Go.V
namespace Go.Proofs.Xx
open Go.RowKit Go.V Go.Grow Lin Go.Txt
/-- Lists that grow: their slices lie in one block. -/
structure Cols (wb wr : World) (kb cp n : Nat) (qs : Nat → List Rat) (vv : Nat → Value) : Prop where
  cell : ∀ j, j < n → wr.cell? ⟨kb, j, none⟩ = some (vv j)
  fro : ∀ j, wr.frozen? ⟨kb, j, none⟩ = false
  lst : ∀ j, j < n → ∃ vs, Lst wr wb.heap.size 111 3 (vv j) (qs j).length (ratCells vs) ∧ Parts wr vs (qs j)
  ne : ∀ j l, j < n → l < n → j ≠ l → ∀ g, (vv j).ownBlock = some g → (vv l).ownBlock ≠ some g
  lt : kb < wb.heap.size
  cpn : cp ≠ kb ∧ cp < wb.heap.size
  grw : wb.grownBy wr (some kb)
  keep : Keep wb wr
theorem Cols.old {wb wr : World} {kb cp n : Nat} {qs : Nat → List Rat} {vv : Nat → Value} (h : Cols wb wr kb cp n qs vv) {p : Addr} {x : Value} (hp : wb.cell? p = some x) (hk : p.block ≠ kb) : wr.cell? p = some x := by
  rw [World.cell?_of_block (h.grw.block _ (World.block_lt_of_cell? wb p hp) (fun e => hk (Option.some.inj e)))]
  exact hp
theorem Cols.own {wb wr : World} {kb cp n : Nat} {qs : Nat → List Rat} {vv : Nat → Value} (h : Cols wb wr kb cp n qs vv) {j : Nat} (hj : j < n) {g : Nat} (hg : (vv j).ownBlock = some g) : wb.heap.size ≤ g ∧ g < wr.heap.size := by
  obtain ⟨vs, h1, _⟩ := h.lst j hj
  exact h1.own hg
theorem Cols.step {wb wr u : World} {kb cp n : Nat} {qs : Nat → List Rat} {vv : Nat → Value} (h : Cols wb wr kb cp n qs vv) {j : Nat} (hj : j < n) {cs bs : List Value} (hE : ED wb.heap.size 111 (vv j).ownBlock cs bs wr u) {v' : Value} {q : Rat} {vs' : List (Bool × Value × Value)}
    (hL : Lst u wb.heap.size 111 3 v' ((qs j).length + 1) (ratCells vs')) (hP : Parts u vs' (qs j ++ [q])) (ho : v'.ownBlock = (vv j).ownBlock ∨ ∀ g, v'.ownBlock = some g → wr.heap.size ≤ g) :
    Cols wb (u.setCell ⟨kb, j, none⟩ v') kb cp n (fun l => if l = j then qs j ++ [q] else qs l) (fun l => if l = j then v' else vv l) := by
  have hkr : kb < wr.heap.size := Nat.lt_of_lt_of_le h.lt h.grw.size
  have hko : (vv j).ownBlock ≠ some kb := fun e => by have := (h.own hj e).1; have := h.lt; omega
  have hku : u.heap[kb]? = wr.heap[kb]? := hE.block hkr hko
  have hcu : ∀ l, l < n → u.cell? ⟨kb, l, none⟩ = some (vv l) := fun l hl => hE.cell (h.cell l hl) hko
  obtain ⟨vs, hl0, hp0⟩ := h.lst j hj
  obtain ⟨A0, c0, hv0⟩ := hl0.slice
  have hK : Keep u (u.setCell ⟨kb, j, none⟩ v') := Keep.set (hcu j hj) (by rw [hv0]; exact notInt_slice _ _ _) _
  have hb3 : ∀ q, q ≠ kb → (u.setCell ⟨kb, j, none⟩ v').heap[q]? = u.heap[q]? := fun q hq => Below.heap_setCell _ _ _ _ hq
  have hsz : (u.setCell ⟨kb, j, none⟩ v').heap.size = u.heap.size := by simp [World.setCell]
  refine ⟨fun l hl => ?_, fun l => ?_, fun l hl => ?_, fun l m hl hm hlm g hg => ?_, h.lt, h.cpn, ?_, ?_⟩
  · by_cases e : l = j
    · subst e
      simp only [if_true]
      exact World.cell?_setCell_same _ _ _ (hcu l hl)
    · simp only [if_neg e]
      rw [World.cell?_setCell_other _ _ _ _ (by simp <;> omega)]
      exact hcu l hl
  · rw [World.frozen?_setCell, World.frozen?_of_block hku]
    exact h.fro l
  · by_cases e : l = j
    · subst e
      simp only [if_true]
      refine ⟨vs', ?_, hP.keep hK⟩
      rw [List.length_append, List.length_singleton]
      exact hL.same fun g hg hg2 => hb3 g (by have := (hL.own hg2).1; have := h.lt; omega)
    · simp only [if_neg e]
      obtain ⟨ws, k1, k2⟩ := h.lst l hl
      refine ⟨ws, k1.same fun g hg hg2 => ?_, (k2.keep hE.2.1).keep hK⟩
      have hgo := k1.own hg2
      rw [hb3 g (by have := h.lt; omega)]
      exact hE.block hg (fun e2 => h.ne l j hl hj e g hg2 e2)
  · by_cases e1 : l = j
    · subst e1
      rw [if_pos rfl] at hg
      simp only [if_neg (fun e => hlm e.symm : ¬ m = l)]
      rcases ho with ho | ho
      · rw [ho] at hg
        exact h.ne l m hl hm hlm g hg
      · have := ho g hg
        intro e2
        have := (h.own hm e2).2
        omega
    · rw [if_neg e1] at hg
      by_cases e2 : m = j
      · subst e2
        simp only [if_true]
        rcases ho with ho | ho
        · rw [ho]
          exact h.ne l m hl hm hlm g hg
        · intro e3
          have := ho g e3
          have := (h.own hl hg).2
          omega
      · simp only [if_neg e2]
        exact h.ne l m hl hm hlm g hg
  · have hB := hE.1
    refine ⟨hB.os.trans h.grw.os, hB.tape.trans h.grw.tape, hB.output.trans h.grw.output, by rw [hsz]; exact Nat.le_trans h.grw.size hE.size, fun q hq hqk => ?_⟩
    have hqk' : q ≠ kb := fun e => hqk (by rw [e])
    rw [hb3 q hqk', hB.block q hq]
    exact h.grw.block q hq hqk
  · exact (h.keep.trans hE.2.1).trans hK
/-- The numbers of a column, as far as they have been appended. -/
def colQ (t : List (List Fr)) (k j : Nat) : List Rat := (List.range k).map fun i => tabE t i j
theorem colQ_succ (t : List (List Fr)) (k j : Nat) : colQ t (k + 1) j = colQ t k j ++ [tabE t k j] := by
  unfold colQ
  rw [List.range_succ, List.map_append]
  rfl
theorem colQ_len (t : List (List Fr)) (k j : Nat) : (colQ t k j).length = k := by simp [colQ]
end Go.Proofs.Xx
end
section
namespace Go.Proofs.Xx
open Go.RowKit Go.V Go.Grow Lin Go.Txt

set_option maxHeartbeats 2000000 in
set_option maxRecDepth 100000 in
theorem least1_any (gb ga gw n ca mb cb mw cw : Nat) (Aa Ab Aw : Option Addr) (lw : List Fr) (u : World) (h1 : u.cell? ⟨ga, 0, none⟩ = some (.slice Aa n ca)) (h2 : u.cell? ⟨gb, 0, none⟩ = some (.slice Ab mb cb)) (h3 : u.cell? ⟨gw, 0, none⟩ = some (.slice Aw mw cw)) (hw : IsFracs u (.slice Aw mw cw) lw) (hok : badL lw = false) :
    Calls Tryz.prog 66 #[.pointer (some ⟨gb, 0, none⟩), .pointer (some ⟨ga, 0, none⟩), .pointer (some ⟨gw, 0, none⟩)] u fun e u' => e = .returned (.bool (decide (mb = n) && decide (mw = n) && !negL lw)) ∧ Ext u u' := by
  have HN := Lib.hid (negative_any _ lw u hw hok)
  clear hw hok
  generalize negL lw = ng at *
  by_cases k1 : mb = n
  · subst k1
    have d1 : ((mb : Int) == (mb : Int)) = true := beq_self_eq_true _
    by_cases k2 : mw = mb
    · subst k2
      simp only [decide_true, Bool.true_and]
      go_enter Tryz.func66, Tryz.ntmps66
      go_wp2_with fail
      refine HN.out.mono ?_
      rintro e w1 ⟨rfl, hE⟩
      go_wp2
      go_ret
      exact ⟨rfl, hE⟩
    · have d2 : ((mw : Int) == (mb : Int)) = false := beq_eq_false_iff_ne.2 (by omega)
      simp only [decide_true, Bool.true_and, decide_eq_false k2, Bool.false_and]
      go_enter Tryz.func66, Tryz.ntmps66
      go_wp2
      go_ret
      exact ⟨rfl, Ext.refl _⟩
  · have d1 : ((mb : Int) == (n : Int)) = false := beq_eq_false_iff_ne.2 (by omega)
    simp only [decide_eq_false k1, Bool.false_and]
    go_enter Tryz.func66, Tryz.ntmps66
    go_wp2
    go_ret
    exact ⟨rfl, Ext.refl _⟩

/-- A ratio stored into the cell of a result. -/
theorem ratCell (w : World) (w1 : World) {q : Rat} {p : Bool} {A A' : Option Addr} {l c l' c' : Nat} (hE : Ext (w.alloc (.cells #[.bool false, .slice none 0 0, .slice none 0 0] 111)) w1) (h : IsRat w1 (.agg #[.bool p, .slice A l c, .slice A' l' c']) q) :
    IsRat (((w1.setCell ⟨w.heap.size, 0, none⟩ (.bool p)).setCell ⟨w.heap.size, 1, none⟩ (.slice A l c)).setCell ⟨w.heap.size, 2, none⟩ (.slice A' l' c')) (.agg #[.bool p, .slice A l c, .slice A' l' c']) q ∧
    Ext w (((w1.setCell ⟨w.heap.size, 0, none⟩ (.bool p)).setCell ⟨w.heap.size, 1, none⟩ (.slice A l c)).setCell ⟨w.heap.size, 2, none⟩ (.slice A' l' c')) := by
  have hb : Blk w1 w.heap.size [.bool false, .slice none 0 0, .slice none 0 0] := (Blk.new' 111 rfl rfl).ext hE
  exact ⟨IsRat.stored h (hb.cell 0) (hb.cell 1) (hb.cell 2) (notInt_bool _) (notInt_slice _ _ _) (notInt_slice _ _ _) _ _ _, Ext.set3 (Ext.trans _ _ _ (Ext.alloc _ _) hE) (Nat.le_refl _) _ _ _⟩

set_option maxHeartbeats 2000000 in
set_option maxRecDepth 100000 in
theorem least21_any (gw gc : Nat) (vw vc vd : Value) (qw qc qd : List Rat) (m : Nat) (w : World) (h1 : w.cell? ⟨gw, 0, none⟩ = some vw) (h2 : w.cell? ⟨gc, 0, none⟩ = some vc) (hw : IsRats w vw qw) (hc : IsRats w vc qc) (hd : IsRats w vd qd) (lw : qw.length = m) (lc : qc.length = m) (ld : qd.length = m) (hm : m ≤ 1000) (z1 : ∀ q ∈ qw, Sz q 34) (z2 : ∀ q ∈ qc, Sz q 34) (z3 : ∀ q ∈ qd, Sz q 34) :
    Calls Tryz.prog 71 #[vd, .pointer (some ⟨gw, 0, none⟩), .pointer (some ⟨gc, 0, none⟩)] w (Ret (.rat (wsum m (fun i => qw.getD i 0) (fun i => qc.getD i 0) (fun i => qd.getD i 0))) w) := by
  have E0 : Ext w (w.alloc (.cells #[.bool false, .slice none 0 0, .slice none 0 0] 111)) := Ext.alloc _ _
  have HW := Lib.hid (weighted_any vw vc vd qw qc qd m _ (hw.mono E0) (hc.mono E0) (hd.mono E0) lw lc ld hm z1 z2 z3 (by omega))
  obtain ⟨Aw, cw, rfl, _⟩ := hw
  obtain ⟨Ac, cc, rfl, _⟩ := hc
  obtain ⟨Ad, cd, rfl, _⟩ := hd
  generalize wsum m (fun i => qw.getD i 0) (fun i => qc.getD i 0) (fun i => qd.getD i 0) = Z at *
  clear lw lc ld z1 z2 z3 hm
  have hg1 : gw < w.heap.size := World.block_lt_of_cell? w _ h1
  have hg2 : gc < w.heap.size := World.block_lt_of_cell? w _ h2
  go_enter Tryz.func71, Tryz.ntmps71
  go_wp2_with fail
  refine HW.out.mono ?_
  rintro e w1 ⟨v, rfl, hv, hE⟩
  have HV := Lib.hid hv
  obtain ⟨mm, dd, rfl, hmm, hdd⟩ := hv
  obtain ⟨A5, c5, rfl, _⟩ := hmm
  obtain ⟨A6, c6, rfl, _⟩ := hdd
  generalize (mass Z.num.natAbs).length = l5 at *
  generalize (mass Z.den).length = l6 at *
  generalize decide (Z.num < 0) = p5 at *
  have hX := hE.old
  go_wp2
  refine bodyPost_ret (v := .agg #[.bool p5, .slice A5 l5 c5, .slice A6 l6 c6]) (by simp [results, Tryz.results71, go_sem, hX]) rfl ⟨_, rfl, ratCell _ _ hE HV.out⟩
set_option maxHeartbeats 2000000 in
set_option maxRecDepth 100000 in
theorem least3_any (gw gb : Nat) (vw vc vb : Value) (qw qc qb : List Rat) (m : Nat) (w : World) (h1 : w.cell? ⟨gw, 0, none⟩ = some vw) (h2 : w.cell? ⟨gb, 0, none⟩ = some vb) (hw : IsRats w vw qw) (hc : IsRats w vc qc) (hd : IsRats w vb qb) (lw : qw.length = m) (lc : qc.length = m) (ld : qb.length = m) (hm : m ≤ 1000) (z1 : ∀ q ∈ qw, Sz q 34) (z2 : ∀ q ∈ qc, Sz q 34) (z3 : ∀ q ∈ qb, Sz q 34) :
    Calls Tryz.prog 73 #[vc, .pointer (some ⟨gw, 0, none⟩), .pointer (some ⟨gb, 0, none⟩)] w (Ret (.rat (wsum m (fun i => qw.getD i 0) (fun i => qc.getD i 0) (fun i => qb.getD i 0))) w) := by
  have E0 : Ext w (w.alloc (.cells #[.bool false, .slice none 0 0, .slice none 0 0] 111)) := Ext.alloc _ _
  have HW := Lib.hid (weighted_any vw vc vb qw qc qb m _ (hw.mono E0) (hc.mono E0) (hd.mono E0) lw lc ld hm z1 z2 z3 (by omega))
  obtain ⟨Aw, cw, rfl, _⟩ := hw
  obtain ⟨Ac, cc, rfl, _⟩ := hc
  obtain ⟨Ad, cd, rfl, _⟩ := hd
  generalize wsum m (fun i => qw.getD i 0) (fun i => qc.getD i 0) (fun i => qb.getD i 0) = Z at *
  clear lw lc ld z1 z2 z3 hm
  have hg1 : gw < w.heap.size := World.block_lt_of_cell? w _ h1
  have hg2 : gb < w.heap.size := World.block_lt_of_cell? w _ h2
  go_enter Tryz.func73, Tryz.ntmps73
  go_wp2_with fail
  refine HW.out.mono ?_
  rintro e w1 ⟨v, rfl, hv, hE⟩
  have HV := Lib.hid hv
  obtain ⟨mm, dd, rfl, hmm, hdd⟩ := hv
  obtain ⟨A5, c5, rfl, _⟩ := hmm
  obtain ⟨A6, c6, rfl, _⟩ := hdd
  generalize (mass Z.num.natAbs).length = l5 at *
  generalize (mass Z.den).length = l6 at *
  generalize decide (Z.num < 0) = p5 at *
  have hX := hE.old
  go_wp2
  refine bodyPost_ret (v := .agg #[.bool p5, .slice A5 l5 c5, .slice A6 l6 c6]) (by simp [results, Tryz.results73, go_sem, hX]) rfl ⟨_, rfl, ratCell _ _ hE HV.out⟩

set_option maxHeartbeats 2000000 in
set_option maxRecDepth 100000 in
/-- One row of the products' table. -/
theorem least2_any (gk gw : Nat) (vk vw vc : Value) (n m : Nat) (vv : Nat → Value) (qs : Nat → List Rat) (qw qc : List Rat) (w : World) (h1 : w.cell? ⟨gk, 0, none⟩ = some vk) (h2 : w.cell? ⟨gw, 0, none⟩ = some vw) (hk : IsL w vk n vv) (hq : ∀ l, l < n → IsRats w (vv l) (qs l)) (hw : IsRats w vw qw) (hc : IsRats w vc qc) (lw : qw.length = m) (lc : qc.length = m) (ls : ∀ l, l < n → (qs l).length = m) (hm : m ≤ 1000) (hn : n ≤ 1000)
    (z1 : ∀ q ∈ qw, Sz q 34) (z2 : ∀ q ∈ qc, Sz q 34) (z3 : ∀ l, l < n → ∀ q ∈ qs l, Sz q 34) :
    Calls Tryz.prog 69 #[vc, .pointer (some ⟨gk, 0, none⟩), .pointer (some ⟨gw, 0, none⟩)] w fun e w' => ∃ r, e = .returned (.slice (some ⟨r, 0, none⟩) n n) ∧ w.heap.size ≤ r ∧ r < w'.heap.size ∧ RRow w' r n (fun _ => True) (fun l => wsum m (fun i => qw.getD i 0) (fun i => qc.getD i 0) (fun i => (qs l).getD i 0)) ∧ Ext w w' := by
  have E0 : Ext w (w.alloc (.cells #[vc] 83)) := Ext.alloc _ _
  have hb : Blk (w.alloc (.cells #[vc] 83)) w.heap.size [vc] := Blk.new' 83 rfl rfl
  have HM := Lib.hid (mappedVR_any 71 #[.pointer (some ⟨gw, 0, none⟩), .pointer (some ⟨w.heap.size, 0, none⟩)] (enters_of Tryz.func71 (by kernel_rfl) rfl) vk n vv (fun l => wsum m (fun i => qw.getD i 0) (fun i => qc.getD i 0) (fun i => (qs l).getD i 0)) _ (hk.mono E0) (by omega) (fun l w' hl hE =>
    least21_any gw w.heap.size vw vc (vv l) qw qc (qs l) m w' (hE.cell (E0.cell h2)) (hE.cell (hb.cell 0)) ((hw.mono E0).mono hE) ((hc.mono E0).mono hE) (((hq l hl).mono E0).mono hE) lw lc (ls l hl) hm z1 z2 (z3 l hl)))
  obtain ⟨Ak, ck, rfl, _⟩ := hk
  obtain ⟨Ac, cc, rfl, _⟩ := hc
  generalize (fun l => wsum m (fun i => qw.getD i 0) (fun i => qc.getD i 0) (fun i => (qs l).getD i 0)) = Z at *
  clear hq hw lw lc ls hm hn z1 z2 z3 hb
  have hg1 : gk < w.heap.size := World.block_lt_of_cell? w _ h1
  clear h2
  go_enter Tryz.func69, Tryz.ntmps69
  go_wp2_with fail
  refine HM.out.mono ?_
  rintro e w1 ⟨rfl, hR, hE⟩
  have HR := Lib.hid hR
  clear hR
  go_wp2
  go_ret
  have hR := HR.out
  rw [show (w.alloc (.cells #[.slice Ac qc.length cc] 83)).heap.size = w.heap.size + 1 by simp] at hR
  exact ⟨_, rfl, by omega, hR.lt, hR, Ext.trans _ _ _ E0 hE⟩
end Go.Proofs.Xx
end
section
namespace Go.V
open Go.RowKit
/-- A block that reads as what is appended stays. -/
theorem ED.same {N : Nat} {e : TypeId} {ob : Option Nat} {cs bs : List Value} {w w' : World} (h : ED N e ob cs bs w w') {q : Nat} (hq : Blk w q bs) : Blk w' q bs := by
  obtain ⟨T, hT⟩ := hq
  rcases h.2.2 q (Array.getElem?_eq_some_iff.1 hT).1 with x | ⟨_, sp, sp', x1, x2, x3, _⟩
  · exact ⟨T, x.trans hT⟩
  · have e1 := cells_inj (hT.symm.trans x1)
    have e2 := congrArg List.length e1
    rw [List.length_append] at e2
    have h1 : cs = [] := List.eq_nil_of_length_eq_zero (by omega)
    have h2 : sp' = [] := List.eq_nil_of_length_eq_zero (by omega)
    subst h1 h2
    exact ⟨e, by simpa using x2⟩
theorem IsTab.two {w : World} {g : Nat} {v1 v2 : Value} {l1 l2 : List Fr} (hb : Blk w g [v1, v2]) (h1 : IsFracs w v1 l1) (h2 : IsFracs w v2 l2) : IsTab w (.slice (some ⟨g, 0, none⟩) 2 2) [l1, l2] := by
  refine ⟨_, _, rfl, Nat.le_refl _, by decide, .inr ⟨g, 0, rfl, fun i l hl => ?_⟩⟩
  match i, hl with
  | 0, hl => cases hl; exact ⟨v1, hb.cell 0, h1⟩
  | 1, hl => cases hl; exact ⟨v2, hb.cell 1, h2⟩
theorem IsTab.three {w : World} {g : Nat} {v1 v2 v3 : Value} {l1 l2 l3 : List Fr} (hb : Blk w g [v1, v2, v3]) (h1 : IsFracs w v1 l1) (h2 : IsFracs w v2 l2) (h3 : IsFracs w v3 l3) : IsTab w (.slice (some ⟨g, 0, none⟩) 3 3) [l1, l2, l3] := by
  refine ⟨_, _, rfl, Nat.le_refl _, by decide, .inr ⟨g, 0, rfl, fun i l hl => ?_⟩⟩
  match i, hl with
  | 0, hl => cases hl; exact ⟨v1, hb.cell 0, h1⟩
  | 1, hl => cases hl; exact ⟨v2, hb.cell 1, h2⟩
  | 2, hl => cases hl; exact ⟨v3, hb.cell 2, h3⟩
/-- A store into a variable that held nil leaves lists of ratios as they are. -/
theorem IsRats.setOne {w : World} {v : Value} {qs : List Rat} (h : IsRats w v qs) {g : Nat} (hb : Blk w g [.slice none 0 0]) (y : Value) : IsRats (w.setCell ⟨g, 0, none⟩ y) v qs := by
  have hK : Keep w (w.setCell ⟨g, 0, none⟩ y) := Keep.set (hb.cell 0) (notInt_slice _ _ _) _
  obtain ⟨A, c, h1, h2, h3, h4⟩ := h
  refine ⟨A, c, h1, h2, h3, ?_⟩
  rcases h4 with h4 | ⟨b, o, h5, h6⟩
  · exact .inl h4
  · refine .inr ⟨b, o, h5, fun i q hq => ?_⟩
    obtain ⟨p, m, d, k1, k2, k3, k4⟩ := h6 i q hq
    have hbg : b ≠ g := by
      rintro rfl
      rw [hb.cell] at k1
      match o + i * 3, k1 with
      | 0, k1 => cases k1
      | _ + 1, k1 => simp at k1
    have hc : ∀ j, (w.setCell ⟨g, 0, none⟩ y).cell? ⟨b, j, none⟩ = w.cell? ⟨b, j, none⟩ := fun j => World.cell?_setCell_other _ _ _ _ (by simp <;> omega)
    exact ⟨p, m, d, by rw [hc]; exact k1, by rw [hc]; exact k2, by rw [hc]; exact k3, k4.keep hK⟩
end Go.V
namespace Go.Proofs.Xx
open Go.RowKit Go.V Go.Grow Lin Go.Txt
theorem Cols.congr {wb wr : World} {kb cp n : Nat} {qs qs' : Nat → List Rat} {vv : Nat → Value} (h : Cols wb wr kb cp n qs vv) (e : ∀ l, l < n → qs' l = qs l) : Cols wb wr kb cp n qs' vv :=
  ⟨h.cell, h.fro, fun l hl => by rw [e l hl]; exact h.lst l hl, h.ne, h.lt, h.cpn, h.grw, h.keep⟩
theorem Cols.init {wb : World} {kb cp n : Nat} (t : List (List Fr)) (hb : Blk wb kb (List.replicate n (.slice none 0 0))) (h1 : cp ≠ kb) (h2 : cp < wb.heap.size) : Cols wb wb kb cp n (colQ t 0) (fun _ => .slice none 0 0) :=
  ⟨fun j hj => by rw [hb.cell, List.getElem?_replicate, if_pos hj], fun j => hb.frozen j, fun j hj => ⟨[], Lst.nil _ _ _ _, ⟨rfl, fun i q hq => by simp [colQ] at hq⟩⟩, (fun j l _ _ _ g hg => by cases hg), hb.lt, ⟨h1, h2⟩, ⟨rfl, rfl, rfl, Nat.le_refl _, fun _ _ _ => rfl⟩, Keep.refl _⟩
theorem Cols.ext {w wb wr : World} {kb cp n : Nat} {qs : Nat → List Rat} {vv : Nat → Value} (h : Cols wb wr kb cp n qs vv) (hE : Ext w wb) (hk : w.heap.size ≤ kb) : Ext w wr :=
  ⟨h.grw.os.trans hE.os, h.grw.tape.trans hE.tape, h.grw.output.trans hE.output, Nat.le_trans hE.size h.grw.size, fun q hq => (h.grw.block q (Nat.lt_of_lt_of_le hq hE.size) (fun e => by
    have := Option.some.inj e
    omega)).trans (hE.block q hq)⟩
theorem Cols.move {wb wr w3 : World} {kb cp n : Nat} {qs : Nat → List Rat} {vv : Nat → Value} (h : Cols wb wr kb cp n qs vv) (hE : Ext wr w3) : Cols wb w3 kb cp n qs vv :=
  ⟨fun j hj => hE.cell (h.cell j hj), fun j => (World.frozen?_of_block (hE.block kb (Nat.lt_of_lt_of_le h.lt h.grw.size))).trans (h.fro j), fun j hj => by
    obtain ⟨vs, k1, k2⟩ := h.lst j hj
    exact ⟨vs, k1.ext hE, k2.keep hE.keep⟩, h.ne, h.lt, h.cpn, ⟨hE.os.trans h.grw.os, hE.tape.trans h.grw.tape, hE.output.trans h.grw.output, Nat.le_trans h.grw.size hE.size, fun q hq hk => (hE.block q (Nat.lt_of_lt_of_le hq h.grw.size)).trans (h.grw.block q hq hk)⟩, h.keep.trans hE.keep⟩
/-- The columns, as lists of ratios. -/
theorem Cols.rats {wb wr : World} {kb cp n : Nat} {qs : Nat → List Rat} {vv : Nat → Value} (h : Cols wb wr kb cp n qs vv) {j : Nat} (hj : j < n) (h0 : 0 < (qs j).length) : IsRats wr (vv j) (qs j) := by
  obtain ⟨vs, k1, k2⟩ := h.lst j hj
  exact Lst.rats k1 k2 h0
theorem Cols.isL {wb wr : World} {kb cp n : Nat} {qs : Nat → List Rat} {vv : Nat → Value} (h : Cols wb wr kb cp n qs vv) (hn : n ≤ 1000) : IsL wr (.slice (some ⟨kb, 0, none⟩) n n) n vv :=
  ⟨_, _, rfl, Nat.le_refl _, by unfold maxLen; omega, .inr ⟨kb, 0, rfl, fun i hi => by rw [Nat.zero_add]; exact h.cell i hi⟩⟩
theorem wsum_congr {m : Nat} {w w' x x' y y' : Nat → Rat} (h1 : ∀ i, i < m → w i = w' i) (h2 : ∀ i, i < m → x i = x' i) (h3 : ∀ i, i < m → y i = y' i) : wsum m w x y = wsum m w' x' y' := by
  unfold wsum
  exact rsum_congr fun i hi => by rw [h1 i hi, h2 i hi, h3 i hi]
theorem colQ_get (t : List (List Fr)) {m i j : Nat} (hi : i < m) : (colQ t m j).getD i 0 = tabE t i j := by
  unfold colQ
  rw [List.getD_eq_getElem?_getD, List.getElem?_map, List.getElem?_range hi]
  rfl
/-- The normal equations that Least sets up. -/
def leastA (t : List (List Fr)) (b w : List Fr) : Nat → Nat → Rat :=
  augA (fun j => (List.range (t.headD []).length).map fun k => wsum t.length (lisE w) (fun i => tabE t i j) (fun i => tabE t i k)) ((List.range (t.headD []).length).map fun j => wsum t.length (lisE w) (fun i => tabE t i j) (lisE b))
theorem if_three (p q : Prop) [Decidable p] [Decidable q] (ng : Bool) (X : List Fr × Int) : (if ¬ (p ∧ q ∧ ng = false) then ([], 2) else X) = if (if (decide p && decide q && !ng) = false then (2 : Int) else 0) = 0 then X else ([], if (decide p && decide q && !ng) = false then 2 else 0) := by
  by_cases h1 : p <;> by_cases h2 : q <;> cases ng <;> simp [h1, h2]
theorem leastC_eq (t : List (List Fr)) (b w : List Fr) : leastC t b w = if fitsE t [b, w] (decide (b.length = t.length) && decide (w.length = t.length) && !negL w) = 0 then solC (t.headD []).length (leastA t b w) else ([], fitsE t [b, w] (decide (b.length = t.length) && decide (w.length = t.length) && !negL w)) := by
  unfold leastC fitsE
  cases okT t
  · rfl
  · simp only [Bool.true_eq_false, if_false, List.any_cons, List.any_nil, Bool.or_false]
    cases badL b || badL w
    · simp only [Bool.false_eq_true, if_false]
      exact if_three _ _ _ _
    · rfl
/-- A number of a table. -/
theorem tabE_sz {t : List (List Fr)} (h : okT t = true) {i : Nat} (hi : i < t.length) (j : Nat) (hj : j < (t.headD []).length) : Sz (tabE t i j) 34 := by
  obtain ⟨l, g1, g2, g3, g4⟩ := okT_row h hi
  unfold tabE tabR
  rw [g2, List.getD_eq_getElem?_getD, List.getElem?_eq_getElem (by rw [List.length_map]; omega), Option.getD_some, List.getElem_map]
  exact okFr_sz34 (List.all_eq_true.1 g4 _ (List.getElem_mem _))
theorem frs_sz {l : List Fr} (h : l.all okFr = true) : ∀ q ∈ l.map frQ, Sz q 34 := fun q hq => by
  obtain ⟨x, hx, rfl⟩ := List.mem_map.1 hq
  exact okFr_sz34 (List.all_eq_true.1 h x hx)
end Go.Proofs.Xx
end
