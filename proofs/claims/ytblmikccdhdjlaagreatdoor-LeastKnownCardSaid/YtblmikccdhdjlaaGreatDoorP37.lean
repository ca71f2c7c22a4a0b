/- A part of the proof: the texts W57, W58. -/
import Derived.Test.YtblmikccdhdjlaaGreatDoorP21
import Derived.Test.YtblmikccdhdjlaaGreatDoorP36
set_option linter.unusedVariables false
set_option linter.unusedSimpArgs false
section
namespace Go.Proofs.Xx
open Go.RowKit Go.V Go.Grow Lin Go.Txt

theorem not_nil_vals (a : Addr) (n c : Nat) (W : World) : (binOp .eql 83 (.slice (some a) n c) (.slice none 0 0)).run Tryz.prog W = .ok (.bool false) W := by kernel_rfl
theorem ratCells_mem {vs : List (Bool × Value × Value)} {x : Value} (h : x ∈ ratCells vs) : ∃ p ∈ vs, x = .bool p.1 ∨ x = p.2.1 ∨ x = p.2.2 := by
  unfold ratCells at h
  rw [List.mem_flatMap] at h
  obtain ⟨p, h1, h2⟩ := h
  refine ⟨p, h1, ?_⟩
  simpa using h2
/-- vs are the parts of the ratios qs. -/
def Parts (w : World) (vs : List (Bool × Value × Value)) (qs : List Rat) : Prop := vs.length = qs.length ∧ ∀ (i : Nat) (q : Rat), qs[i]? = some q → ∃ p : Bool × Value × Value, vs[i]? = some p ∧ IsRat w (.agg #[.bool p.1, p.2.1, p.2.2]) q
theorem Parts.keep {w w' : World} {vs : List (Bool × Value × Value)} {qs : List Rat} (h : Parts w vs qs) (hK : Keep w w') : Parts w' vs qs := ⟨h.1, fun i q hq => by
  obtain ⟨p, k1, k2⟩ := h.2 i q hq
  exact ⟨p, k1, k2.keep hK⟩⟩
theorem Parts.cell {w : World} {vs : List (Bool × Value × Value)} {qs : List Rat} (h : Parts w vs qs) : ∀ u ∈ ratCells vs, u.oneCell' = true ∧ NotU u := by
  intro u hu
  obtain ⟨p, hp, e⟩ := ratCells_mem hu
  obtain ⟨i, hi⟩ := List.mem_iff_getElem?.1 hp
  have hlt := (List.getElem?_eq_some_iff.1 hi).1
  rw [h.1] at hlt
  obtain ⟨p', k1, k2⟩ := h.2 i _ (List.getElem?_eq_getElem hlt)
  rw [hi] at k1
  cases k1
  obtain ⟨_, hm, hd⟩ := k2.parts
  rcases e with e | e | e
  · rw [e]; exact ⟨rfl, (notInt_bool _).u⟩
  · rw [e]; exact ⟨mass_one hm, hm.notInt.u⟩
  · rw [e]; exact ⟨mass_one hd, hd.notInt.u⟩
theorem ratZero_notU : ∀ u ∈ (Value.agg #[.bool false, .slice none 0 0, .slice none 0 0]).cells, NotU u := by
  intro u hu
  simp [Value.cells] at hu
  rcases hu with rfl | rfl
  · exact (notInt_bool _).u
  · exact (notInt_slice _ _ _).u
/-- append of ratios. -/
theorem app_rats {w : World} {B : Nat} {v : Value} {n : Nat} {xs : List Value} (h : Lst w B 111 3 v n xs) (a : Addr) (m c : Nat) (news : List Value) (hl : news.length = m * 3) (hnews : ∀ j u, news[j]? = some u → w.cell? (a.add j) = some u) (h1 : ∀ u ∈ news, u.oneCell' = true ∧ NotU u) (hm : 0 < m) (hb : n + m ≤ 1099511627776) (hB : B ≤ w.heap.size) (t ty : TypeId) (ht : Tryz.prog.underlying t = some (.slice 111)) :
    ∃ v' w', (Builtin.append_ #[t, t] ty #[v, .slice (some a) m c]).run Tryz.prog w = .ok v' w' ∧ Lst w' B 111 3 v' (n + m) (xs ++ news) ∧ Keep w w' ∧ w.grownBy w' v.ownBlock ∧ (v'.ownBlock = v.ownBlock ∨ v'.ownBlock = some w.heap.size) ∧
      ∀ g, v.ownBlock = some g → w'.heap[g]? = w.heap[g]? ∨ ∃ sp sp', w.heap[g]? = some (.cells (xs ++ sp).toArray 111 (0, 0)) ∧ w'.heap[g]? = some (.cells (xs ++ (news ++ sp')).toArray 111 (0, 0)) ∧ sp.length = news.length + sp'.length ∧ ∀ u ∈ sp', NotU u := by
  obtain ⟨i0, hi, hzz⟩ := Option.map_eq_some_iff.1 infoRat
  simp only [Prod.mk.injEq] at hzz
  obtain ⟨hz0, hz1, hz2⟩ := hzz
  exact Lst.append h t ty i0 _ 56 ht hi hz0 hz1 hz2 rfl (by decide) ratZero_notU a m c news hl hnews (fun u hu => (h1 u hu).1) (fun u hu => (h1 u hu).2) hm (by unfold maxLen; omega) (by omega) hB

set_option maxRecDepth 100000 in
theorem clone_vals (b o c : Nat) (vs : List (Bool × Value × Value)) (qs : List Rat) (w : World) (hP : Parts w vs qs) (hc : ∀ j u, (ratCells vs)[j]? = some u → w.cell? ⟨b, o + j, none⟩ = some u) (hn : 0 < qs.length) (hlen : qs.length ≤ 1000000000) :
    Calls Tryz.prog 126 #[.slice (some ⟨b, o, none⟩) qs.length c] w fun e w' => ∃ v, e = .returned v ∧ Lst w' w.heap.size 111 3 v qs.length (ratCells vs) ∧ Ext w w' := by
  have E1 : Ext w (w.alloc (.cells (#[] : Array Value) 111)) := Ext.alloc _ _
  have hL0 : Lst (w.alloc (.cells (#[] : Array Value) 111)) w.heap.size 111 3 (.slice (some ⟨w.heap.size, 0, none⟩) 0 0) 0 [] := by
    refine ⟨rfl, fun u hu => by simp at hu, .inr ⟨w.heap.size, 0, [], rfl, Nat.le_refl _, heap_alloc_new w _, rfl, fun u hu => by simp at hu, Nat.zero_le _⟩⟩
  obtain ⟨v', W, hr, h1, h2, h3, h4, _⟩ := app_rats hL0 ⟨b, o, none⟩ qs.length c (ratCells vs) (by rw [ratCells_length, hP.1]) (fun j u hu => by
    rw [show (⟨b, o, none⟩ : Addr).add j = ⟨b, o + j, none⟩ by unfold Addr.add; split <;> simp_all]
    exact E1.cell (hc j u hu)) hP.cell hn (by omega) (by simp) 83 83 Tryz.underlying83
  rw [Nat.zero_add, List.nil_append] at h1
  have HR := Lib.hid hr
  have HL := Lib.hid h1
  have EW : Ext w W := ⟨h3.os.trans rfl, h3.tape.trans rfl, h3.output.trans rfl, Nat.le_trans (by simp) h3.size, fun k hk => (h3.block k (by simp; omega) (fun e => by
    have : k = w.heap.size := by simpa [Value.ownBlock] using e
    omega)).trans (E1.block k hk)⟩
  have HEW := Lib.hid EW
  have hE := not_nil_vals ⟨b, o, none⟩ qs.length c
  clear hr h1 h2 h3 h4 EW hL0 E1 hP hc
  go_enter Tryz.func126, Tryz.ntmps126
  go_wp2_with (first | (at_builtin; refine wp_app rfl _ _ _ rfl rfl rfl HR.out ?_) | go_in)
  go_ret
  exact ⟨_, rfl, HL.out, HEW.out⟩
end Go.Proofs.Xx
end
section
namespace Go.Proofs.Xx
open Go.RowKit Go.V Go.Grow Lin Go.Txt

/-- A list of the call's own that reads as ratios. -/
theorem Lst.rats {w : World} {B : Nat} {v : Value} {vs : List (Bool × Value × Value)} {qs : List Rat} (h : Lst w B 111 3 v qs.length (ratCells vs)) (hP : Parts w vs qs) (hn : 0 < qs.length) : IsRats w v qs := by
  obtain ⟨g, c, rfl, hm, _, _, hc, _⟩ := h.cell hn
  refine ⟨_, _, rfl, Nat.le_add_right _ _, hm, .inr ⟨g, 0, rfl, fun i q hq => ?_⟩⟩
  obtain ⟨p, k1, k2⟩ := hP.2 i q hq
  obtain ⟨g1, g2, g3⟩ := ratCells_get vs i
  rw [k1] at g1 g2 g3
  rw [Nat.zero_add]
  exact ⟨p.1, p.2.1, p.2.2, hc _ _ g1, hc _ _ g2, hc _ _ g3, k2⟩
theorem Parts.snoc {w : World} {vs : List (Bool × Value × Value)} {qs : List Rat} (h : Parts w vs qs) {p : Bool × Value × Value} {q : Rat} (hp : IsRat w (.agg #[.bool p.1, p.2.1, p.2.2]) q) : Parts w (vs ++ [p]) (qs ++ [q]) := by
  refine ⟨by simp [h.1], fun i x hx => ?_⟩
  by_cases hi : i < qs.length
  · rw [List.getElem?_append_left hi] at hx
    obtain ⟨p', k1, k2⟩ := h.2 i x hx
    exact ⟨p', by rw [List.getElem?_append_left (by rw [h.1]; exact hi)]; exact k1, k2⟩
  · rw [List.getElem?_append_right (by omega)] at hx
    have hl := (List.getElem?_eq_some_iff.1 hx).1
    have h0 : i - qs.length = 0 := by simpa using hl
    rw [h0] at hx
    simp at hx
    subst hx
    refine ⟨p, ?_, hp⟩
    rw [List.getElem?_append_right (by rw [h.1]; omega), h.1, h0]
    rfl
theorem ratCells_snoc (vs : List (Bool × Value × Value)) (p : Bool × Value × Value) : ratCells (vs ++ [p]) = ratCells vs ++ [.bool p.1, p.2.1, p.2.2] := by
  unfold ratCells
  rw [List.flatMap_append]
  rfl
/-- Where the rows of a system lie. -/
def slices (rb : Nat → Nat) (n i : Nat) : List Value := (List.range i).map fun j => .slice (some ⟨rb j, 0, none⟩) n n
theorem slices_succ (rb : Nat → Nat) (n i : Nat) : slices rb n (i + 1) = slices rb n i ++ [.slice (some ⟨rb i, 0, none⟩) n n] := by
  unfold slices
  rw [List.range_succ, List.map_append]
  rfl
theorem slices_congr {rb rb' : Nat → Nat} {n i : Nat} (h : ∀ j, j < i → rb j = rb' j) : slices rb n i = slices rb' n i := by
  unfold slices
  refine List.map_congr_left fun j hj => ?_
  rw [h j (List.mem_range.1 hj)]
theorem slices_length (rb : Nat → Nat) (n i : Nat) : (slices rb n i).length = i := by simp [slices]
theorem slices_get (rb : Nat → Nat) (n i j : Nat) (h : j < i) : (slices rb n i)[j]? = some (.slice (some ⟨rb j, 0, none⟩) n n) := by
  unfold slices
  rw [List.getElem?_map, List.getElem?_range h]
  rfl
/-- What holds while the rows of a system are laid. -/
structure SI (w wr : World) (tb n i : Nat) (M : Nat → Nat → Int) (rv : Value) (rb : Nat → Nat) : Prop where
  cell : wr.cell? ⟨tb, 0, none⟩ = some rv
  fro : wr.frozen? ⟨tb, 0, none⟩ = false
  lst : Lst wr (tb + 1) 80 1 rv i (slices rb (n + 1) i)
  row : ∀ j, j < i → NRow wr (rb j) (n + 1) (M j)
  up : ∀ j, j < i → tb < rb j
  inj : ∀ j l, j < l → l < i → rb j < rb l
  ext : Ext w wr
  nil : i = 0 → rv = .slice none 0 0
theorem infoNums : (Tryz.prog.info? 80).map (fun i => (i.zero, i.size, i.bytes)) = some (some (.slice none 0 0), 1, 24) := by kernel_rfl
/-- One row more. -/
theorem SI.step {w wr w1 : World} {tb n i r h2 : Nat} {M : Nat → Nat → Int} {rv : Value} {rb : Nat → Nat} (h : SI w wr tb n i M rv rb) (hw : w.heap.size ≤ tb) (hB : Below wr.heap.size wr w1) (hK : Keep wr w1) (hr : wr.heap.size ≤ r) (hN : NRow w1 r (n + 1) (M i)) (hx : Blk w1 h2 [.slice (some ⟨r, 0, none⟩) (n + 1) (n + 1)]) (hi : i ≤ 1000000) (t ty : TypeId) (ht : Tryz.prog.underlying t = some (.slice 80)) :
    ∃ v' w2, (Builtin.append_ #[t, t] ty #[rv, .slice (some ⟨h2, 0, none⟩) 1 1]).run Tryz.prog w1 = .ok v' w2 ∧ w2.cell? ⟨tb, 0, none⟩ = some rv ∧ w2.frozen? ⟨tb, 0, none⟩ = false ∧ (∃ A c, v' = .slice A (i + 1) c) ∧ SI w (w2.setCell ⟨tb, 0, none⟩ v') tb n (i + 1) M v' (fun j => if j = i then r else rb j) := by
  obtain ⟨i0, hi0, hzz⟩ := Option.map_eq_some_iff.1 infoNums
  simp only [Prod.mk.injEq] at hzz
  obtain ⟨hz0, hz1, hz2⟩ := hzz
  have htl : tb < wr.heap.size := World.block_lt_of_cell? wr _ h.cell
  have hL1 : Lst w1 (tb + 1) 80 1 rv i (slices rb (n + 1) i) := h.lst.same fun g hg _ => hB.block g hg
  have hsz := hB.size
  obtain ⟨v', w2, k1, k2, k3, k4, k5, _⟩ := Lst.append hL1 t ty i0 _ 24 ht hi0 hz0 hz1 hz2 rfl (by decide) (fun u hu => by
    simp [Value.cells] at hu; subst hu; exact (notInt_slice _ _ _).u) ⟨h2, 0, none⟩ 1 1 [.slice (some ⟨r, 0, none⟩) (n + 1) (n + 1)] rfl (fun j u hu => by
    rw [add0, hx.cell]; exact hu) (fun u hu => by simp at hu; subst hu; rfl) (fun u hu => by simp at hu; subst hu; exact (notInt_slice _ _ _).u) (by decide) (by unfold maxLen; omega) (by omega) (by omega)
  have ho : ∀ g, rv.ownBlock = some g → tb + 1 ≤ g := fun g hg => (hL1.own hg).1
  -- the list's block is no row
  have hne : ∀ (q : Nat) (z : Nat → Int), NRow w1 q (n + 1) z → rv.ownBlock ≠ some q := fun q z hq hg => by
    rcases Nat.eq_zero_or_pos i with e | e
    · rw [h.nil e] at hg
      cases hg
    · obtain ⟨g, c, e2, _, _, _, hc, _⟩ := hL1.cell e
      rw [e2] at hg
      cases hg
      obtain ⟨p, m, y1, _⟩ := hq.get (j := 0) (by omega)
      have := hc 0 _ (slices_get rb (n + 1) i 0 e)
      rw [Nat.zero_mul, this] at y1
      cases y1
  have hb1 : ∀ q, q < wr.heap.size → w1.heap[q]? = wr.heap[q]? := fun q hq => hB.block q hq
  have hb2 : ∀ q, q < w1.heap.size → rv.ownBlock ≠ some q → w2.heap[q]? = w1.heap[q]? := fun q hq hn => k4.block q hq (fun e => hn e.symm)
  have htn : rv.ownBlock ≠ some tb := fun e => by have := ho tb e; omega
  have c2 : w2.cell? ⟨tb, 0, none⟩ = some rv := by
    rw [World.cell?_of_block (w := w1) (hb2 tb (by omega) htn), World.cell?_of_block (w := wr) (hb1 tb htl)]
    exact h.cell
  have f2 : w2.frozen? ⟨tb, 0, none⟩ = false := by
    rw [World.frozen?_of_block (w := w1) (hb2 tb (by omega) htn), World.frozen?_of_block (w := wr) (hb1 tb htl)]
    exact h.fro
  obtain ⟨A0, c0, hrv⟩ := h.lst.slice
  have hK3 : Keep w2 (w2.setCell ⟨tb, 0, none⟩ v') := Keep.set c2 (by rw [hrv]; exact notInt_slice _ _ _) _
  have hb3 : ∀ q, q ≠ tb → (w2.setCell ⟨tb, 0, none⟩ v').heap[q]? = w2.heap[q]? := fun q hq => Below.heap_setCell _ _ _ _ hq
  have hrows : ∀ q z, NRow w1 q (n + 1) z → q ≠ tb → NRow (w2.setCell ⟨tb, 0, none⟩ v') q (n + 1) z := fun q z hq hqt => (hq.keep (hb2 q hq.lt (hne q z hq)) k3).keep (hb3 q hqt) hK3
  have hw1 : ∀ j, j < i → NRow w1 (rb j) (n + 1) (M j) := fun j hj => (h.row j hj).keep (hb1 _ (h.row j hj).lt) hK
  obtain ⟨A1, c1, hv1⟩ := k2.slice
  refine ⟨v', w2, k1, c2, f2, ⟨A1, c1, hv1⟩, ⟨World.cell?_setCell_same _ _ _ c2, ?_, ?_, fun j hj => ?_, fun j hj => ?_, fun j l hjl hl => ?_, ?_, fun e => by omega⟩⟩
  · rw [World.frozen?_setCell]; exact f2
  · rw [slices_succ, slices_congr (rb := fun j => if j = i then r else rb j) (rb' := rb) (fun j hj => by simp; omega)]
    simp only [if_pos rfl]
    exact k2.same fun g hg hg2 => hb3 g (by have := (k2.own hg2).1; omega)
  · show NRow _ (if j = i then r else rb j) (n + 1) (M j)
    by_cases e : j = i
    · subst e
      rw [if_pos rfl]
      exact hrows r _ hN (by omega)
    · rw [if_neg e]
      have := h.up j (by omega)
      exact hrows _ _ (hw1 j (by omega)) (by omega)
  · show tb < (if j = i then r else rb j)
    split
    · omega
    · exact h.up j (by omega)
  · show (if j = i then r else rb j) < (if l = i then r else rb l)
    rw [if_neg (by omega : j ≠ i)]
    split
    · have := (h.row j (by omega)).lt; omega
    · exact h.inj j l hjl (by omega)
  · refine Ext.set ?_ hw _
    have e1 : Ext w w1 := Ext.trans _ _ _ h.ext hB
    exact ⟨k4.os.trans e1.os, k4.tape.trans e1.tape, k4.output.trans e1.output, Nat.le_trans e1.size k4.size, fun q hq => (hb2 q (Nat.lt_of_lt_of_le hq e1.size) (fun e => by have := ho q e; omega)).trans (e1.block q hq)⟩
end Go.Proofs.Xx
end
