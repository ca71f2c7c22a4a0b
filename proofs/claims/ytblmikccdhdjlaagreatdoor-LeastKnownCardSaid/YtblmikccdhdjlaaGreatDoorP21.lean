/- A part of the proof: the texts XEC, XSS, W42, XRoE. -/
import Derived.Test.YtblmikccdhdjlaaGreatDoorP20
import Derived.Test.YtblmikccdhdjlaaGreatDoorP14
set_option linter.unusedVariables false
set_option linter.unusedSimpArgs false
section
namespace Go.V
open Go.RowKit
/-- What the operations of one statement may do, one of which appends bs to lists that begin with cs. -/
def EC (N : Nat) (e : TypeId) (cs bs : List Value) (w w' : World) : Prop := Below N w w' ∧ Keep w w' ∧ ∀ h, h < w.heap.size → w'.heap[h]? = w.heap[h]? ∨ ∃ sp sp', w.heap[h]? = some (.cells (cs ++ sp).toArray e (0, 0)) ∧ w'.heap[h]? = some (.cells (cs ++ (bs ++ sp')).toArray e (0, 0)) ∧ sp.length = bs.length + sp'.length ∧ ∀ u ∈ sp', NotU u
section
variable {N : Nat} {e : TypeId} {cs bs : List Value}
theorem EC.refl (w : World) : EC N e cs bs w w := ⟨Below.refl _ _, Keep.refl w, fun _ _ => .inl rfl⟩
theorem cells_inj {a b : List Value} {e : TypeId} {T : TypeId} {f g : Nat × Nat} (h : some (Obj.cells a.toArray e f) = some (Obj.cells b.toArray T g)) : a = b := by
  simp only [Option.some.injEq, Obj.cells.injEq] at h
  have := congrArg Array.toList h.1
  simpa using this
theorem EC.trans (a b c : World) (h : EC N e cs bs a b) (k : EC N e cs bs b c) : EC N e cs bs a c := by
  obtain ⟨h1, h2, h3⟩ := h
  obtain ⟨k1, k2, k3⟩ := k
  refine ⟨h1.trans k1, h2.trans k2, fun q hq => ?_⟩
  have hq2 : q < b.heap.size := Nat.lt_of_lt_of_le hq h1.size
  rcases k3 q hq2 with y | ⟨sp2, sp2', y1, y2, y3, y4⟩
  · rcases h3 q hq with x | ⟨sp, sp', x1, x2, x3, x4⟩
    · exact .inl (y.trans x)
    · exact .inr ⟨sp, sp', x1, y.trans x2, x3, x4⟩
  · rcases h3 q hq with x | ⟨sp, sp', x1, x2, x3, x4⟩
    · exact .inr ⟨sp2, sp2', x ▸ y1, y2, y3, y4⟩
    · refine .inr ⟨sp, sp2', x1, y2, ?_, y4⟩
      have e1 := cells_inj (x2.symm.trans y1)
      have e2 := congrArg List.length (List.append_cancel_left e1)
      rw [List.length_append] at e2
      omega
theorem EC.ofExt {w w' : World} (h : Ext w w') (hN : N ≤ w.heap.size) : EC N e cs bs w w' := ⟨h.mono hN, h.keep, fun q hq => .inl (h.block q hq)⟩
theorem EC.size {w w' : World} (h : EC N e cs bs w w') : w.heap.size ≤ w'.heap.size := h.1.size
/-- A block of another look stays. -/
theorem EC.stays {w w' : World} (h : EC N e cs bs w w') {q : Nat} {X : List Value} {T : TypeId} (hq : w.heap[q]? = some (.cells X.toArray T (0, 0))) (hX : ∀ sp, bs.length ≤ sp.length → X ≠ cs ++ sp) : w'.heap[q]? = some (.cells X.toArray T (0, 0)) := by
  rcases h.2.2 q (Array.getElem?_eq_some_iff.1 hq).1 with x | ⟨sp, sp', x1, _, x3, _⟩
  · exact x.trans hq
  · exact absurd (cells_inj (hq.symm.trans x1)) (hX sp (by omega))
theorem EC.blk {w w' : World} (h : EC N e cs bs w w') {q : Nat} {X : List Value} (hq : Blk w q X) (hX : X.length < cs.length + bs.length) : Blk w' q X := by
  obtain ⟨T, hT⟩ := hq
  refine ⟨T, h.stays hT fun sp hsp e => ?_⟩
  have := congrArg List.length e
  rw [List.length_append] at this
  omega
theorem EC.lst0 {w w' : World} (h : EC N e cs bs w w') {s n : Nat} {v : Value} (hb : ∀ u ∈ bs, NotU u) (hl : Lst w N e s v n cs) : Lst w' N e s v n cs := by
  obtain ⟨l1, l2, l3⟩ := hl
  refine ⟨l1, l2, ?_⟩
  rcases l3 with l3 | ⟨g, c, spare, rfl, hg, hgg, hsl, hsn, hm⟩
  · exact .inl l3
  · rcases h.2.2 g (Array.getElem?_eq_some_iff.1 hgg).1 with x | ⟨sp, sp', x1, x2, x3, x4⟩
    · exact .inr ⟨g, c, spare, rfl, hg, x.trans hgg, hsl, hsn, hm⟩
    · have e1 := List.append_cancel_left (cells_inj (hgg.symm.trans x1))
      refine .inr ⟨g, c, bs ++ sp', rfl, hg, x2, ?_, fun u hu => ?_, hm⟩
      · rw [List.length_append, ← hsl, e1, x3]
      · rcases List.mem_append.1 hu with k | k
        · exact hb u k
        · exact x4 u k
theorem EC.lst1 {w w' : World} (h : EC N e cs bs w w') {s n : Nat} {v : Value} (hl : Lst w N e s v n (cs ++ bs)) : Lst w' N e s v n (cs ++ bs) := by
  obtain ⟨l1, l2, l3⟩ := hl
  refine ⟨l1, l2, ?_⟩
  rcases l3 with l3 | ⟨g, c, spare, rfl, hg, hgg, hsl, hsn, hm⟩
  · exact .inl l3
  · rcases h.2.2 g (Array.getElem?_eq_some_iff.1 hgg).1 with x | ⟨sp, sp', x1, x2, x3, x4⟩
    · exact .inr ⟨g, c, spare, rfl, hg, x.trans hgg, hsl, hsn, hm⟩
    · have e1 := cells_inj (hgg.symm.trans x1)
      rw [List.append_assoc] at e1
      have e2 := congrArg List.length (List.append_cancel_left e1)
      rw [List.length_append] at e2
      refine .inr ⟨g, c, sp', rfl, hg, by rw [x2, List.append_assoc], by omega, x4, hm⟩
end
/-- The cells of a list of ratios. -/
theorem IsRats.cells {w : World} {A : Option Addr} {l c : Nat} {qs : List Rat} (h : IsRats w (.slice A l c) qs) (hn : qs ≠ []) : ∃ (b o : Nat) (vs : List (Bool × Value × Value)), A = some ⟨b, o, none⟩ ∧ l = qs.length ∧ vs.length = qs.length ∧ (∀ j u, (ratCells vs)[j]? = some u → w.cell? ⟨b, o + j, none⟩ = some u) ∧ ∀ (i : Nat) (q : Rat), qs[i]? = some q → ∃ p : Bool × Value × Value, vs[i]? = some p ∧ IsRat w (.agg #[.bool p.1, p.2.1, p.2.2]) q := by
  obtain ⟨A', c', e, _, _, h4⟩ := h
  cases e
  rcases h4 with h4 | ⟨b, o, h5, h6⟩
  · exact absurd h4 hn
  · let B := fun (a : Addr) => match w.cell? a with | some (.bool p) => p | _ => false
    let V := fun (a : Addr) => (w.cell? a).getD undef
    have key : ∀ i (q : Rat), qs[i]? = some q → w.cell? ⟨b, o + i * 3, none⟩ = some (.bool (B ⟨b, o + i * 3, none⟩)) ∧ w.cell? ⟨b, o + i * 3 + 1, none⟩ = some (V ⟨b, o + i * 3 + 1, none⟩) ∧ w.cell? ⟨b, o + i * 3 + 2, none⟩ = some (V ⟨b, o + i * 3 + 2, none⟩) ∧ IsRat w (.agg #[.bool (B ⟨b, o + i * 3, none⟩), V ⟨b, o + i * 3 + 1, none⟩, V ⟨b, o + i * 3 + 2, none⟩]) q := by
      intro i q hq
      obtain ⟨p, m, d, k1, k2, k3, k4⟩ := h6 i q hq
      have e1 : B ⟨b, o + i * 3, none⟩ = p := by show (match w.cell? ⟨b, o + i * 3, none⟩ with | some (.bool p) => p | _ => false) = p; rw [k1]
      have e2 : V ⟨b, o + i * 3 + 1, none⟩ = m := by show (w.cell? ⟨b, o + i * 3 + 1, none⟩).getD undef = m; rw [k2]; rfl
      have e3 : V ⟨b, o + i * 3 + 2, none⟩ = d := by show (w.cell? ⟨b, o + i * 3 + 2, none⟩).getD undef = d; rw [k3]; rfl
      rw [e1, e2, e3]
      exact ⟨k1, k2, k3, k4⟩
    refine ⟨b, o, (List.range qs.length).map fun i => (B ⟨b, o + i * 3, none⟩, V ⟨b, o + i * 3 + 1, none⟩, V ⟨b, o + i * 3 + 2, none⟩), h5, rfl, by simp, fun j u hu => ?_, fun i q hq => ?_⟩
    · obtain ⟨i, r, rfl, hr⟩ : ∃ i r, j = i * 3 + r ∧ r < 3 := ⟨j / 3, j % 3, by omega, Nat.mod_lt _ (by omega)⟩
      have hlt := (List.getElem?_eq_some_iff.1 hu).1
      rw [ratCells_length, List.length_map, List.length_range] at hlt
      have hi : i < qs.length := by omega
      obtain ⟨k1, k2, k3, _⟩ := key i _ (List.getElem?_eq_getElem hi)
      have hg := ratCells_get ((List.range qs.length).map fun i => (B ⟨b, o + i * 3, none⟩, V ⟨b, o + i * 3 + 1, none⟩, V ⟨b, o + i * 3 + 2, none⟩)) i
      rw [List.getElem?_map, List.getElem?_range hi] at hg
      obtain ⟨g1, g2, g3⟩ := hg
      match r, hr with
      | 0, _ => rw [Nat.add_zero, g1] at hu; cases hu; exact k1
      | 1, _ => rw [g2] at hu; cases hu; exact k2
      | 2, _ => rw [g3] at hu; cases hu; exact k3
    · have hi := (List.getElem?_eq_some_iff.1 hq).1
      refine ⟨_, by rw [List.getElem?_map, List.getElem?_range hi]; rfl, (key i q hq).2.2.2⟩
end Go.V
end
section
namespace Go.V
open Go.RowKit
/-- A slice whose n cells are these values. -/
def IsL (w : World) (v : Value) (n : Nat) (us : Nat → Value) : Prop := ∃ A c, v = .slice A n c ∧ n ≤ c ∧ c ≤ maxLen ∧ (n = 0 ∨ ∃ b o, A = some ⟨b, o, none⟩ ∧ ∀ i, i < n → w.cell? ⟨b, o + i, none⟩ = some (us i))
theorem IsL.mono {w w' : World} {v : Value} {n : Nat} {us : Nat → Value} (h : IsL w v n us) (hE : Ext w w') : IsL w' v n us := by
  obtain ⟨A, c, h1, h2, h3, h4⟩ := h
  refine ⟨A, c, h1, h2, h3, ?_⟩
  rcases h4 with h4 | ⟨b, o, h5, h6⟩
  · exact .inl h4
  · exact .inr ⟨b, o, h5, fun i hi => hE.cell (h6 i hi)⟩
theorem IsL.get {w : World} {A : Option Addr} {l c n : Nat} {us : Nat → Value} (h : IsL w (.slice A l c) n us) {i : Nat} (hi : i < n) : ∃ b o, A = some ⟨b, o, none⟩ ∧ w.cell? ⟨b, o + i, none⟩ = some (us i) := by
  obtain ⟨A', c', e, _, _, h4⟩ := h
  cases e
  rcases h4 with h4 | ⟨b, o, h5, h6⟩
  · omega
  · exact ⟨b, o, h5, h6 i hi⟩
/-- What mapped has made behind i rounds: slices of blocks of their own. -/
structure Mapd (w wr : World) (gb n i : Nat) (k : Nat → Nat) (P : Nat → Nat → World → Prop) (rb : Nat → Nat) : Prop where
  blk : ∃ cs, Blk wr gb cs ∧ cs.length = n ∧ (∀ u ∈ cs, NotInt u) ∧ ∀ j, j < i → cs[j]? = some (.slice (some ⟨rb j, 0, none⟩) (k j) (k j))
  up : ∀ j, j < i → gb < rb j
  inj : ∀ j l, j < l → l < i → rb j < rb l
  lt : ∀ j, j < i → rb j < wr.heap.size
  p : ∀ j, j < i → P j (rb j) wr
  ext : Ext w wr
theorem Mapd.step {w wr w3 : World} {gb n i r : Nat} {k : Nat → Nat} {P : Nat → Nat → World → Prop} {rb : Nat → Nat} (h : Mapd w wr gb n i k P rb) (hi : i < n) (hE : Ext wr w3) (hr : wr.heap.size ≤ r) (hr3 : r < w3.heap.size) (hp : P i r w3) (hgb : w.heap.size ≤ gb)
    (hst : ∀ j q a b, P j q a → b.heap[q]? = a.heap[q]? → Keep a b → P j q b) :
    Mapd w (w3.setCell ⟨gb, i, none⟩ (.slice (some ⟨r, 0, none⟩) (k i) (k i))) gb n (i + 1) k P (fun j => if j = i then r else rb j) := by
  obtain ⟨⟨cs, hb, hl, hn, hc⟩, hu, hj, hlt, hpp, he⟩ := h
  have hb3 := hb.ext hE
  have hgl := hb.lt
  obtain ⟨u0, hu0⟩ : ∃ u0, cs[i]? = some u0 := ⟨cs[i], List.getElem?_eq_getElem (by omega)⟩
  have hK : Keep w3 (w3.setCell ⟨gb, i, none⟩ (.slice (some ⟨r, 0, none⟩) (k i) (k i))) := Keep.set ((hb3.cell i).trans hu0) (hn _ (List.mem_of_getElem? hu0)) _
  have hs : ∀ q, q ≠ gb → (w3.setCell ⟨gb, i, none⟩ (.slice (some ⟨r, 0, none⟩) (k i) (k i))).heap[q]? = w3.heap[q]? := fun q hq => Below.heap_setCell _ _ _ _ hq
  refine ⟨⟨cs.set i (.slice (some ⟨r, 0, none⟩) (k i) (k i)), hb3.set _ _, by simpa using hl, fun u hu' => ?_, fun j hj' => ?_⟩, fun j hj' => ?_, fun j l hjl hl' => ?_, fun j hj' => ?_, fun j hj' => ?_, (Ext.trans _ _ _ he hE).set hgb _⟩
  · rcases List.mem_or_eq_of_mem_set hu' with q | q
    · exact hn u q
    · rw [q]; exact notInt_slice _ _ _
  · show (cs.set i _)[j]? = some (.slice (some ⟨if j = i then r else rb j, 0, none⟩) (k j) (k j))
    by_cases e : j = i
    · subst e
      rw [if_pos rfl, List.getElem?_set_self (by omega)]
    · rw [if_neg e, List.getElem?_set_ne (fun q => e q.symm)]
      exact hc j (by omega)
  · show gb < (if j = i then r else rb j)
    split
    · omega
    · exact hu j (by omega)
  · show (if j = i then r else rb j) < (if l = i then r else rb l)
    have hji : j ≠ i := by omega
    rw [if_neg hji]
    split
    · have := hlt j (by omega); omega
    · exact hj j l hjl (by omega)
  · show (if j = i then r else rb j) < _
    rw [show (w3.setCell ⟨gb, i, none⟩ (.slice (some ⟨r, 0, none⟩) (k i) (k i))).heap.size = w3.heap.size by simp [World.setCell]]
    split
    · exact hr3
    · exact Nat.lt_of_lt_of_le (hlt j (by omega)) hE.size
  · show P j (if j = i then r else rb j) _
    by_cases e : j = i
    · subst e
      rw [if_pos rfl]
      exact hst _ _ _ _ hp (hs r (by omega)) hK
    · rw [if_neg e]
      have h1 := hlt j (by omega)
      have h2 := hu j (by omega)
      exact hst _ _ _ _ (hst _ _ _ _ (hpp j (by omega)) (hE.block _ h1) hE.keep) (hs _ (by omega)) hK
end Go.V
end
section
namespace Go.Proofs.Xx
open Go.RowKit Go.V Go.Grow

theorem wp_copy {P : Program} {w w' : World} {ops : Array Oper} {rest : List Oper} {o : Oper} {a : Act} {Q : Exit → Act → World → Prop} (hg : o.guard = none) (s x : Operand) (t : TypeId)
    (hop : o.op = Op.call { callee := Callee.builtin Builtin.copy, args := #[s, x], argTypes := #[t, t] }) {v u v' : Value} (hs : a.eval s = v) (hx : a.eval x = u)
    (hrun : (Builtin.copy_ #[t, t] o.type #[v, u]).run P w = .ok v' w') (hK : wpList P ops Q rest (a.put o.dst v') w') : wpList P ops Q (o :: rest) a w := by
  refine wpList_plain hg fun K hK' => ?_
  unfold Oper.wp
  simp [execOp, hop, resolve, invoke, builtin, hs, hx, hrun, Result.andThen]
  exact hK' _ _ hK
theorem zero_num (w : World) : IsNum w (.agg #[.bool false, .slice none 0 0]) 0 := ⟨_, rfl, none, 0, rfl, Nat.le_refl _, Nat.zero_le _, .inl rfl⟩
theorem NRow.zeros (w : World) (n : Nat) (T : TypeId) : NRow (w.alloc (.cells (numCells (List.replicate n (false, .slice none 0 0))).toArray T)) w.heap.size n (fun _ => 0) :=
  ⟨_, Blk.new _ _ _, by simp, fun j p hp => by
    rw [List.getElem?_replicate] at hp
    split at hp
    · cases hp
      exact zero_num _
    · cases hp⟩

set_option maxHeartbeats 2000000 in
set_option maxRecDepth 100000 in
theorem swap_any (b o m cap n i k : Nat) (rb : Nat → Nat) (M : Nat → Nat → Int) (B : Nat) (w : World) (hT : Tbl w b o m n rb M) (hi : i < m) (hk : k < m) (hik : i ≠ k) (hm : m ≤ cap) (hn : n ≤ 1099511627776) (hB : ∀ q, q < m → B ≤ rb q) (hBw : B ≤ w.heap.size) :
    Calls Tryz.prog 120 #[.slice (some ⟨b, o, none⟩) m cap, .int .i64 (i : Int), .int .i64 (k : Int)] w fun e w' => e = .returned (.tuple #[]) ∧ Tbl w' b o m n rb (fun q => if q = i then M k else if q = k then M i else M q) ∧ Below B w w' ∧ Keep w w' ∧ ∀ g, g < w.heap.size → g ≠ rb i → g ≠ rb k → w'.heap[g]? = w.heap[g]? := by
  have h0 := hT.sl 0 (by omega)
  rw [Nat.add_zero] at h0
  have HWD := Lib.hid (width_any b o m cap n _ _ w h0 (by omega))
  have hmk := make_nums 80 Tryz.underlying80 n hn
  have E1 : Ext w (w.alloc (.cells (numCells (List.replicate n (false, .slice none 0 0))).toArray 109)) := Ext.alloc _ _
  have T1 := hT.ext E1
  have R1 := NRow.zeros w n 109
  have hgi : ∀ q, q < m → rb q ≠ w.heap.size := fun q hq e => by have := (hT.row q hq).lt; omega
  have hbg : b ≠ w.heap.size := fun e => by
    have := World.block_lt_of_cell? w _ h0
    simp at this
    omega
  generalize hg : w.heap.size = g at *
  obtain ⟨W2, c2, R2, K2, o2, B2⟩ := copy_row (cp := n) (cp2 := n) R1 (T1.row i hi) 3
  have E2 : Ext w W2 := Below.trans E1 (B2 _ (by rw [hg]; exact Nat.le_refl _))
  have T2 : Tbl W2 b o m n rb M := T1.keep (fun j => World.cell?_of_block (w := w.alloc _) (w' := W2) (a := ⟨b, j, none⟩) (o2 b hbg) |>.symm) (fun q hq => o2 _ (hgi q hq)) K2
  have si := hT.sl i hi
  have sk := hT.sl k hk
  have S1 := E1.cell si
  have HSI := Lib.hid si; have HSK := Lib.hid sk
  have hkcap : k < cap := by omega
  have hicap : i < cap := by omega
  have HBW : Hid (B ≤ w.heap.size) := by rw [hg]; exact hBw
  have hT0 := hT.inj
  have hne := hT.ne
  clear R1 T1 o2 B2 K2 hT si sk h0 hBw
  go_enter Tryz.func120, Tryz.ntmps120
  go_wp2_with fail
  refine HWD.out.mono ?_
  rintro e w' ⟨rfl, rfl⟩
  go_wp2_with fail
  clear c2 hmk S1
  refine ro_region 8 [none, none, none, none, none, none, none, none] (by kernel_rfl) (by kernel_rfl) ?_
  go_simp
  repeat (apply ro_quiet rfl; (intro w1 hE _; have s1 := hE.cell (Ext.cell (Ext.drew _) (E2.cell HSI.out)); have s2 := hE.cell (Ext.cell (Ext.drew _) (E2.cell HSK.out)); go_simp; exact rfl); go_simp)
  refine ro_done (fun w1 hE _ => ?_)
  simp only [List.drop_succ_cons, List.drop_zero]
  have E3 : Ext W2 w1 := Ext.trans _ _ _ (Ext.drew _) hE
  have T3 := T2.ext E3
  obtain ⟨W3, c3, R3, K3, o3, B3⟩ := copy_row (cp := n) (cp2 := n) (T3.row i hi) (T3.row k hk) 3
  have Q3 : NRow W3 g n (M i) := (R2.ext E3).keep (o3 g (fun e => hgi i hi e.symm)) K3
  have QK : NRow W3 (rb k) n (M k) := (T3.row k hk).keep (o3 _ (fun e => hik (hT0 k i hk hi e).symm)) K3
  obtain ⟨W4, c4, R4, K4, o4, B4⟩ := copy_row (cp := n) (cp2 := n) QK Q3 3
  have s3 : W3.cell? ⟨b, o + k, none⟩ = some (.slice (some ⟨rb k, 0, none⟩) n n) := by
    rw [World.cell?_of_block (w := w1) (o3 b (fun e => hne i hi e.symm))]
    exact E3.cell (E2.cell HSK.out)
  have TF : Tbl W4 b o m n rb (fun q => if q = i then M k else if q = k then M i else M q) := by
    refine ⟨fun q hq => ?_, hne, hT0, fun q hq => ?_⟩
    · rw [World.cell?_of_block (w := W3) (o4 b (fun e => hne k hk e.symm)), World.cell?_of_block (w := w1) (o3 b (fun e => hne i hi e.symm))]
      exact T3.sl q hq
    · show NRow W4 (rb q) n (if q = i then M k else if q = k then M i else M q)
      by_cases e1 : q = i
      · subst e1
        rw [if_pos rfl]
        exact R3.keep (o4 _ (fun e => hik (hT0 _ _ hi hk e))) K4
      · rw [if_neg e1]
        by_cases e2 : q = k
        · subst e2
          rw [if_pos rfl]
          exact R4
        · rw [if_neg e2]
          exact ((T3.row q hq).keep (o3 _ (fun e => e1 (hT0 _ _ hq hi e))) K3).keep (o4 _ (fun e => e2 (hT0 _ _ hq hk e))) K4
  have EW : Ext w' w1 := Ext.trans _ _ _ E2 E3
  have BF : Below B w' W4 := ((EW.mono HBW.out).trans (B3 B (hB i hi))).trans (B4 B (hB k hk))
  have KF : Keep w' W4 := (EW.keep.trans K3).trans K4
  have OF : ∀ q, q < w'.heap.size → q ≠ rb i → q ≠ rb k → W4.heap[q]? = w'.heap[q]? := fun q hq h1 h2 => (o4 q h2).trans ((o3 q h1).trans (EW.block q hq))
  have HOF := Lib.hid OF
  have HT := Lib.hid TF; have HBF := Lib.hid BF; have HKF := Lib.hid KF
  clear OF TF BF KF K3 K4 o3 o4 B3 B4 Q3 QK R3 R4 T2 T3 EW R2 hT0
  go_wp2_with fail
  go_end0
  exact ⟨rfl, HT.out, HBF.out, HKF.out, fun q hq => HOF.out q (by rw [hg]; exact hq)⟩
end Go.Proofs.Xx
end
section
namespace Go.V
open Go.RowKit

/-- As Ro, over any relation between worlds. -/
def RoE (E : World → World → Prop) (P : Program) (ops : Array Oper) (w0 : World) (Q : Exit → Act → World → Prop) (k : Nat) (ms : List (Option (Value → World → Prop))) (l : List Oper) (fs : List (World → Prop)) (a : Act) : Prop :=
  Grow.Rounds P ops E w0 Q (fun a w => wpList P ops Q (ops.toList.drop k) a w) ms l fs a
section
variable {E : World → World → Prop} {P : Program} {ops : Array Oper} {w0 : World} {Q : Exit → Act → World → Prop} {k : Nat} {ms : List (Option (Value → World → Prop))} {a : Act} {o : Oper} {rest : List Oper} {fs : List (World → Prop)}
theorem roE_quiet {u : Value} (hg : o.guard = none) (h1 : ∀ w : World, E w0 w → Grow.depsHold o fs w → (execOp a.eval o).run P w = .ok (.value u) w) (h2 : RoE E P ops w0 Q k ms rest (fs ++ [fun _ : World => True]) (a.put o.dst u)) :
    RoE E P ops w0 Q k (none :: ms) (o :: rest) fs a := by
  unfold RoE Grow.Rounds
  rw [if_pos (by simp [Region.wanted, hg])]
  exact ⟨u, h1, h2⟩
theorem roE_op {S : Value → World → Prop} (hg : o.guard = none) (h1 : ∀ w : World, E w0 w → Grow.depsHold o fs w → wpList P ops (Grow.endAt E a o.dst w S Q) [o] a w) (h2 : ∀ v : Value, RoE E P ops w0 Q k ms rest (fs ++ [S v]) (a.put o.dst v)) :
    RoE E P ops w0 Q k (some S :: ms) (o :: rest) fs a := by
  unfold RoE Grow.Rounds
  rw [if_pos (by simp [Region.wanted, hg])]
  exact ⟨h1, h2⟩
theorem roE_run {S : Value → World → Prop} (hg : o.guard = none)
    (h1 : ∀ w : World, E w0 w → Grow.depsHold o fs w → ∃ v w', (execOp a.eval o).run P w = .ok (.value v) w' ∧ E w w' ∧ S v w')
    (h2 : ∀ v : Value, RoE E P ops w0 Q k ms rest (fs ++ [S v]) (a.put o.dst v)) : RoE E P ops w0 Q k (some S :: ms) (o :: rest) fs a := by
  refine roE_op hg (fun w hE hd => ?_) h2
  obtain ⟨v, w', hr, hE', hS⟩ := h1 w hE hd
  unfold wpList
  rw [if_pos (by simp [Region.wanted, hg])]
  left
  unfold Oper.wp
  rw [hr]
  exact ⟨v, rfl, hE', hS⟩
theorem roE_store {S : Value → World → Prop} (hg : o.guard = none) (hd0 : o.dst = none)
    (h1 : ∀ w : World, E w0 w → Grow.depsHold o fs w → ∃ w', (execOp a.eval o).run P w = .ok .skip w' ∧ E w w' ∧ S undef w')
    (h2 : ∀ v : Value, RoE E P ops w0 Q k ms rest (fs ++ [S v]) (a.put o.dst v)) : RoE E P ops w0 Q k (some S :: ms) (o :: rest) fs a := by
  refine roE_op hg (fun w hE hd => ?_) h2
  obtain ⟨w', hr, hE', hS⟩ := h1 w hE hd
  unfold wpList
  rw [if_pos (by simp [Region.wanted, hg])]
  left
  unfold Oper.wp
  rw [hr]
  exact ⟨undef, by rw [hd0], hE', hS⟩
theorem roE_call {S : Value → World → Prop} {f : FuncId} {args : Array Value} (hg : o.guard = none) (hr : ∀ w : World, (execOp a.eval o).run P w = .ok (.enter f args) w) (h1 : ∀ w : World, E w0 w → Grow.depsHold o fs w → Calls P f args w (fun e w' => ∃ v, e = .returned v ∧ S v w' ∧ E w w'))
    (h2 : ∀ v : Value, RoE E P ops w0 Q k ms rest (fs ++ [S v]) (a.put o.dst v)) : RoE E P ops w0 Q k (some S :: ms) (o :: rest) fs a := by
  refine roE_op hg (fun w hE hd => ?_) h2
  unfold wpList
  rw [if_pos (by simp [Region.wanted, hg])]
  left
  unfold Oper.wp
  rw [hr w, Oper.upon_enter]
  refine (h1 w hE hd).mono ?_
  rintro e w' ⟨v, rfl, hS, hE'⟩
  exact ⟨v, rfl, hE', hS⟩
theorem roE_done (h : ∀ w : World, E w0 w → (∀ f ∈ fs, f w) → wpList P ops Q (ops.toList.drop k) a w) : RoE E P ops w0 Q k ms [] fs a := by
  unfold RoE Grow.Rounds
  exact h
theorem roE_region {id : Nat} {w : World} (E : World → World → Prop) (k : Nat) (ms : List (Option (Value → World → Prop))) (hm : P.follows .mixedOrders = true) (hB : Grow.okB k ops = true) (hrefl : ∀ w, E w w) (htr : ∀ a b c, E a b → E b c → E a c) (hst : ∀ S, some S ∈ ms → ∀ v, Grow.Stable E (S v)) (h : RoE E P ops w.drew Q k ms (ops.toList.take k) [] a) : (Code.region id ops true).wp P Q a w := by
  refine Grow.region k ms E hm hB hrefl htr hst ?_
  have e : (fun a w => wpOps P ops Q (List.range' k (ops.size - k)) a w) = fun a w => wpList P ops Q (ops.toList.drop k) a w := by
    funext a w
    have := wpOps_eq_wpList (P := P) (ops := ops) (Q := Q) (ops.toList.drop k) k (fun j => by simp)
    rw [← this]
    simp
  rw [e]
  exact h
end
end Go.V
end
