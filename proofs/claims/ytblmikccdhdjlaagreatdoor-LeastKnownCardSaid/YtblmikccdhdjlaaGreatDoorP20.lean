/- A part of the proof: the texts XTab, W41, XLst, XRow3. -/
import Derived.Test.YtblmikccdhdjlaaGreatDoorP19
import Derived.Laws.CopyRow
import Derived.Laws.MakeOwn
import Derived.Laws.AppendOwn
set_option linter.unusedVariables false
set_option linter.unusedSimpArgs false
section
namespace Go.V
open Go.RowKit

/-- No group of a mass. -/
def NotU (x : Value) : Prop := ∀ n, x ≠ .int .u64 n
theorem NotInt.u {x : Value} (h : NotInt x) : NotU x := h .u64
/-- What held a group of digits holds it. -/
def Keep (w w' : World) : Prop := ∀ (p : Addr) (x : Int), w.cell? p = some (.int .u64 x) → w'.cell? p = some (.int .u64 x)
theorem Keep.refl (w : World) : Keep w w := fun _ _ h => h
theorem Keep.trans {a b c : World} (h : Keep a b) (k : Keep b c) : Keep a c := fun p x e => k p x (h p x e)
theorem Ext.keep {w w' : World} (h : Ext w w') : Keep w w' := fun _ _ e => h.cell e
theorem Keep.set' {w : World} {p : Addr} {x : Value} (hp : w.cell? p = some x) (hx : NotU x) (u : Value) : Keep w (w.setCell p u) := fun q z h => by
  rw [World.cell?_setCell_other]
  · exact h
  · rintro rfl
    rw [hp] at h
    cases h
    exact hx _ rfl
theorem Keep.set {w : World} {p : Addr} {x : Value} (hp : w.cell? p = some x) (hx : NotInt x) (u : Value) : Keep w (w.setCell p u) := Keep.set' hp hx.u u
theorem Row.keep {w w' : World} {A : Option Addr} {xs : List Nat} (h : Row w A (u64s xs)) (hK : Keep w w') : Row w' A (u64s xs) := by
  rcases h with h | ⟨b, o, h1, h2⟩
  · exact .inl h
  · refine .inr ⟨b, o, h1, fun i v hv => ?_⟩
    have h3 := h2 i v hv
    obtain ⟨n, _, rfl⟩ := List.mem_map.1 (List.mem_of_getElem? hv)
    exact hK _ _ h3
/-- A row of cells of which none is a group of digits, overwritten. -/
theorem Keep.setRow {w : World} {g : Nat} {cur : Array Value} {T : TypeId} {fr : Nat × Nat} (hT : w.heap[g]? = some (.cells cur T fr)) (hc : ∀ u ∈ cur, NotU u) (cs : Array Value) : Keep w (w.setRow g cs) := by
  intro q x hq
  by_cases e : q.block = g
  · exfalso
    unfold World.cell? at hq
    rw [e, hT] at hq
    simp only at hq
    split at hq
    · cases hq
    · exact hc _ (Array.mem_of_getElem? hq) _ rfl
  · have : (w.setRow g cs).heap[q.block]? = w.heap[q.block]? := setRow_other w g q.block _ e
    unfold World.cell? at hq ⊢
    rw [this]
    exact hq
theorem IsMass.keep {w w' : World} {v : Value} {n : Nat} (h : IsMass w v n) (hK : Keep w w') : IsMass w' v n := by
  obtain ⟨A, c, h1, h2, h3, h4⟩ := h
  exact ⟨A, c, h1, h2, h3, h4.keep hK⟩
theorem IsNum.keep {w w' : World} {v : Value} {z : Int} (h : IsNum w v z) (hK : Keep w w') : IsNum w' v z := by
  obtain ⟨m, h1, h2⟩ := h
  exact ⟨m, h1, h2.keep hK⟩
theorem IsRat.keep {w w' : World} {v : Value} {q : Rat} (h : IsRat w v q) (hK : Keep w w') : IsRat w' v q := by
  obtain ⟨m, d, h1, h2, h3⟩ := h
  exact ⟨m, d, h1, h2.keep hK, h3.keep hK⟩

/-- A block, whole. -/
def Blk (w : World) (g : Nat) (cs : List Value) : Prop := ∃ T, w.heap[g]? = some (.cells cs.toArray T (0, 0))
theorem Blk.lt {w : World} {g : Nat} {cs : List Value} (h : Blk w g cs) : g < w.heap.size := by
  obtain ⟨T, h⟩ := h
  exact (Array.getElem?_eq_some_iff.1 h).1
theorem Blk.cell {w : World} {g : Nat} {cs : List Value} (h : Blk w g cs) (j : Nat) : w.cell? ⟨g, j, none⟩ = cs[j]? := by
  obtain ⟨T, h⟩ := h
  simp [World.cell?, h]
theorem Blk.frozen {w : World} {g : Nat} {cs : List Value} (h : Blk w g cs) (i : Nat) : w.frozen? ⟨g, i, none⟩ = false := by
  obtain ⟨T, h⟩ := h
  simp [World.frozen?, h]
theorem Blk.same {w w' : World} {g : Nat} {cs : List Value} (h : Blk w g cs) (hE : w'.heap[g]? = w.heap[g]?) : Blk w' g cs := by
  obtain ⟨T, h⟩ := h
  exact ⟨T, hE.trans h⟩
theorem Blk.ext {w w' : World} {g : Nat} {cs : List Value} (h : Blk w g cs) (hE : Ext w w') : Blk w' g cs := h.same (hE.block g h.lt)
theorem Blk.set {w : World} {g : Nat} {cs : List Value} (h : Blk w g cs) (i : Nat) (v : Value) : Blk (w.setCell ⟨g, i, none⟩ v) g (cs.set i v) := by
  obtain ⟨T, h⟩ := h
  refine ⟨T, ?_⟩
  simp only [World.setCell, Array.getElem?_modify, if_pos, h]
  simp
theorem Blk.other {w : World} {g : Nat} {cs : List Value} (h : Blk w g cs) {p : Addr} (hp : p.block ≠ g) (v : Value) : Blk (w.setCell p v) g cs := h.same (Below.heap_setCell w p v g (fun e => hp e.symm))
theorem Blk.new (w : World) (cs : List Value) (T : TypeId) : Blk (w.alloc (.cells cs.toArray T)) w.heap.size cs := ⟨T, heap_alloc_new w _⟩

/-- The cells of numbers: two each. -/
def numCells (vs : List (Bool × Value)) : List Value := vs.flatMap fun p => [.bool p.1, p.2]
theorem numCells_length (vs : List (Bool × Value)) : (numCells vs).length = vs.length * 2 := by
  induction vs with
  | nil => rfl
  | cons p l ih => simp only [numCells, List.flatMap_cons, List.length_append, List.length_cons, List.length_nil] at ih ⊢; omega
theorem numCells_get : ∀ (vs : List (Bool × Value)) (j : Nat), (numCells vs)[j * 2]? = vs[j]?.map (fun p => .bool p.1) ∧ (numCells vs)[j * 2 + 1]? = vs[j]?.map (·.2)
  | [], j => by simp [numCells]
  | p :: l, 0 => by simp [numCells]
  | p :: l, j + 1 => by
    have := numCells_get l j
    simp only [numCells, List.flatMap_cons] at this ⊢
    rw [show (j + 1) * 2 = j * 2 + 1 + 1 by omega]
    simpa using this
theorem numCells_set : ∀ (vs : List (Bool × Value)) (j : Nat) (p : Bool × Value), numCells (vs.set j p) = ((numCells vs).set (j * 2) (.bool p.1)).set (j * 2 + 1) p.2
  | [], j, p => by simp [numCells]
  | q :: l, 0, p => by simp [numCells]
  | q :: l, j + 1, p => by
    have := numCells_set l j p
    simp only [numCells, List.flatMap_cons, List.set_cons_succ] at this ⊢
    rw [this, show (j + 1) * 2 = j * 2 + 1 + 1 by omega]
    simp

/-- A block that reads as a row of whole numbers. -/
def NRow (w : World) (g n : Nat) (f : Nat → Int) : Prop := ∃ vs, Blk w g (numCells vs) ∧ vs.length = n ∧ ∀ j p, vs[j]? = some p → IsNum w (.agg #[.bool p.1, p.2]) (f j)
theorem NRow.keep {w w' : World} {g n : Nat} {f : Nat → Int} (h : NRow w g n f) (hb : w'.heap[g]? = w.heap[g]?) (hK : Keep w w') : NRow w' g n f := by
  obtain ⟨vs, h1, h2, h3⟩ := h
  exact ⟨vs, h1.same hb, h2, fun j p hp => (h3 j p hp).keep hK⟩
theorem NRow.ext {w w' : World} {g n : Nat} {f : Nat → Int} (h : NRow w g n f) (hE : Ext w w') : NRow w' g n f := by
  have h' := h
  obtain ⟨vs, h1, _⟩ := h'
  exact h.keep (hE.block g h1.lt) hE.keep
theorem NRow.lt {w : World} {g n : Nat} {f : Nat → Int} (h : NRow w g n f) : g < w.heap.size := by
  obtain ⟨vs, h1, _⟩ := h
  exact h1.lt
theorem NRow.get {w : World} {g n : Nat} {f : Nat → Int} (h : NRow w g n f) {j : Nat} (hj : j < n) :
    ∃ p m, w.cell? ⟨g, j * 2, none⟩ = some (.bool p) ∧ w.cell? ⟨g, j * 2 + 1, none⟩ = some m ∧ IsNum w (.agg #[.bool p, m]) (f j) ∧ w.frozen? ⟨g, j * 2, none⟩ = false ∧ w.frozen? ⟨g, j * 2 + 1, none⟩ = false := by
  obtain ⟨vs, h1, rfl, h3⟩ := h
  obtain ⟨k1, k2⟩ := numCells_get vs j
  rw [List.getElem?_eq_getElem hj] at k1 k2
  exact ⟨_, _, (h1.cell _).trans k1, (h1.cell _).trans k2, h3 j _ (List.getElem?_eq_getElem hj), h1.frozen _, h1.frozen _⟩
theorem IsNum.notInt {w : World} {p : Bool} {m : Value} {z : Int} (h : IsNum w (.agg #[.bool p, m]) z) : NotInt m := by
  obtain ⟨m', e, h⟩ := h
  simp only [Value.agg.injEq, Array.mk.injEq, List.cons.injEq, and_true] at e
  rw [e.2]
  exact h.notInt
theorem IsNum.agg {w : World} {v : Value} {z : Int} (h : IsNum w v z) : ∃ m, v = .agg #[.bool (decide (z < 0)), m] ∧ IsMass w m z.natAbs := h
/-- A store of a number into a row. -/
theorem NRow.set {w : World} {g n : Nat} {f : Nat → Int} (h : NRow w g n f) {j : Nat} (hj : j < n) {p : Bool} {m : Value} {z : Int} (hz : IsNum w (.agg #[.bool p, m]) z) :
    NRow ((w.setCell ⟨g, j * 2, none⟩ (.bool p)).setCell ⟨g, j * 2 + 1, none⟩ m) g n (fun c => if c = j then z else f c) ∧ Keep w ((w.setCell ⟨g, j * 2, none⟩ (.bool p)).setCell ⟨g, j * 2 + 1, none⟩ m) := by
  obtain ⟨p0, m0, k1, k2, k3, _, _⟩ := h.get hj
  have K1 : Keep w (w.setCell ⟨g, j * 2, none⟩ (.bool p)) := Keep.set k1 (notInt_bool _) _
  have k2' : (w.setCell ⟨g, j * 2, none⟩ (.bool p)).cell? ⟨g, j * 2 + 1, none⟩ = some m0 := by
    rw [World.cell?_setCell_other _ _ _ _ (by simp)]; exact k2
  have K2 := K1.trans (Keep.set k2' k3.notInt m)
  obtain ⟨vs, h1, h2, h3⟩ := h
  refine ⟨⟨vs.set j (p, m), ?_, by simpa using h2, fun i q hq => ?_⟩, K2⟩
  · rw [numCells_set]
    exact (h1.set _ _).set _ _
  · rw [List.getElem?_set] at hq
    split at hq
    · rename_i e
      subst e
      split at hq
      · cases hq
        show IsNum _ _ (if j = j then z else f j)
        rw [if_pos rfl]
        exact hz.keep K2
      · cases hq
    · rename_i e
      show IsNum _ _ (if i = j then z else f i)
      rw [if_neg (fun k => e k.symm)]
      exact (h3 i q hq).keep K2

/-- A table of whole numbers: m rows of n numbers, each in a block of its own. -/
structure Tbl (w : World) (b o m n : Nat) (rb : Nat → Nat) (M : Nat → Nat → Int) : Prop where
  sl : ∀ i, i < m → w.cell? ⟨b, o + i, none⟩ = some (.slice (some ⟨rb i, 0, none⟩) n n)
  ne : ∀ i, i < m → rb i ≠ b
  inj : ∀ i k, i < m → k < m → rb i = rb k → i = k
  row : ∀ i, i < m → NRow w (rb i) n (M i)
theorem Tbl.keep {w w' : World} {b o m n : Nat} {rb : Nat → Nat} {M : Nat → Nat → Int} (h : Tbl w b o m n rb M) (hs : ∀ i, w.cell? ⟨b, i, none⟩ = w'.cell? ⟨b, i, none⟩) (hb : ∀ i, i < m → w'.heap[rb i]? = w.heap[rb i]?) (hK : Keep w w') : Tbl w' b o m n rb M :=
  ⟨fun i hi => (hs _).symm.trans (h.sl i hi), h.ne, h.inj, fun i hi => (h.row i hi).keep (hb i hi) hK⟩
theorem Tbl.ext {w w' : World} {b o m n : Nat} {rb : Nat → Nat} {M : Nat → Nat → Int} (h : Tbl w b o m n rb M) (hE : Ext w w') : Tbl w' b o m n rb M :=
  ⟨fun i hi => hE.cell (h.sl i hi), h.ne, h.inj, fun i hi => (h.row i hi).ext hE⟩
/-- A store of a number into a table. -/
theorem Tbl.set {w : World} {b o m n : Nat} {rb : Nat → Nat} {M : Nat → Nat → Int} (h : Tbl w b o m n rb M) {i j : Nat} (hi : i < m) (hj : j < n) {p : Bool} {v : Value} {z : Int} (hz : IsNum w (.agg #[.bool p, v]) z) :
    Tbl ((w.setCell ⟨rb i, j * 2, none⟩ (.bool p)).setCell ⟨rb i, j * 2 + 1, none⟩ v) b o m n rb (fun q c => if q = i ∧ c = j then z else M q c) ∧ Keep w ((w.setCell ⟨rb i, j * 2, none⟩ (.bool p)).setCell ⟨rb i, j * 2 + 1, none⟩ v) := by
  obtain ⟨h1, K⟩ := (h.row i hi).set hj hz
  have hne := h.ne i hi
  refine ⟨⟨fun k hk => ?_, h.ne, h.inj, fun k hk => ?_⟩, K⟩
  · rw [World.cell?_setCell_other _ _ _ _ (by first | (simp; done) | (simp; omega)), World.cell?_setCell_other _ _ _ _ (by first | (simp; done) | (simp; omega))]
    exact h.sl k hk
  · by_cases e : k = i
    · subst e
      have : (fun c => if k = k ∧ c = j then z else M k c) = fun c => if c = j then z else M k c := by
        funext c; simp
      rw [this]
      exact h1
    · have hr : rb k ≠ rb i := fun e2 => e (h.inj k i hk hi e2)
      have : (fun c => if k = i ∧ c = j then z else M k c) = M k := by
        funext c; simp [e]
      rw [this]
      refine (h.row k hk).keep ?_ K
      rw [Below.heap_setCell _ _ _ _ hr, Below.heap_setCell _ _ _ _ hr]
theorem Tbl.congr {w : World} {b o m n : Nat} {rb : Nat → Nat} {M N : Nat → Nat → Int} (h : Tbl w b o m n rb M) (e : ∀ i c, i < m → c < n → N i c = M i c) : Tbl w b o m n rb N := by
  refine ⟨h.sl, h.ne, h.inj, fun i hi => ?_⟩
  obtain ⟨vs, h1, h2, h3⟩ := h.row i hi
  refine ⟨vs, h1, h2, fun j p hp => ?_⟩
  rw [e i j hi (by rw [← h2]; exact (List.getElem?_eq_some_iff.1 hp).1)]
  exact h3 j p hp
end Go.V
namespace Go
/-- copy of elements of several cells. -/
theorem run_copy_wide (P : Program) (w : World) (dT sT ty elem : TypeId) (g dLen dCap : Nat) (a : Addr) (sLen sCap s : Nat) (cur : Array Value) (t : TypeId) (cs : List Value)
    (hu : P.underlying dT = some (.slice elem)) (hs : (P.info? elem).map (·.size) = some s)
    (hg : w.heap[g]? = some (.cells cur t (0, 0))) (hn : cs.length = Nat.min sLen dLen * s)
    (hsrc : ∀ j v, cs[j]? = some v → w.cell? (a.add j) = some v) (hfit : cs.length ≤ cur.size) (h1 : ∀ v ∈ cs, v.oneCell' = true) :
    (Builtin.copy_ #[dT, sT] ty #[.slice (some ⟨g, 0, none⟩) dLen dCap, .slice (some a) sLen sCap]).run P w =
      .ok (goInt (Nat.min sLen dLen)) (w.setRow g (cs ++ cur.toList.drop cs.length).toArray) := by
  have hl := run_loadCells_list (P := P) w a cs hsrc
  have hst := run_storeCells_at P g 0 t cs 0 cur w hg (by simpa using hfit) h1
  cases hq : P.info? elem with
  | none => simp [hq] at hs
  | some i =>
    have hi : i.size = s := by simpa [hq] using hs
    simp at hst
    simp [Builtin.copy_, run_underlying hu, Builtin.lenOf, Builtin.firstCells, sizeOf, typeInfo, hq, hi, ← hn, hl, hst]
end Go
end
section
namespace Go.Proofs.Xx
open Go.RowKit Go.V Go.Grow

theorem flat_get (l : List Value) : ∀ (n i : Nat), i < n * l.length → ((List.replicate n l).flatten)[i]? = l[i % l.length]?
  | 0, i, h => by omega
  | n + 1, i, h => by
    rw [List.replicate_succ, List.flatten_cons]
    by_cases hi : i < l.length
    · rw [List.getElem?_append_left hi, Nat.mod_eq_of_lt hi]
    · rw [List.getElem?_append_right (by omega), flat_get l n (i - l.length) (by rw [Nat.succ_mul] at h; omega)]
      rw [Nat.mod_eq_sub_mod (a := i) (by omega)]
theorem flat_length (l : List Value) (n : Nat) : ((List.replicate n l).flatten).length = n * l.length := by
  rw [List.length_flatten, List.map_replicate, List.sum_replicate_nat]
theorem made_flat (z : Array Value) (n : Nat) (hz : 0 < z.size) : madeCells z (n * z.size) = ((List.replicate n z.toList).flatten).toArray := by
  apply Array.ext
  · simp [madeCells]
  · intro i h1 h2
    have hi : i < n * z.size := by simpa [madeCells] using h1
    have := flat_get z.toList n i (by simpa using hi)
    have hm : i % z.size < z.size := Nat.mod_lt _ hz
    have h3 : (madeCells z (n * z.size))[i] = z[i % z.size] := by simp [madeCells, hm]
    rw [h3]
    have h4 : ((List.replicate n z.toList).flatten).toArray[i]? = some z[i % z.size] := by
      rw [List.getElem?_toArray, this]
      simp [hm]
    exact (Option.some.inj ((Array.getElem?_eq_getElem h2).symm.trans h4)).symm
theorem numCells_replicate (n : Nat) (p : Bool) (m : Value) : numCells (List.replicate n (p, m)) = (List.replicate n [.bool p, m]).flatten := by
  induction n with
  | zero => rfl
  | succ n ih => rw [List.replicate_succ, List.replicate_succ, List.flatten_cons, ← ih]; rfl

theorem infoNum : (Tryz.prog.info? 109).map (fun i => (i.zero, i.size, i.bytes)) = some (some (.agg #[.bool false, .slice none 0 0]), 2, 32) := by kernel_rfl
theorem make_nums (t : TypeId) (ht : Tryz.prog.underlying t = some (.slice 109)) (c : Nat) (hc : c ≤ 1099511627776) (W : World) : (Instr.makeSlice t (.int .i64 c) (.int .i64 c)).run Tryz.prog W = .ok (.slice (some ⟨W.heap.size, 0, none⟩) c c) (W.alloc (.cells (numCells (List.replicate c (false, .slice none 0 0))).toArray 109)) := by
  obtain ⟨i0, hi, hzz⟩ := Option.map_eq_some_iff.1 infoNum
  simp only [Prod.mk.injEq] at hzz
  obtain ⟨hz0, hz1, hz2⟩ := hzz
  rw [run_make W t 109 i0 _ ht hi hz0 .i64 .i64 c c (by omega) (Int.le_refl _) (by rw [hz2]; omega) (by omega), hz1]
  show Result.ok _ (W.alloc (.cells (madeCells #[.bool false, .slice none 0 0] ((c : Int).toNat * (#[Value.bool false, .slice none 0 0] : Array Value).size)) 109)) = _
  rw [made_flat _ _ (by decide), numCells_replicate, Int.toNat_natCast]

theorem mass_one {w : World} {v : Value} {n : Nat} (h : IsMass w v n) : v.oneCell' = true := by
  obtain ⟨A, c, rfl, _⟩ := h
  rfl
theorem numCells_mem {vs : List (Bool × Value)} {x : Value} (h : x ∈ numCells vs) : ∃ p ∈ vs, x = .bool p.1 ∨ x = p.2 := by
  unfold numCells at h
  rw [List.mem_flatMap] at h
  obtain ⟨p, h1, h2⟩ := h
  refine ⟨p, h1, ?_⟩
  simpa using h2
theorem IsNum.isMass {w : World} {p : Bool} {m : Value} {z : Int} (h : IsNum w (.agg #[.bool p, m]) z) : IsMass w m z.natAbs := by
  obtain ⟨m', e, h⟩ := h
  simp only [Value.agg.injEq, Array.mk.injEq, List.cons.injEq, and_true] at e
  rw [e.2]
  exact h
/-- A row copied over a row. -/
theorem copy_row {w : World} {g h n cp cp2 : Nat} {f0 f : Nat → Int} (hg : NRow w g n f0) (hh : NRow w h n f) (ty : TypeId) :
    ∃ W, (Builtin.copy_ #[80, 80] ty #[.slice (some ⟨g, 0, none⟩) n cp, .slice (some ⟨h, 0, none⟩) n cp2]).run Tryz.prog w = .ok (.int .i64 (n : Int)) W ∧ NRow W g n f ∧ Keep w W ∧ (∀ k, k ≠ g → W.heap[k]? = w.heap[k]?) ∧ ∀ B, B ≤ g → Below B w W := by
  have hs : (Tryz.prog.info? 109).map (·.size) = some 2 := by
    have := congrArg (Option.map (fun x : Option Value × Nat × Nat => x.2.1)) infoNum
    simpa [Option.map_map, Function.comp_def] using this
  obtain ⟨vs0, ⟨T, hT⟩, l0, n0⟩ := hg
  obtain ⟨vs, hB, l1, n1⟩ := hh
  have lc : (numCells vs).length = n * 2 := by rw [numCells_length, l1]
  have lc0 : (numCells vs0).length = n * 2 := by rw [numCells_length, l0]
  have hr := run_copy_wide Tryz.prog w 80 80 ty 109 g n cp ⟨h, 0, none⟩ n cp2 2 _ T (numCells vs) Tryz.underlying80 hs hT (by rw [lc, show Nat.min n n = n from Nat.min_self n]) (fun j v hv => by
      rw [show (⟨h, 0, none⟩ : Addr).add j = ⟨h, j, none⟩ by unfold Addr.add; split <;> simp_all, hB.cell]
      exact hv) (by simp [lc, lc0]) (fun v hv => by
      obtain ⟨p, hp, e | e⟩ := numCells_mem hv
      · rw [e]; rfl
      · obtain ⟨j, hj⟩ := List.mem_iff_getElem?.1 hp
        rw [e]
        exact mass_one (IsNum.isMass (n1 j p hj)))
  rw [show (numCells vs0).toArray.toList.drop (numCells vs).length = [] by rw [lc]; simp [lc0], List.append_nil, show Nat.min n n = n from Nat.min_self n] at hr
  have hK : Keep w (w.setRow g (numCells vs).toArray) := Keep.setRow hT (fun u hu => by
    obtain ⟨p, hp, e2 | e2⟩ := numCells_mem (by simpa using hu)
    · rw [e2]; exact (notInt_bool _).u
    · obtain ⟨j, hj⟩ := List.mem_iff_getElem?.1 hp
      rw [e2]
      exact (n0 j p hj).notInt.u) _
  exact ⟨_, hr, ⟨vs, ⟨T, setRow_heap w g _ _ T _ hT⟩, l1, fun j p hp => (n1 j p hp).keep hK⟩, hK, fun k hk => setRow_other w g k _ hk, fun B hB => ⟨rfl, rfl, rfl, by simp [World.setRow], fun k hk => setRow_other w g k _ (by omega)⟩⟩
theorem width_any (b o m cap n : Nat) (q : Option Addr) (cp : Nat) (w : World) (h0 : w.cell? ⟨b, o, none⟩ = some (.slice q n cp)) (hm : 0 < m) : Calls Tryz.prog 118 #[.slice (some ⟨b, o, none⟩) m cap] w fun e w' => e = .returned (.int .i64 (n : Int)) ∧ w' = w := by
  go_enter Tryz.func118, Tryz.ntmps118
  go_wp2
  go_ret
  exact ⟨rfl, rfl⟩
end Go.Proofs.Xx
end
section
namespace Go.V
open Go.RowKit
/-- A list of a call's own: n elements of s cells each, none of them a group of digits; nil, or a row with room behind it. -/
def Lst (w : World) (B : Nat) (e : TypeId) (s : Nat) (v : Value) (n : Nat) (xs : List Value) : Prop :=
  xs.length = n * s ∧ (∀ u ∈ xs, NotU u) ∧ ((v = .slice none 0 0 ∧ n = 0) ∨ ∃ g c spare, v = .slice (some ⟨g, 0, none⟩) n (n + c) ∧ B ≤ g ∧ w.heap[g]? = some (.cells (xs ++ spare).toArray e (0, 0)) ∧ spare.length = c * s ∧ (∀ u ∈ spare, NotU u) ∧ n + c ≤ maxLen)
theorem Lst.nil (w : World) (B : Nat) (e : TypeId) (s : Nat) : Lst w B e s (.slice none 0 0) 0 [] := ⟨by simp, (fun u hu => by simp at hu), Or.inl ⟨rfl, rfl⟩⟩
theorem Lst.same {w w' : World} {B : Nat} {e : TypeId} {s : Nat} {v : Value} {n : Nat} {xs : List Value} (h : Lst w B e s v n xs) (hs : ∀ g, g < w.heap.size → v.ownBlock = some g → w'.heap[g]? = w.heap[g]?) : Lst w' B e s v n xs := by
  refine ⟨h.1, h.2.1, ?_⟩
  rcases h.2.2 with hn | ⟨g, c, spare, rfl, hb, hgg, rest⟩
  · exact .inl hn
  · exact .inr ⟨g, c, spare, rfl, hb, (hs g (Array.getElem?_eq_some_iff.1 hgg).1 rfl).trans hgg, rest⟩
theorem Lst.ext {w w' : World} {B : Nat} {e : TypeId} {s : Nat} {v : Value} {n : Nat} {xs : List Value} (h : Lst w B e s v n xs) (hE : Ext w w') : Lst w' B e s v n xs := h.same fun g hg _ => hE.block g hg
theorem Lst.weaken {w : World} {B B' : Nat} {e : TypeId} {s : Nat} {v : Value} {n : Nat} {xs : List Value} (h : Lst w B e s v n xs) (hB : B' ≤ B) : Lst w B' e s v n xs := by
  refine ⟨h.1, h.2.1, ?_⟩
  rcases h.2.2 with hn | ⟨g, c, spare, h1, hb, rest⟩
  · exact .inl hn
  · exact .inr ⟨g, c, spare, h1, Nat.le_trans hB hb, rest⟩
theorem Lst.slice {w : World} {B : Nat} {e : TypeId} {s : Nat} {v : Value} {n : Nat} {xs : List Value} (h : Lst w B e s v n xs) : ∃ A c, v = .slice A n c := by
  rcases h.2.2 with ⟨rfl, rfl⟩ | ⟨g, c, spare, rfl, _⟩
  · exact ⟨_, _, rfl⟩
  · exact ⟨_, _, rfl⟩
theorem Lst.own {w : World} {B : Nat} {e : TypeId} {s : Nat} {v : Value} {n : Nat} {xs : List Value} (h : Lst w B e s v n xs) {g : Nat} (hg : v.ownBlock = some g) : B ≤ g ∧ g < w.heap.size := by
  rcases h.2.2 with ⟨rfl, _⟩ | ⟨g', c, spare, rfl, hb, hgg, _⟩
  · cases hg
  · cases hg
    exact ⟨hb, (Array.getElem?_eq_some_iff.1 hgg).1⟩
/-- The cells of a list that is not empty. -/
theorem Lst.cell {w : World} {B : Nat} {e : TypeId} {s : Nat} {v : Value} {n : Nat} {xs : List Value} (h : Lst w B e s v n xs) (hn : 0 < n) : ∃ g c, v = .slice (some ⟨g, 0, none⟩) n (n + c) ∧ n + c ≤ maxLen ∧ B ≤ g ∧ g < w.heap.size ∧ (∀ j u, xs[j]? = some u → w.cell? ⟨g, j, none⟩ = some u) ∧ ∀ j, w.frozen? ⟨g, j, none⟩ = false := by
  rcases h.2.2 with ⟨_, h0⟩ | ⟨g, c, spare, rfl, hb, hgg, _, _, hm⟩
  · omega
  · refine ⟨g, c, rfl, hm, hb, (Array.getElem?_eq_some_iff.1 hgg).1, fun j u hu => ?_, fun j => by simp [World.frozen?, hgg]⟩
    have : (xs ++ spare)[j]? = some u := by
      rw [List.getElem?_append_left (List.getElem?_eq_some_iff.1 hu).1]; exact hu
    simp [World.cell?, hgg, this]
theorem zeros_notU {z : Array Value} (hz : ∀ u ∈ z, NotU u) (k : Nat) : ∀ u ∈ Builtin.zeroCells z k, NotU u := by
  intro u hu
  unfold Builtin.zeroCells at hu
  rw [Array.mem_map] at hu
  obtain ⟨i, hi, rfl⟩ := hu
  by_cases h0 : z.size = 0
  · rw [h0] at hi; simp at hi
  · have : i % z.size < z.size := Nat.mod_lt _ (by omega)
    rw [getElem!_pos z (i % z.size) this]
    exact hz _ (Array.getElem_mem this)
theorem add0 (g j : Nat) : (⟨g, 0, none⟩ : Addr).add j = ⟨g, j, none⟩ := by unfold Addr.add; split <;> simp_all

/-- append to such a list. -/
theorem Lst.append {P : Program} {w : World} {B : Nat} {e : TypeId} {s : Nat} {v : Value} {n : Nat} {xs : List Value} (h : Lst w B e s v n xs) (t ty : TypeId) (i : TypeInfo) (z : Value) (bytes : Nat) (ht : P.underlying t = some (.slice e)) (hi : P.info? e = some i) (hz : i.zero = some z)
    (hsize : i.size = s) (hby : i.bytes = bytes) (hzs : z.cells.size = s) (hsz : 0 < s) (hzn : ∀ u ∈ z.cells, NotU u) (a : Addr) (m c : Nat) (news : List Value) (hl : news.length = m * s) (hnews : ∀ j u, news[j]? = some u → w.cell? (a.add j) = some u) (h1 : ∀ u ∈ news, u.oneCell' = true) (hnn : ∀ u ∈ news, NotU u)
    (hm : 0 < m) (h63 : n + m ≤ maxLen) (hbytes : (n + m) * bytes ≤ 140737488355328) (hB : B ≤ w.heap.size) :
    ∃ v' w', (Builtin.append_ #[t, t] ty #[v, .slice (some a) m c]).run P w = .ok v' w' ∧ Lst w' B e s v' (n + m) (xs ++ news) ∧ Keep w w' ∧ w.grownBy w' v.ownBlock ∧ (v'.ownBlock = v.ownBlock ∨ v'.ownBlock = some w.heap.size) ∧
      ∀ g, v.ownBlock = some g → w'.heap[g]? = w.heap[g]? ∨ ∃ sp sp', w.heap[g]? = some (.cells (xs ++ sp).toArray e (0, 0)) ∧ w'.heap[g]? = some (.cells (xs ++ (news ++ sp')).toArray e (0, 0)) ∧ sp.length = news.length + sp'.length ∧ ∀ u ∈ sp', NotU u := by
  subst hsize
  subst hby
  have hsmall : n + m ≤ 9223372036854775807 := by simp only [maxLen] at h63; omega
  obtain ⟨hxl, hxn, hv⟩ := h
  have hlen : (xs ++ news).length = (n + m) * i.size := by rw [List.length_append, hxl, hl, Nat.add_mul]
  have hnotu : ∀ u ∈ xs ++ news, NotU u := fun u hu => by
    rcases List.mem_append.1 hu with k | k
    · exact hxn u k
    · exact hnn u k
  have grown : ∀ (old : Nat) (cs : Array Value), old < n + m → cs = xs.toArray ++ news.toArray ++ Builtin.zeroCells z.cells (grownCap w (n + m) old e - (n + m)) →
      Lst (w.drew.alloc (.cells cs e)) B e i.size (.slice (some ⟨w.heap.size, 0, none⟩) (n + m) (grownCap w (n + m) old e)) (n + m) (xs ++ news) := by
    intro old cs ho hcs
    have hge := grownCap_ge w (n + m) old e
    have hcm : grownCap w (n + m) old e ≤ maxLen := grownCap_le_maxLen w (n + m) old e h63
    generalize grownCap w (n + m) old e = k at *
    refine ⟨hlen, hnotu, .inr ⟨w.heap.size, k - (n + m), (Builtin.zeroCells z.cells (k - (n + m))).toList, by rw [Nat.add_sub_cancel' hge], hB, ?_, ?_, fun u hu => zeros_notU hzn _ u (by simpa using hu), by omega⟩⟩
    · have := heap_alloc_new w.drew (.cells cs e)
      rw [show (w.drew).heap.size = w.heap.size from rfl] at this
      rw [this, hcs]
      congr 2
      simp
    · rw [Array.length_toList, size_zeroCells, hzs]
  have gb : ∀ (o : Obj) (row : Option Nat), w.grownBy (w.drew.alloc o) row := fun o row => ⟨rfl, rfl, rfl, by simp, fun k hk _ => Below.heap_alloc w.drew _ k hk⟩
  have kb : ∀ o : Obj, Keep w (w.drew.alloc o) := fun o => (Ext.trans _ _ _ (Ext.drew w) (Ext.alloc _ _)).keep
  rcases hv with ⟨rfl, rfl⟩ | ⟨g, cc, spare, rfl, hbg, hg, hsl, hsn, hcm⟩
  · have hx : xs = [] := List.eq_nil_of_length_eq_zero (by simpa using hxl)
    subst hx
    have hr := run_append_nil (P := P) w t ty e i z ht hi hz a m c news hl hnews hm (by omega) (by have hb := hbytes; simp only [Nat.zero_add] at hb; omega)
    have hgr := grown 0 (news.toArray ++ Builtin.zeroCells z.cells (grownCap w m 0 e - m)) (by omega) (by simp)
    simp only [Nat.zero_add, List.nil_append] at hgr ⊢
    exact ⟨_, _, hr, hgr, kb _, gb _ _, .inr rfl, fun g hg => by cases hg⟩
  · have hbc : Blk w g (xs ++ spare) := ⟨e, hg⟩
    by_cases hroom : m ≤ cc
    · have hsl2 : m * i.size ≤ spare.length := by rw [hsl]; exact Nat.mul_le_mul_right _ hroom
      have hr := run_append_room (P := P) w t ty e i ht hi g n (n + cc) (xs ++ spare).toArray hg a m c news hl hnews h1 (by omega) (by simp only [List.size_toArray, List.length_append]; omega)
      have hlist : (xs ++ spare).toArray.toList.take (n * i.size) ++ news ++ (xs ++ spare).toArray.toList.drop (n * i.size + news.length) = (xs ++ news) ++ spare.drop (m * i.size) := by
        simp only [← hxl, hl]
        rw [List.take_left, List.drop_append]
        simp
      rw [hlist] at hr
      refine ⟨_, _, hr, ⟨hlen, hnotu, .inr ⟨g, cc - m, spare.drop (m * i.size), by rw [show n + m + (cc - m) = n + cc by omega], hbg, setRow_heap w g _ _ e _ hg, ?_, fun u hu => hsn u (List.mem_of_mem_drop hu), by omega⟩⟩, ?_, ⟨rfl, rfl, rfl, by simp, fun k _ hk => setRow_other w g k _ (fun e => hk (by simp [Value.ownBlock, e]))⟩, .inl rfl, fun q hq => .inr ⟨spare, spare.drop (m * i.size), ?_, ?_, ?_, fun u hu => hsn u (List.mem_of_mem_drop hu)⟩⟩
      · rw [List.length_drop, hsl, Nat.sub_mul]
      · refine Keep.setRow hg (fun u hu => ?_) _
        rcases List.mem_append.1 (by simpa using hu : u ∈ xs ++ spare) with k | k
        · exact hxn u k
        · exact hsn u k
      · cases hq; exact hg
      · cases hq
        rw [setRow_heap w g _ _ e _ hg, List.append_assoc]
      · rw [List.length_drop, hl]
        omega
    · have holds : ∀ j u, xs[j]? = some u → w.cell? ((⟨g, 0, none⟩ : Addr).add j) = some u := fun j u hu => by
        rw [add0, hbc.cell, List.getElem?_append_left (List.getElem?_eq_some_iff.1 hu).1]
        exact hu
      have hr := run_append_grow (P := P) w t ty e i z ht hi hz ⟨g, 0, none⟩ n (n + cc) xs hxl holds a m c news hl hnews (by omega) (by omega) (growslice_fits (by omega) hbytes)
      exact ⟨_, _, hr, grown (n + cc) _ (by
        by_cases h : n + cc < n + m
        · exact h
        · omega) rfl, kb _, gb _ _, .inr rfl, fun q hq => .inl (by
        cases hq
        exact Below.heap_alloc w.drew _ g hbc.lt)⟩
end Go.V
end
section
namespace Go.V
open Go.RowKit
/-- The cells of ratios: three each. -/
def ratCells (vs : List (Bool × Value × Value)) : List Value := vs.flatMap fun p => [.bool p.1, p.2.1, p.2.2]
theorem ratCells_length (vs : List (Bool × Value × Value)) : (ratCells vs).length = vs.length * 3 := by
  induction vs with
  | nil => rfl
  | cons p l ih => simp only [ratCells, List.flatMap_cons, List.length_append, List.length_cons, List.length_nil] at ih ⊢; omega
theorem ratCells_get : ∀ (vs : List (Bool × Value × Value)) (j : Nat), (ratCells vs)[j * 3]? = vs[j]?.map (fun p => .bool p.1) ∧ (ratCells vs)[j * 3 + 1]? = vs[j]?.map (·.2.1) ∧ (ratCells vs)[j * 3 + 2]? = vs[j]?.map (·.2.2)
  | [], j => by simp [ratCells]
  | p :: l, 0 => by simp [ratCells]
  | p :: l, j + 1 => by
    have := ratCells_get l j
    simp only [ratCells, List.flatMap_cons] at this ⊢
    rw [show (j + 1) * 3 = j * 3 + 1 + 1 + 1 by omega]
    simpa using this
theorem ratCells_set : ∀ (vs : List (Bool × Value × Value)) (j : Nat) (p : Bool × Value × Value), ratCells (vs.set j p) = (((ratCells vs).set (j * 3) (.bool p.1)).set (j * 3 + 1) p.2.1).set (j * 3 + 2) p.2.2
  | [], j, p => by simp [ratCells]
  | q :: l, 0, p => by simp [ratCells]
  | q :: l, j + 1, p => by
    have := ratCells_set l j p
    simp only [ratCells, List.flatMap_cons, List.set_cons_succ] at this ⊢
    rw [this, show (j + 1) * 3 = j * 3 + 1 + 1 + 1 by omega]
    simp
theorem ratCells_replicate (n : Nat) (p : Bool) (m d : Value) : ratCells (List.replicate n (p, m, d)) = (List.replicate n [.bool p, m, d]).flatten := by
  induction n with
  | zero => rfl
  | succ n ih => rw [List.replicate_succ, List.replicate_succ, List.flatten_cons, ← ih]; rfl

/-- A block of n ratios; those at the places D read as f says. -/
def RRow (w : World) (g n : Nat) (D : Nat → Prop) (f : Nat → Rat) : Prop := ∃ vs, Blk w g (ratCells vs) ∧ vs.length = n ∧ (∀ (j : Nat) (p : Bool × Value × Value), vs[j]? = some p → NotInt p.2.1 ∧ NotInt p.2.2) ∧ ∀ (j : Nat) (p : Bool × Value × Value), vs[j]? = some p → D j → IsRat w (.agg #[.bool p.1, p.2.1, p.2.2]) (f j)
theorem RRow.keep {w w' : World} {g n : Nat} {D : Nat → Prop} {f : Nat → Rat} (h : RRow w g n D f) (hb : w'.heap[g]? = w.heap[g]?) (hK : Keep w w') : RRow w' g n D f := by
  obtain ⟨vs, h1, h2, h3, h4⟩ := h
  exact ⟨vs, h1.same hb, h2, h3, fun j p hp hD => (h4 j p hp hD).keep hK⟩
theorem RRow.lt {w : World} {g n : Nat} {D : Nat → Prop} {f : Nat → Rat} (h : RRow w g n D f) : g < w.heap.size := by
  obtain ⟨vs, h1, _⟩ := h
  exact h1.lt
theorem RRow.ext {w w' : World} {g n : Nat} {D : Nat → Prop} {f : Nat → Rat} (h : RRow w g n D f) (hE : Ext w w') : RRow w' g n D f := h.keep (hE.block g h.lt) hE.keep
theorem RRow.cells {w : World} {g n : Nat} {D : Nat → Prop} {f : Nat → Rat} (h : RRow w g n D f) {j : Nat} (hj : j < n) :
    ∃ p m d, w.cell? ⟨g, j * 3, none⟩ = some (.bool p) ∧ w.cell? ⟨g, j * 3 + 1, none⟩ = some m ∧ w.cell? ⟨g, j * 3 + 2, none⟩ = some d ∧ NotInt m ∧ NotInt d ∧ (D j → IsRat w (.agg #[.bool p, m, d]) (f j)) ∧ w.frozen? ⟨g, j * 3, none⟩ = false ∧ w.frozen? ⟨g, j * 3 + 1, none⟩ = false ∧ w.frozen? ⟨g, j * 3 + 2, none⟩ = false := by
  obtain ⟨vs, h1, rfl, h3, h4⟩ := h
  obtain ⟨k1, k2, k3⟩ := ratCells_get vs j
  rw [List.getElem?_eq_getElem hj] at k1 k2 k3
  have hg := List.getElem?_eq_getElem hj
  exact ⟨_, _, _, (h1.cell _).trans k1, (h1.cell _).trans k2, (h1.cell _).trans k3, (h3 j _ hg).1, (h3 j _ hg).2, h4 j _ hg, h1.frozen _, h1.frozen _, h1.frozen _⟩
theorem IsRat.parts {w : World} {p : Bool} {m d : Value} {q : Rat} (h : IsRat w (.agg #[.bool p, m, d]) q) : p = decide (q.num < 0) ∧ IsMass w m q.num.natAbs ∧ IsMass w d q.den := by
  obtain ⟨m', d', e, h1, h2⟩ := h
  simp only [Value.agg.injEq, Array.mk.injEq, List.cons.injEq, Value.bool.injEq, and_true] at e
  obtain ⟨rfl, rfl, rfl⟩ := e
  exact ⟨rfl, h1, h2⟩
/-- A store of a ratio into such a block. -/
theorem RRow.set {w : World} {g n : Nat} {D : Nat → Prop} {f : Nat → Rat} (h : RRow w g n D f) {j : Nat} (hj : j < n) {p : Bool} {m d : Value} {z : Rat} (hz : IsRat w (.agg #[.bool p, m, d]) z) :
    RRow (((w.setCell ⟨g, j * 3, none⟩ (.bool p)).setCell ⟨g, j * 3 + 1, none⟩ m).setCell ⟨g, j * 3 + 2, none⟩ d) g n (fun c => c = j ∨ D c) (fun c => if c = j then z else f c) ∧ Keep w (((w.setCell ⟨g, j * 3, none⟩ (.bool p)).setCell ⟨g, j * 3 + 1, none⟩ m).setCell ⟨g, j * 3 + 2, none⟩ d) := by
  obtain ⟨p0, m0, d0, k1, k2, k3, n1, n2, _⟩ := h.cells hj
  have K1 : Keep w (w.setCell ⟨g, j * 3, none⟩ (.bool p)) := Keep.set k1 (notInt_bool _) _
  have k2' : (w.setCell ⟨g, j * 3, none⟩ (.bool p)).cell? ⟨g, j * 3 + 1, none⟩ = some m0 := by
    rw [World.cell?_setCell_other _ _ _ _ (by simp)]; exact k2
  have K2 := K1.trans (Keep.set k2' n1 m)
  have k3' : ((w.setCell ⟨g, j * 3, none⟩ (.bool p)).setCell ⟨g, j * 3 + 1, none⟩ m).cell? ⟨g, j * 3 + 2, none⟩ = some d0 := by
    rw [World.cell?_setCell_other _ _ _ _ (by simp), World.cell?_setCell_other _ _ _ _ (by simp)]; exact k3
  have K3 := K2.trans (Keep.set k3' n2 d)
  obtain ⟨hp, hm, hd⟩ := hz.parts
  obtain ⟨vs, h1, h2, h3, h4⟩ := h
  refine ⟨⟨vs.set j (p, m, d), ?_, by simpa using h2, fun i q hq => ?_, fun i q hq hD => ?_⟩, K3⟩
  · rw [ratCells_set]
    exact ((h1.set _ _).set _ _).set _ _
  · rw [List.getElem?_set] at hq
    split at hq
    · split at hq
      · cases hq; exact ⟨hm.notInt, hd.notInt⟩
      · cases hq
    · exact h3 i q hq
  · rw [List.getElem?_set] at hq
    split at hq
    · rename_i e
      subst e
      split at hq
      · cases hq
        show IsRat _ _ (if j = j then z else f j)
        rw [if_pos rfl]
        exact hz.keep K3
      · cases hq
    · rename_i e
      show IsRat _ _ (if i = j then z else f i)
      rw [if_neg (fun k => e k.symm)]
      exact (h4 i q hq (hD.resolve_left (fun k => e k.symm))).keep K3
theorem RRow.rats {w : World} {g n c : Nat} {D : Nat → Prop} {f : Nat → Rat} (h : RRow w g n D f) (hD : ∀ j, j < n → D j) (hc : n ≤ c) (hm : c ≤ maxLen) : IsRats w (.slice (some ⟨g, 0, none⟩) n c) ((List.range n).map f) := by
  refine ⟨_, c, by simp, by simpa using hc, hm, .inr ⟨g, 0, rfl, fun i q hq => ?_⟩⟩
  have hi : i < n := by
    have := (List.getElem?_eq_some_iff.1 hq).1
    simpa using this
  have hqf : q = f i := by
    rw [List.getElem?_map, List.getElem?_range hi] at hq
    simpa using hq.symm
  obtain ⟨p, m, d, k1, k2, k3, _, _, k4, _⟩ := h.cells hi
  rw [hqf, Nat.zero_add]
  exact ⟨p, m, d, k1, k2, k3, k4 (hD i hi)⟩
/-- A fraction's two texts. -/
abbrev Fr := ByteArray × ByteArray
/-- A slice that reads as a list of fractions: two texts each. -/
def IsFracs (w : World) (v : Value) (l : List Fr) : Prop := ∃ A c, v = .slice A l.length c ∧ l.length ≤ c ∧ c ≤ maxLen ∧
  (l = [] ∨ ∃ b o, A = some ⟨b, o, none⟩ ∧ ∀ i (x : Fr), l[i]? = some x → w.cell? ⟨b, o + i * 2, none⟩ = some (.string x.1) ∧ w.cell? ⟨b, o + i * 2 + 1, none⟩ = some (.string x.2))
theorem IsFracs.mono {w w' : World} {v : Value} {l : List Fr} (h : IsFracs w v l) (hE : Ext w w') : IsFracs w' v l := by
  obtain ⟨A, c, h1, h2, h3, h4⟩ := h
  refine ⟨A, c, h1, h2, h3, ?_⟩
  rcases h4 with h4 | ⟨b, o, h5, h6⟩
  · exact .inl h4
  · exact .inr ⟨b, o, h5, fun i x hx => ⟨hE.cell (h6 i x hx).1, hE.cell (h6 i x hx).2⟩⟩
theorem IsFracs.get {w : World} {A : Option Addr} {n c : Nat} {l : List Fr} (h : IsFracs w (.slice A n c) l) {i : Nat} {x : Fr} (hx : l[i]? = some x) :
    ∃ b o, A = some ⟨b, o, none⟩ ∧ w.cell? ⟨b, o + i * 2, none⟩ = some (.string x.1) ∧ w.cell? ⟨b, o + i * 2 + 1, none⟩ = some (.string x.2) := by
  obtain ⟨A', c', e, _, _, h4⟩ := h
  cases e
  rcases h4 with h4 | ⟨b, o, h5, h6⟩
  · rw [h4] at hx; cases hx
  · exact ⟨b, o, h5, h6 i x hx⟩
/-- A slice of such slices. -/
def IsTab (w : World) (v : Value) (t : List (List Fr)) : Prop := ∃ A c, v = .slice A t.length c ∧ t.length ≤ c ∧ c ≤ maxLen ∧
  (t = [] ∨ ∃ b o, A = some ⟨b, o, none⟩ ∧ ∀ i l, t[i]? = some l → ∃ u, w.cell? ⟨b, o + i, none⟩ = some u ∧ IsFracs w u l)
theorem IsTab.mono {w w' : World} {v : Value} {t : List (List Fr)} (h : IsTab w v t) (hE : Ext w w') : IsTab w' v t := by
  obtain ⟨A, c, h1, h2, h3, h4⟩ := h
  refine ⟨A, c, h1, h2, h3, ?_⟩
  rcases h4 with h4 | ⟨b, o, h5, h6⟩
  · exact .inl h4
  · refine .inr ⟨b, o, h5, fun i l hl => ?_⟩
    obtain ⟨u, k1, k2⟩ := h6 i l hl
    exact ⟨u, hE.cell k1, k2.mono hE⟩
theorem IsTab.get {w : World} {A : Option Addr} {n c : Nat} {t : List (List Fr)} (h : IsTab w (.slice A n c) t) {i : Nat} {l : List Fr} (hl : t[i]? = some l) :
    ∃ b o u, A = some ⟨b, o, none⟩ ∧ w.cell? ⟨b, o + i, none⟩ = some u ∧ IsFracs w u l := by
  obtain ⟨A', c', e, _, _, h4⟩ := h
  cases e
  rcases h4 with h4 | ⟨b, o, h5, h6⟩
  · rw [h4] at hl; cases hl
  · obtain ⟨u, k1, k2⟩ := h6 i l hl
    exact ⟨b, o, u, h5, k1, k2⟩
end Go.V
namespace Go.Proofs.Xx
open Go.RowKit Go.V Go.Grow
theorem infoRat : (Tryz.prog.info? 111).map (fun i => (i.zero, i.size, i.bytes)) = some (some (.agg #[.bool false, .slice none 0 0, .slice none 0 0]), 3, 56) := by kernel_rfl
theorem make_rats (t : TypeId) (ht : Tryz.prog.underlying t = some (.slice 111)) (c : Nat) (hc : c ≤ 1099511627776) (W : World) : (Instr.makeSlice t (.int .i64 c) (.int .i64 c)).run Tryz.prog W = .ok (.slice (some ⟨W.heap.size, 0, none⟩) c c) (W.alloc (.cells (ratCells (List.replicate c (false, .slice none 0 0, .slice none 0 0))).toArray 111)) := by
  obtain ⟨i0, hi, hzz⟩ := Option.map_eq_some_iff.1 infoRat
  simp only [Prod.mk.injEq] at hzz
  obtain ⟨hz0, hz1, hz2⟩ := hzz
  rw [run_make W t 111 i0 _ ht hi hz0 .i64 .i64 c c (by omega) (Int.le_refl _) (by rw [hz2]; omega) (by omega), hz1]
  show Result.ok _ (W.alloc (.cells (madeCells #[.bool false, .slice none 0 0, .slice none 0 0] ((c : Int).toNat * (#[Value.bool false, .slice none 0 0, .slice none 0 0] : Array Value).size)) 111)) = _
  rw [made_flat _ _ (by decide), ratCells_replicate, Int.toNat_natCast]
theorem RRow.fresh (w : World) (n : Nat) (T : TypeId) (f : Nat → Rat) : RRow (w.alloc (.cells (ratCells (List.replicate n (false, .slice none 0 0, .slice none 0 0))).toArray T)) w.heap.size n (fun _ => False) f :=
  ⟨_, Blk.new _ _ _, by simp, (fun j p hp => by
    rw [List.getElem?_replicate] at hp
    split at hp
    · cases hp
      exact ⟨notInt_slice _ _ _, notInt_slice _ _ _⟩
    · cases hp), fun _ _ _ h => h.elim⟩
end Go.Proofs.Xx
end
