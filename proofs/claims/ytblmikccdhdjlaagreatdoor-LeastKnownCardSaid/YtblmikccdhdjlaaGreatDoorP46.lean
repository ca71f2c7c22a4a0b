/- A part of the proof: the texts W78, W79. -/
import Derived.Test.YtblmikccdhdjlaaGreatDoorP45
set_option linter.unusedVariables false
set_option linter.unusedSimpArgs false
section
namespace Go
/-- copy into a row from some place on. -/
theorem run_copy_at (P : Program) (w : World) (dT sT ty elem : TypeId) (g o dLen dCap : Nat) (a : Addr) (sLen sCap s : Nat) (cur : Array Value) (t : TypeId) (cs : List Value)
    (hu : P.underlying dT = some (.slice elem)) (hs : (P.info? elem).map (·.size) = some s)
    (hg : w.heap[g]? = some (.cells cur t (0, 0))) (hn : cs.length = Nat.min sLen dLen * s)
    (hsrc : ∀ j v, cs[j]? = some v → w.cell? (a.add j) = some v) (hfit : o + cs.length ≤ cur.size) (h1 : ∀ v ∈ cs, v.oneCell' = true) :
    (Builtin.copy_ #[dT, sT] ty #[.slice (some ⟨g, o, none⟩) dLen dCap, .slice (some a) sLen sCap]).run P w =
      .ok (goInt (Nat.min sLen dLen)) (w.setRow g (cur.toList.take o ++ cs ++ cur.toList.drop (o + cs.length)).toArray) := by
  have hl := run_loadCells_list (P := P) w a cs hsrc
  have hst := run_storeCells_at P g o t cs 0 cur w hg (by simpa using hfit) h1
  rw [Nat.add_zero] at hst
  cases hq : P.info? elem with
  | none => simp [hq] at hs
  | some i =>
    have hi : i.size = s := by simpa [hq] using hs
    simp at hst
    simp [Builtin.copy_, run_underlying hu, Builtin.lenOf, Builtin.firstCells, sizeOf, typeInfo, hq, hi, ← hn, hl, hst]
theorem setRow_twice (w : World) (g : Nat) (X : Array Value) : (w.setRow g X).setRow g X = w.setRow g X := by
  unfold World.setRow
  congr 1
  apply Array.ext_getElem?
  intro i
  simp only [Array.getElem?_modify]
  by_cases h : g = i
  · rw [if_pos h, if_pos h]
    cases w.heap[i]? with
    | none => rfl
    | some o => cases o <;> rfl
  · rw [if_neg h, if_neg h]
end Go
namespace Go.V
open Go.RowKit
/-- What a copy within one row may do. -/
def ER (g : Nat) (X : Array Value) (a b : World) : Prop := b = a ∨ b = a.setRow g X
theorem ER.refl (g : Nat) (X : Array Value) (a : World) : ER g X a a := .inl rfl
theorem ER.trans (g : Nat) (X : Array Value) (a b c : World) (h : ER g X a b) (k : ER g X b c) : ER g X a c := by
  rcases h with rfl | rfl
  · exact k
  · rcases k with rfl | rfl
    · exact .inr rfl
    · exact .inr (setRow_twice _ _ _)
/-- n elements, all alike. -/
def fill (x : List Value) (n : Nat) : List Value := (List.replicate n x).flatten
theorem fill_length (x : List Value) (n : Nat) : (fill x n).length = n * x.length := by simp [fill]
theorem fill_add (x : List Value) (n k : Nat) : fill x n ++ fill x k = fill x (n + k) := by
  unfold fill
  rw [← List.flatten_append, List.replicate_append_replicate]
theorem fill_mem {x : List Value} {n : Nat} {u : Value} (h : u ∈ fill x n) : u ∈ x := by
  unfold fill at h
  rw [List.mem_flatten] at h
  obtain ⟨l, h1, h2⟩ := h
  rwa [(List.mem_replicate.1 h1).2] at h2
theorem fill_get (x : List Value) : ∀ (n i j : Nat), i < n → j < x.length → (fill x n)[i * x.length + j]? = x[j]?
  | n + 1, 0, j, _, hj => by
    unfold fill
    rw [List.replicate_succ, List.flatten_cons, Nat.zero_mul, Nat.zero_add, List.getElem?_append_left hj]
  | n + 1, i + 1, j, hi, hj => by
    unfold fill
    rw [List.replicate_succ, List.flatten_cons, List.getElem?_append_right (by rw [Nat.succ_mul]; omega)]
    have := fill_get x n i j (by omega) hj
    unfold fill at this
    rw [← this]
    congr 1
    rw [Nat.succ_mul]
    omega
end Go.V
namespace Go.Proofs.Xx
open Go.RowKit Go.V Go.Grow Lin Go.Txt
theorem copy_exec {P : Program} {w w' : World} {o : Oper} {a : Act} (s x : Operand) (t t2 : TypeId) (hop : o.op = Op.call { callee := Callee.builtin Builtin.copy, args := #[s, x], argTypes := #[t, t2] }) {v u v' : Value} (hs : a.eval s = v) (hx : a.eval x = u)
    (hrun : (Builtin.copy_ #[t, t2] o.type #[v, u]).run P w = .ok v' w') : (execOp a.eval o).run P w = .ok (.value v') w' := by
  simp [execOp, hop, resolve, invoke, builtin, hs, hx, hrun, Result.andThen]
theorem make_fracs (c : Nat) (hc : c ≤ 1099511627776) (W : World) : (Instr.makeSlice 23 (.int .i64 c) (.int .i64 c)).run Tryz.prog W = .ok (.slice (some ⟨W.heap.size, 0, none⟩) c c) (W.alloc (.cells (fill [.string .empty, .string .empty] c).toArray 46)) := by
  obtain ⟨i0, hi, hzz⟩ := Option.map_eq_some_iff.1 infoFrac
  simp only [Prod.mk.injEq] at hzz
  obtain ⟨hz0, hz1, hz2⟩ := hzz
  rw [run_make W 23 46 i0 _ Tryz.underlying23 hi hz0 .i64 .i64 c c (by omega) (Int.le_refl _) (by rw [hz2]; omega) (by omega), hz1]
  show Result.ok _ (W.alloc (.cells (madeCells #[.string .empty, .string .empty] ((c : Int).toNat * (#[Value.string .empty, .string .empty] : Array Value).size)) 46)) = _
  rw [made_flat _ _ (by decide), Int.toNat_natCast]
  rfl
theorem infoFracs : (Tryz.prog.info? 23).map (fun i => (i.zero, i.size, i.bytes)) = some (some (.slice none 0 0), 1, 24) := by kernel_rfl
theorem make_fracss (c : Nat) (hc : c ≤ 1099511627776) (W : World) : (Instr.makeSlice 22 (.int .i64 c) (.int .i64 c)).run Tryz.prog W = .ok (.slice (some ⟨W.heap.size, 0, none⟩) c c) (W.alloc (.cells (fill [.slice none 0 0] c).toArray 23)) := by
  obtain ⟨i0, hi, hzz⟩ := Option.map_eq_some_iff.1 infoFracs
  simp only [Prod.mk.injEq] at hzz
  obtain ⟨hz0, hz1, hz2⟩ := hzz
  rw [run_make W 22 23 i0 _ Tryz.underlying22 hi hz0 .i64 .i64 c c (by omega) (Int.le_refl _) (by rw [hz2]; omega) (by omega), hz1]
  show Result.ok _ (W.alloc (.cells (madeCells #[.slice none 0 0] ((c : Int).toNat * (#[Value.slice none 0 0] : Array Value).size)) 23)) = _
  rw [made_flat _ _ (by decide), Int.toNat_natCast]
  rfl

set_option maxHeartbeats 4000000 in
set_option maxRecDepth 100000 in
theorem repF_any (a : Addr) (c : Nat) (x : List Value) (N : Nat) (w : World) (hx : x.length = 2) (hc : ∀ j u, x[j]? = some u → w.cell? (a.add j) = some u) (h1 : ∀ u ∈ x, u.oneCell' = true) (hN : 1 ≤ N) (hN2 : N ≤ 1000) :
    Calls Tryz.prog 38 #[.slice (some a) 1 c, .int .i64 N] w fun e w' => e = .returned (.slice (some ⟨w.heap.size, 0, none⟩) N N) ∧ Blk w' w.heap.size (fill x N) ∧ Ext w w' := by
  have hmk := make_fracs N (by omega)
  have HMUL : Hid (∀ u : World, Calls Tryz.prog 98 #[.int .u64 1, .int .u64 N] u fun e u' => e = .returned (.tuple #[.int .u64 0, .int .u64 N]) ∧ u' = u) := fun u => by
    have := Tryz.bits_Mul 1 N (by omega) (by omega) u
    rw [Nat.one_mul, Nat.div_eq_of_lt (by omega), Nat.mod_eq_of_lt (by omega)] at this
    exact this
  obtain ⟨W1, hW1⟩ : ∃ W1, W1 = w.alloc (.cells (fill [.string .empty, .string .empty] N).toArray 46) := ⟨_, rfl⟩
  have E1 : Ext w W1 := hW1 ▸ Ext.alloc _ _
  have hb1 : W1.heap[w.heap.size]? = some (.cells (fill [.string .empty, .string .empty] N).toArray 46 (0, 0)) := by rw [hW1]; exact heap_alloc_new w _
  have hun : (Tryz.prog.info? 46).map (·.size) = some 2 := by
    have := infoFrac
    rw [Option.map_eq_some_iff] at this ⊢
    obtain ⟨i, h1, h2⟩ := this
    exact ⟨i, h1, (Prod.mk.inj (Prod.mk.inj h2).2).1⟩
  have hzl : (fill [.string .empty, .string .empty] N).length = N * 2 := by rw [fill_length]; rfl
  have hcp := run_copy_at Tryz.prog W1 23 23 3 46 w.heap.size 0 N N a 1 c 2 (fill [.string .empty, .string .empty] N).toArray 46 x Tryz.underlying23 hun hb1 (by rw [hx, show Nat.min 1 N = 1 from Nat.min_eq_left hN, Nat.one_mul]) (fun j v hv => E1.cell (hc j v hv)) (by simp only [List.size_toArray]; rw [hzl, hx, Nat.zero_add]; exact Nat.le_mul_of_pos_left _ hN) h1
  simp only [List.take_zero, List.nil_append, Nat.zero_add, show Nat.min 1 N = 1 from Nat.min_eq_left hN] at hcp
  obtain ⟨W2, hW2⟩ : ∃ W2, W2 = W1.setRow w.heap.size (x ++ (fill [.string .empty, .string .empty] N).toArray.toList.drop x.length).toArray := ⟨_, rfl⟩
  have hb2 : W2.heap[w.heap.size]? = some (.cells (fill x 1 ++ (fill [.string .empty, .string .empty] N).drop 2).toArray 46 (0, 0)) := by
    rw [hW2, setRow_heap W1 _ _ _ _ _ hb1, hx]
    simp [fill]
  have E2 : Ext w W2 := by
    rw [hW2]
    exact ⟨E1.os, E1.tape, E1.output, by simp; exact E1.size, fun q hq => (setRow_other W1 _ q _ (by omega)).trans (E1.block q hq)⟩
  rw [← hW2] at hcp
  have HCP := Lib.hid hcp
  have HB2 := Lib.hid hb2
  have HE2 := Lib.hid E2
  have HX := Lib.hid hx
  have H1 := Lib.hid h1
  have HN := Lib.hid hN
  have HN2 := Lib.hid hN2
  have HUN := Lib.hid hun
  have HZL := Lib.hid hzl
  have hNs : (0 : Int) ≤ (N : Int) := by omega
  have hNb : ¬ ((9223372036854775807 : Int) < (N : Int)) := by omega
  have hw1 : IntKind.i64.wrap (N : Int) = (N : Int) := by rw [IntKind.wrap_i64]; omega
  have hw2 : IntKind.u64.wrap (N : Int) = (N : Int) := by rw [IntKind.wrap_u64]; omega
  clear hcp hb2 E2 hx h1 hun hc hb1 E1 hN hN2 hzl
  go_enter Tryz.func38, Tryz.ntmps38
  go_wp2_with fail
  refine (HMUL.out _).mono ?_
  rintro e u0 ⟨rfl, hu⟩
  rw [hu]
  clear hu u0
  go_upto_region 7 with fail
  rw [← hW1]
  clear hW1 hW2
  go_wp2_with (first | (refine wp_copy rfl _ _ _ rfl rfl rfl HCP.out ?_) | fail)
  generalize hgb : w.heap.size = g at *
  have HGB := Lib.hid hgb
  clear hgb
  go_loopw [8] (fun s wr => ∃ n : Nat, s = .int .i64 (n : Int) ∧ 1 ≤ n ∧ n ≤ N ∧ (∃ R, wr.heap[g]? = some (.cells (fill x n ++ R).toArray 46 (0, 0)) ∧ R.length = (N - n) * 2) ∧ Ext w wr) (fun s _ => upTo N s)
  case atStart => exact ⟨1, rfl, Nat.le_refl _, HN.out, ⟨_, HB2.out, by rw [List.length_drop, HZL.out, Nat.sub_mul, Nat.one_mul]⟩, HE2.out⟩
  case round =>
    obtain ⟨n, rfl, hn1, hn, ⟨R, hg, hR⟩, hE⟩ := hrel
    have hnI : (0 : Int) ≤ (n : Int) := by omega
    have hnN : (n : Int) ≤ (N : Int) := by omega
    by_cases hlt : n < N
    · have hNn : ¬ N = n := by omega
      obtain ⟨k, hk⟩ : ∃ k, k = Nat.min n (N - n) := ⟨_, rfl⟩
      have hk1 : 1 ≤ k := by rw [hk]; exact Nat.le_min.2 ⟨hn1, by omega⟩
      have hkn : k ≤ n := by rw [hk]; exact Nat.min_le_left _ _
      have hkN : k ≤ N - n := by rw [hk]; exact Nat.min_le_right _ _
      have hfl : ∀ q, (fill x q).length = q * 2 := fun q => by rw [fill_length, HX.out]
      obtain ⟨X, hX⟩ : ∃ X, X = fill x n ++ fill x k ++ R.drop (k * 2) := ⟨_, rfl⟩
      have hkR : k * 2 ≤ R.length := by rw [hR]; exact Nat.mul_le_mul_right _ hkN
      have HRUN : Hid (∀ u, ER g X.toArray wr.drew u → (Builtin.copy_ #[23, 23] 3 #[.slice (some ⟨g, n * 2, none⟩) (N - n) (N - n), .slice (some ⟨g, 0, none⟩) n N]).run Tryz.prog u = .ok (.int .i64 k) (u.setRow g X.toArray) ∧ (u.setRow g X.toArray).heap[g]? = some (.cells X.toArray 46 (0, 0))) := fun u hu => by
        have key : ∀ T : List Value, T.length = R.length → (T = R ∨ T = fill x k ++ R.drop (k * 2)) → u.heap[g]? = some (.cells (fill x n ++ T).toArray 46 (0, 0)) → (Builtin.copy_ #[23, 23] 3 #[.slice (some ⟨g, n * 2, none⟩) (N - n) (N - n), .slice (some ⟨g, 0, none⟩) n N]).run Tryz.prog u = .ok (.int .i64 k) (u.setRow g X.toArray) ∧ (u.setRow g X.toArray).heap[g]? = some (.cells X.toArray 46 (0, 0)) := fun T hT hTe hgu => by
          refine ⟨?_, setRow_heap u g _ _ _ _ hgu⟩
          have hbk : Blk u g (fill x n ++ T) := ⟨_, hgu⟩
          have hr := run_copy_at Tryz.prog u 23 23 3 46 g (n * 2) (N - n) (N - n) ⟨g, 0, none⟩ n N 2 (fill x n ++ T).toArray 46 (fill x k) Tryz.underlying23 HUN.out hgu (by rw [hfl, hk]) (fun j v hv => by
            rw [add0, hbk.cell]
            have hj := (List.getElem?_eq_some_iff.1 hv).1
            rw [hfl] at hj
            have e : fill x n = fill x k ++ fill x (n - k) := by rw [fill_add, Nat.add_sub_cancel' hkn]
            rw [e, List.append_assoc, List.getElem?_append_left (by rw [hfl]; exact hj)]
            exact hv) (by simp only [List.size_toArray, List.length_append]; rw [hfl, hfl, hT]; omega) (fun v hv => H1.out v (fill_mem hv))
          rw [← hk] at hr
          have e2 : ((fill x n ++ T).toArray.toList.take (n * 2) ++ fill x k ++ (fill x n ++ T).toArray.toList.drop (n * 2 + (fill x k).length)) = X := by
            show (fill x n ++ T).take (n * 2) ++ fill x k ++ (fill x n ++ T).drop (n * 2 + (fill x k).length) = X
            rw [hX]
            have h3 : n * 2 = (fill x n).length := by rw [hfl]; try omega
            rw [List.take_left' h3.symm, List.drop_append, List.drop_eq_nil_of_le (by omega), List.nil_append, show n * 2 + (fill x k).length - (fill x n).length = k * 2 by rw [hfl k]; omega]
            congr 1
            rcases hTe with e | e
            · rw [e]
            · rw [e, List.drop_append, List.drop_eq_nil_of_le (by rw [hfl]; exact Nat.le_refl _), List.nil_append, hfl, Nat.sub_self, List.drop_zero]
          rw [e2] at hr
          exact hr
        rcases hu with e | e
        · exact key R rfl (.inl rfl) (by rw [e]; exact hg)
        · refine key (fill x k ++ R.drop (k * 2)) (by rw [List.length_append, hfl, List.length_drop]; omega) (.inr rfl) ?_
          rw [e, setRow_heap wr.drew g _ _ 46 (0, 0) hg, hX, List.append_assoc]
      have HX2 : Hid (X = fill x (n + k) ++ R.drop (k * 2)) := by
        show X = _
        rw [hX, fill_add]
      have HR2 : Hid ((R.drop (k * 2)).length = (N - (n + k)) * 2) := by
        show (R.drop (k * 2)).length = (N - (n + k)) * 2
        rw [List.length_drop, hR, ← Nat.sub_mul]
        congr 1
        omega
      have HWI : Hid (wrap64 ((n : Int) + (k : Int)) = ((n + k : Nat) : Int)) := by
        have := HN2.out
        show wrap64 ((n : Int) + (k : Int)) = ((n + k : Nat) : Int)
        rw [IntWalk.wrap64_in _ (by omega)]
        omega
      have HWK : Hid (IntKind.i64.wrap ((n : Int) + (k : Int)) = (n : Int) + (k : Int)) := by
        have := HN2.out
        show IntKind.i64.wrap ((n : Int) + (k : Int)) = (n : Int) + (k : Int)
        rw [IntKind.wrap_i64]
        omega
      have HKL : Hid (n + k ≤ N ∧ 1 ≤ k) := ⟨by omega, hk1⟩
      have hgl : g < wr.heap.size := (Array.getElem?_eq_some_iff.1 hg).1
      have HEN : Hid (∀ u, ER g X.toArray wr.drew u → u.heap[g]? = some (.cells X.toArray 46 (0, 0)) → Ext w u) := fun u hu _ => by
        have hEd := Ext.trans _ _ _ hE (Ext.drew wr)
        have hgw := HGB.out
        rcases hu with e | e
        · rw [e]; exact hEd
        · rw [e]
          exact ⟨hEd.os, hEd.tape, hEd.output, by simp; exact hEd.size, fun q hq => (setRow_other _ g q _ (by omega)).trans (hEd.block q hq)⟩
      clear hk hX hg hR hkR hfl hkn hkN hk1
      go_wp2_with fail
      refine roE_region (ER g X.toArray) 9 [none, none, none, none, none, none, none, some (fun v u => v = .int .i64 k ∧ u.heap[g]? = some (.cells X.toArray 46 (0, 0))), none] (by kernel_rfl) (by kernel_rfl) (ER.refl g _) (ER.trans g _) ?_ ?_
      · intro S hS v
        simp only [List.mem_cons, List.not_mem_nil, or_false, Option.some.injEq, reduceCtorEq, false_or] at hS
        subst hS
        intro u u' hu h
        rcases hu with e | e
        · rw [e]; exact h
        · rw [e]; exact ⟨h.1, setRow_heap u g _ _ _ _ h.2⟩
      go_simp
      repeat (apply roE_quiet rfl; (intro u hu _; go_simp; exact rfl); go_simp)
      apply roE_run rfl
      · intro u hu hd
        obtain ⟨k1, k2⟩ := HRUN.out u hu
        exact ⟨_, _, copy_exec (a := _) _ _ _ _ rfl rfl rfl k1, .inr rfl, rfl, k2⟩
      intro v45
      go_simp
      refine roE_quiet (u := .int .i64 ((n + k : Nat) : Int)) rfl (fun u hu hd => ?_) ?_
      · have h45 : v45 = .int .i64 k ∧ u.heap[g]? = some (.cells X.toArray 46 (0, 0)) := hd ⟨7, .data⟩ (by simp) rfl
        obtain ⟨e, _⟩ := h45
        subst e
        go_simp
        exact HWK.out
      go_simp
      refine roE_done (fun u hu hf => ?_)
      have hb : v45 = .int .i64 k ∧ u.heap[g]? = some (.cells X.toArray 46 (0, 0)) := hf _ (List.mem_of_getElem? (i := 7) rfl)
      have HEU := Lib.hid (HEN.out u hu hb.2)
      have HBU := Lib.hid hb.2
      clear hf hb hu
      simp only [List.drop_succ_cons, List.drop_zero]
      go_wp2_with fail
      have hl := HKL.out
      have hbu := HBU.out
      rw [HX2.out] at hbu
      exact ⟨⟨n + k, rfl, by omega, hl.1, ⟨_, hbu, HR2.out⟩, HEU.out⟩, by
        show N - (((n + k : Nat) : Int)).toNat < N - ((n : Int)).toNat
        rw [Int.toNat_natCast, Int.toNat_natCast]
        omega⟩
    · have hnN2 : n = N := by omega
      subst hnN2
      have hR0 : R = [] := List.eq_nil_of_length_eq_zero (by rw [hR, Nat.sub_self, Nat.zero_mul])
      subst hR0
      rw [List.append_nil] at hg
      have HB : Hid (Blk wr g (fill x n)) := ⟨_, hg⟩
      clear hg hR
      go_wp2
      go_ret
      have hgb := HGB.out
      subst hgb
      exact ⟨rfl, HB.out, hE⟩

set_option maxHeartbeats 4000000 in
set_option maxRecDepth 100000 in
theorem repT_any (a : Addr) (c : Nat) (x : List Value) (N : Nat) (w : World) (hx : x.length = 1) (hc : ∀ j u, x[j]? = some u → w.cell? (a.add j) = some u) (h1 : ∀ u ∈ x, u.oneCell' = true) (hN : 1 ≤ N) (hN2 : N ≤ 1000) :
    Calls Tryz.prog 36 #[.slice (some a) 1 c, .int .i64 N] w fun e w' => e = .returned (.slice (some ⟨w.heap.size, 0, none⟩) N N) ∧ Blk w' w.heap.size (fill x N) ∧ Ext w w' := by
  have hmk := make_fracss N (by omega)
  have HMUL : Hid (∀ u : World, Calls Tryz.prog 98 #[.int .u64 1, .int .u64 N] u fun e u' => e = .returned (.tuple #[.int .u64 0, .int .u64 N]) ∧ u' = u) := fun u => by
    have := Tryz.bits_Mul 1 N (by omega) (by omega) u
    rw [Nat.one_mul, Nat.div_eq_of_lt (by omega), Nat.mod_eq_of_lt (by omega)] at this
    exact this
  obtain ⟨W1, hW1⟩ : ∃ W1, W1 = w.alloc (.cells (fill [.slice none 0 0] N).toArray 23) := ⟨_, rfl⟩
  have E1 : Ext w W1 := hW1 ▸ Ext.alloc _ _
  have hb1 : W1.heap[w.heap.size]? = some (.cells (fill [.slice none 0 0] N).toArray 23 (0, 0)) := by rw [hW1]; exact heap_alloc_new w _
  have hun : (Tryz.prog.info? 23).map (·.size) = some 1 := by
    have := infoFracs
    rw [Option.map_eq_some_iff] at this ⊢
    obtain ⟨i, h1, h2⟩ := this
    exact ⟨i, h1, (Prod.mk.inj (Prod.mk.inj h2).2).1⟩
  have hzl : (fill [.slice none 0 0] N).length = N * 1 := by rw [fill_length]; rfl
  have hcp := run_copy_at Tryz.prog W1 22 22 3 23 w.heap.size 0 N N a 1 c 1 (fill [.slice none 0 0] N).toArray 23 x Tryz.underlying22 hun hb1 (by rw [hx, show Nat.min 1 N = 1 from Nat.min_eq_left hN, Nat.one_mul]) (fun j v hv => E1.cell (hc j v hv)) (by simp only [List.size_toArray]; rw [hzl, hx, Nat.zero_add]; exact Nat.le_mul_of_pos_left _ hN) h1
  simp only [List.take_zero, List.nil_append, Nat.zero_add, show Nat.min 1 N = 1 from Nat.min_eq_left hN] at hcp
  obtain ⟨W2, hW2⟩ : ∃ W2, W2 = W1.setRow w.heap.size (x ++ (fill [.slice none 0 0] N).toArray.toList.drop x.length).toArray := ⟨_, rfl⟩
  have hb2 : W2.heap[w.heap.size]? = some (.cells (fill x 1 ++ (fill [.slice none 0 0] N).drop 1).toArray 23 (0, 0)) := by
    rw [hW2, setRow_heap W1 _ _ _ _ _ hb1, hx]
    simp [fill]
  have E2 : Ext w W2 := by
    rw [hW2]
    exact ⟨E1.os, E1.tape, E1.output, by simp; exact E1.size, fun q hq => (setRow_other W1 _ q _ (by omega)).trans (E1.block q hq)⟩
  rw [← hW2] at hcp
  have HCP := Lib.hid hcp
  have HB2 := Lib.hid hb2
  have HE2 := Lib.hid E2
  have HX := Lib.hid hx
  have H1 := Lib.hid h1
  have HN := Lib.hid hN
  have HN2 := Lib.hid hN2
  have HUN := Lib.hid hun
  have HZL := Lib.hid hzl
  have hNs : (0 : Int) ≤ (N : Int) := by omega
  have hNb : ¬ ((9223372036854775807 : Int) < (N : Int)) := by omega
  have hw1 : IntKind.i64.wrap (N : Int) = (N : Int) := by rw [IntKind.wrap_i64]; omega
  have hw2 : IntKind.u64.wrap (N : Int) = (N : Int) := by rw [IntKind.wrap_u64]; omega
  clear hcp hb2 E2 hx h1 hun hc hb1 E1 hN hN2 hzl
  go_enter Tryz.func36, Tryz.ntmps36
  go_wp2_with fail
  refine (HMUL.out _).mono ?_
  rintro e u0 ⟨rfl, hu⟩
  rw [hu]
  clear hu u0
  go_upto_region 7 with fail
  rw [← hW1]
  clear hW1 hW2
  go_wp2_with (first | (refine wp_copy rfl _ _ _ rfl rfl rfl HCP.out ?_) | fail)
  generalize hgb : w.heap.size = g at *
  have HGB := Lib.hid hgb
  clear hgb
  go_loopw [8] (fun s wr => ∃ n : Nat, s = .int .i64 (n : Int) ∧ 1 ≤ n ∧ n ≤ N ∧ (∃ R, wr.heap[g]? = some (.cells (fill x n ++ R).toArray 23 (0, 0)) ∧ R.length = (N - n) * 1) ∧ Ext w wr) (fun s _ => upTo N s)
  case atStart => exact ⟨1, rfl, Nat.le_refl _, HN.out, ⟨_, HB2.out, by rw [List.length_drop, HZL.out, Nat.sub_mul, Nat.one_mul]⟩, HE2.out⟩
  case round =>
    obtain ⟨n, rfl, hn1, hn, ⟨R, hg, hR⟩, hE⟩ := hrel
    have hnI : (0 : Int) ≤ (n : Int) := by omega
    have hnN : (n : Int) ≤ (N : Int) := by omega
    by_cases hlt : n < N
    · have hNn : ¬ N = n := by omega
      obtain ⟨k, hk⟩ : ∃ k, k = Nat.min n (N - n) := ⟨_, rfl⟩
      have hk1 : 1 ≤ k := by rw [hk]; exact Nat.le_min.2 ⟨hn1, by omega⟩
      have hkn : k ≤ n := by rw [hk]; exact Nat.min_le_left _ _
      have hkN : k ≤ N - n := by rw [hk]; exact Nat.min_le_right _ _
      have hfl : ∀ q, (fill x q).length = q * 1 := fun q => by rw [fill_length, HX.out]
      obtain ⟨X, hX⟩ : ∃ X, X = fill x n ++ fill x k ++ R.drop (k * 1) := ⟨_, rfl⟩
      have hkR : k * 1 ≤ R.length := by rw [hR]; exact Nat.mul_le_mul_right _ hkN
      have HRUN : Hid (∀ u, ER g X.toArray wr.drew u → (Builtin.copy_ #[22, 22] 3 #[.slice (some ⟨g, n, none⟩) (N - n) (N - n), .slice (some ⟨g, 0, none⟩) n N]).run Tryz.prog u = .ok (.int .i64 k) (u.setRow g X.toArray) ∧ (u.setRow g X.toArray).heap[g]? = some (.cells X.toArray 23 (0, 0))) := fun u hu => by
        have key : ∀ T : List Value, T.length = R.length → (T = R ∨ T = fill x k ++ R.drop (k * 1)) → u.heap[g]? = some (.cells (fill x n ++ T).toArray 23 (0, 0)) → (Builtin.copy_ #[22, 22] 3 #[.slice (some ⟨g, n, none⟩) (N - n) (N - n), .slice (some ⟨g, 0, none⟩) n N]).run Tryz.prog u = .ok (.int .i64 k) (u.setRow g X.toArray) ∧ (u.setRow g X.toArray).heap[g]? = some (.cells X.toArray 23 (0, 0)) := fun T hT hTe hgu => by
          refine ⟨?_, setRow_heap u g _ _ _ _ hgu⟩
          have hbk : Blk u g (fill x n ++ T) := ⟨_, hgu⟩
          have hr := run_copy_at Tryz.prog u 22 22 3 23 g (n) (N - n) (N - n) ⟨g, 0, none⟩ n N 1 (fill x n ++ T).toArray 23 (fill x k) Tryz.underlying22 HUN.out hgu (by rw [hfl, hk]) (fun j v hv => by
            rw [add0, hbk.cell]
            have hj := (List.getElem?_eq_some_iff.1 hv).1
            rw [hfl] at hj
            have e : fill x n = fill x k ++ fill x (n - k) := by rw [fill_add, Nat.add_sub_cancel' hkn]
            rw [e, List.append_assoc, List.getElem?_append_left (by rw [hfl]; exact hj)]
            exact hv) (by simp only [List.size_toArray, List.length_append]; rw [hfl, hfl, hT]; omega) (fun v hv => H1.out v (fill_mem hv))
          rw [← hk] at hr
          have e2 : ((fill x n ++ T).toArray.toList.take (n) ++ fill x k ++ (fill x n ++ T).toArray.toList.drop (n + (fill x k).length)) = X := by
            show (fill x n ++ T).take (n) ++ fill x k ++ (fill x n ++ T).drop (n + (fill x k).length) = X
            rw [hX]
            have h3 : n = (fill x n).length := by rw [hfl]; try omega
            rw [List.take_left' h3.symm, List.drop_append, List.drop_eq_nil_of_le (by omega), List.nil_append, show n + (fill x k).length - (fill x n).length = k * 1 by rw [hfl k]; omega]
            congr 1
            rcases hTe with e | e
            · rw [e]
            · rw [e, List.drop_append, List.drop_eq_nil_of_le (by rw [hfl]; exact Nat.le_refl _), List.nil_append, hfl, Nat.sub_self, List.drop_zero]
          rw [e2] at hr
          exact hr
        rcases hu with e | e
        · exact key R rfl (.inl rfl) (by rw [e]; exact hg)
        · refine key (fill x k ++ R.drop (k * 1)) (by rw [List.length_append, hfl, List.length_drop]; omega) (.inr rfl) ?_
          rw [e, setRow_heap wr.drew g _ _ 23 (0, 0) hg, hX, List.append_assoc]
      have HX2 : Hid (X = fill x (n + k) ++ R.drop (k * 1)) := by
        show X = _
        rw [hX, fill_add]
      have HR2 : Hid ((R.drop (k * 1)).length = (N - (n + k)) * 1) := by
        show (R.drop (k * 1)).length = (N - (n + k)) * 1
        rw [List.length_drop, hR, ← Nat.sub_mul]
        congr 1
        omega
      have HWI : Hid (wrap64 ((n : Int) + (k : Int)) = ((n + k : Nat) : Int)) := by
        have := HN2.out
        show wrap64 ((n : Int) + (k : Int)) = ((n + k : Nat) : Int)
        rw [IntWalk.wrap64_in _ (by omega)]
        omega
      have HWK : Hid (IntKind.i64.wrap ((n : Int) + (k : Int)) = (n : Int) + (k : Int)) := by
        have := HN2.out
        show IntKind.i64.wrap ((n : Int) + (k : Int)) = (n : Int) + (k : Int)
        rw [IntKind.wrap_i64]
        omega
      have HKL : Hid (n + k ≤ N ∧ 1 ≤ k) := ⟨by omega, hk1⟩
      have hgl : g < wr.heap.size := (Array.getElem?_eq_some_iff.1 hg).1
      have HEN : Hid (∀ u, ER g X.toArray wr.drew u → u.heap[g]? = some (.cells X.toArray 23 (0, 0)) → Ext w u) := fun u hu _ => by
        have hEd := Ext.trans _ _ _ hE (Ext.drew wr)
        have hgw := HGB.out
        rcases hu with e | e
        · rw [e]; exact hEd
        · rw [e]
          exact ⟨hEd.os, hEd.tape, hEd.output, by simp; exact hEd.size, fun q hq => (setRow_other _ g q _ (by omega)).trans (hEd.block q hq)⟩
      clear hk hX hg hR hkR hfl hkn hkN hk1
      go_wp2_with fail
      refine roE_region (ER g X.toArray) 9 [none, none, none, none, none, none, none, some (fun v u => v = .int .i64 k ∧ u.heap[g]? = some (.cells X.toArray 23 (0, 0))), none] (by kernel_rfl) (by kernel_rfl) (ER.refl g _) (ER.trans g _) ?_ ?_
      · intro S hS v
        simp only [List.mem_cons, List.not_mem_nil, or_false, Option.some.injEq, reduceCtorEq, false_or] at hS
        subst hS
        intro u u' hu h
        rcases hu with e | e
        · rw [e]; exact h
        · rw [e]; exact ⟨h.1, setRow_heap u g _ _ _ _ h.2⟩
      go_simp
      repeat (apply roE_quiet rfl; (intro u hu _; go_simp; exact rfl); go_simp)
      apply roE_run rfl
      · intro u hu hd
        obtain ⟨k1, k2⟩ := HRUN.out u hu
        exact ⟨_, _, copy_exec (a := _) _ _ _ _ rfl rfl rfl k1, .inr rfl, rfl, k2⟩
      intro v45
      go_simp
      refine roE_quiet (u := .int .i64 ((n + k : Nat) : Int)) rfl (fun u hu hd => ?_) ?_
      · have h45 : v45 = .int .i64 k ∧ u.heap[g]? = some (.cells X.toArray 23 (0, 0)) := hd ⟨7, .data⟩ (by simp) rfl
        obtain ⟨e, _⟩ := h45
        subst e
        go_simp
        exact HWK.out
      go_simp
      refine roE_done (fun u hu hf => ?_)
      have hb : v45 = .int .i64 k ∧ u.heap[g]? = some (.cells X.toArray 23 (0, 0)) := hf _ (List.mem_of_getElem? (i := 7) rfl)
      have HEU := Lib.hid (HEN.out u hu hb.2)
      have HBU := Lib.hid hb.2
      clear hf hb hu
      simp only [List.drop_succ_cons, List.drop_zero]
      go_wp2_with fail
      have hl := HKL.out
      have hbu := HBU.out
      rw [HX2.out] at hbu
      exact ⟨⟨n + k, rfl, by omega, hl.1, ⟨_, hbu, HR2.out⟩, HEU.out⟩, by
        show N - (((n + k : Nat) : Int)).toNat < N - ((n : Int)).toNat
        rw [Int.toNat_natCast, Int.toNat_natCast]
        omega⟩
    · have hnN2 : n = N := by omega
      subst hnN2
      have hR0 : R = [] := List.eq_nil_of_length_eq_zero (by rw [hR, Nat.sub_self, Nat.zero_mul])
      subst hR0
      rw [List.append_nil] at hg
      have HB : Hid (Blk wr g (fill x n)) := ⟨_, hg⟩
      clear hg hR
      go_wp2
      go_ret
      have hgb := HGB.out
      subst hgb
      exact ⟨rfl, HB.out, hE⟩

theorem fill_fracs (x : Fr) (n : Nat) : fill [.string x.1, .string x.2] n = fracCells (List.replicate n x) := by
  unfold fill fracCells
  induction n with
  | zero => rfl
  | succ n ih => rw [List.replicate_succ, List.flatten_cons, List.replicate_succ, List.flatMap_cons, ih]
/-- slices.Repeat of one fraction. -/
theorem repF_ret (v : Value) (x : Fr) (N : Nat) (w : World) (h : IsFracs w v [x]) (hN : 1 ≤ N) (hN2 : N ≤ 1000) : Calls Tryz.prog 38 #[v, .int .i64 N] w (Ret (.fracs (List.replicate N x)) w) := by
  obtain ⟨A, c, rfl, _⟩ := id h
  obtain ⟨b, o, rfl, k1, k2⟩ := IsFracs.get h (i := 0) rfl
  refine (repF_any ⟨b, o, none⟩ c [.string x.1, .string x.2] N w rfl (fun j u hu => ?_) (fun u hu => by simp at hu; rcases hu with rfl | rfl <;> rfl) hN hN2).mono ?_
  · match j, hu with
    | 0, hu => cases hu; simpa [Addr.add] using k1
    | 1, hu => cases hu; simpa [Addr.add] using k2
  · rintro e w' ⟨rfl, hb, hE⟩
    rw [fill_fracs] at hb
    refine ⟨_, rfl, ⟨some ⟨w.heap.size, 0, none⟩, N, by rw [List.length_replicate], by rw [List.length_replicate]; exact Nat.le_refl _, by unfold maxLen; omega, .inr ⟨w.heap.size, 0, rfl, fun i y hy => ?_⟩⟩, hE⟩
    obtain ⟨g1, g2⟩ := fracCells_get (List.replicate N x) i
    rw [hy] at g1 g2
    rw [Nat.zero_add, hb.cell, hb.cell]
    exact ⟨g1, g2⟩
/-- slices.Repeat of one row. -/
theorem repT_ret (v : Value) (l : List Fr) (N : Nat) (w : World) (h : IsTab w v [l]) (hN : 1 ≤ N) (hN2 : N ≤ 1000) : Calls Tryz.prog 36 #[v, .int .i64 N] w (Ret (.tab (List.replicate N l)) w) := by
  obtain ⟨A, c, rfl, _⟩ := id h
  obtain ⟨b, o, u, rfl, k1, k2⟩ := IsTab.get h (i := 0) rfl
  rw [Nat.add_zero] at k1
  refine (repT_any ⟨b, o, none⟩ c [u] N w rfl (fun j z hz => ?_) (fun z hz => by
    simp at hz; subst hz
    obtain ⟨A2, c2, e, _⟩ := k2
    rw [e]; rfl) hN hN2).mono ?_
  · match j, hz with
    | 0, hz => cases hz; simpa [Addr.add] using k1
  · rintro e w' ⟨rfl, hb, hE⟩
    refine ⟨_, rfl, ⟨some ⟨w.heap.size, 0, none⟩, N, by rw [List.length_replicate], by rw [List.length_replicate]; exact Nat.le_refl _, by unfold maxLen; omega, .inr ⟨w.heap.size, 0, rfl, fun i y hy => ⟨u, ?_, ?_⟩⟩⟩, hE⟩
    · have hi := (List.getElem?_eq_some_iff.1 hy).1
      rw [List.length_replicate] at hi
      have := fill_get [u] N i 0 hi (by simp)
      rw [Nat.zero_add, hb.cell]
      simpa using this
    · rw [List.getElem?_replicate] at hy
      split at hy
      · cases hy; exact k2.mono hE
      · cases hy
end Go.Proofs.Xx
end
section
namespace Go.V
open Go.RowKit Go.Proofs.Xx
/-- A list without room behind it. -/
def Fact.full (F : Fact) (n : Nat) : Fact := ⟨fun v w => ∃ A, v = .slice A n n ∧ F.S v w, fun _ _ _ hE ⟨A, h1, h2⟩ => ⟨A, h1, F.st _ _ _ hE h2⟩⟩
theorem IsFracs.one {w : World} {g : Nat} {x : Fr} (hb : Blk w g [.string x.1, .string x.2]) : IsFracs w (.slice (some ⟨g, 0, none⟩) 1 1) [x] := by
  refine ⟨_, _, rfl, Nat.le_refl _, by decide, .inr ⟨g, 0, rfl, fun i y hy => ?_⟩⟩
  match i, hy with
  | 0, hy => cases hy; exact ⟨hb.cell 0, hb.cell 1⟩
theorem IsFracs.full {w : World} {A : Option Addr} {n c : Nat} {l : List Fr} (h : IsFracs w (.slice A n c) l) : IsFracs w (.slice A n n) l := by
  obtain ⟨A', c', e, h2, h3, h4⟩ := h
  cases e
  exact ⟨_, _, rfl, Nat.le_refl _, Nat.le_trans h2 h3, h4⟩
theorem IsTab.full {w : World} {A : Option Addr} {n c : Nat} {l : List (List Fr)} (h : IsTab w (.slice A n c) l) : IsTab w (.slice A n n) l := by
  obtain ⟨A', c', e, h2, h3, h4⟩ := h
  cases e
  exact ⟨_, _, rfl, Nat.le_refl _, Nat.le_trans h2 h3, h4⟩
end Go.V
namespace Go.Proofs.Xx
open Go.RowKit Go.V Go.Grow Lin Go.Txt
theorem add_any (b o j : Nat) : (⟨b, o, none⟩ : Addr).add j = ⟨b, o + j, none⟩ := by unfold Addr.add; split <;> simp_all
theorem IsFracs_cells {w : World} {A : Option Addr} {c : Nat} {l : List Fr} (h : IsFracs w (.slice A l.length c) l) (hn : 0 < l.length) : ∃ b o, A = some ⟨b, o, none⟩ ∧ ∀ j u, (fracCells l)[j]? = some u → w.cell? ⟨b, o + j, none⟩ = some u := by
  obtain ⟨A', c', e, _, _, h4⟩ := h
  cases e
  rcases h4 with h4 | ⟨b, o, h5, h6⟩
  · rw [h4] at hn; simp at hn
  · refine ⟨b, o, h5, fun j u hu => ?_⟩
    obtain ⟨i, r, rfl, hr⟩ : ∃ i r, j = i * 2 + r ∧ r < 2 := ⟨j / 2, j % 2, by omega, Nat.mod_lt _ (by omega)⟩
    have hlt := (List.getElem?_eq_some_iff.1 hu).1
    rw [fracCells_length] at hlt
    have hi : i < l.length := by omega
    have k1 := h6 i _ (List.getElem?_eq_getElem hi)
    obtain ⟨g1, g2⟩ := fracCells_get l i
    rw [List.getElem?_eq_getElem hi] at g1 g2
    match r, hr with
    | 0, _ => rw [Nat.add_zero, g1] at hu; cases hu; exact k1.1
    | 1, _ => rw [g2] at hu; cases hu; exact k1.2
theorem grow_fits {n m b : Nat} (hm : 0 < m) (h1 : n + m ≤ 1000) (hb : b ≤ 64) : Builtin.nextslicecap (n + m) n * b ≤ 281474976710656 := growslice_fits (by omega) (by
  have := Nat.mul_le_mul h1 hb
  omega)
/-- append to a list without room. -/
theorem app_full_fracs {w : World} {A0 A1 : Option Addr} {n c1 : Nat} {l1 l2 : List Fr} (h0 : IsFracs w (.slice A0 n n) l1) (h1 : IsFracs w (.slice A1 l2.length c1) l2) (hn : 0 < l1.length) (hn2 : 0 < l2.length) (hs : l1.length + l2.length ≤ 1000) :
    ∃ v' w', (Builtin.append_ #[23, 23] 23 #[.slice A0 n n, .slice A1 l2.length c1]).run Tryz.prog w = .ok v' w' ∧ IsFracs w' v' (l1 ++ l2) ∧ Ext w w' := by
  have hl : n = l1.length := by obtain ⟨A, c, e, _⟩ := h0; cases e; rfl
  subst hl
  obtain ⟨b, o, rfl, k1⟩ := IsFracs_cells h0 hn
  obtain ⟨b2, o2, rfl, k2⟩ := IsFracs_cells h1 hn2
  obtain ⟨i0, hi, hzz⟩ := Option.map_eq_some_iff.1 infoFrac
  simp only [Prod.mk.injEq] at hzz
  obtain ⟨hz0, hz1, hz2⟩ := hzz
  have hr := run_append_grow (P := Tryz.prog) w 23 23 46 i0 _ Tryz.underlying23 hi hz0 ⟨b, o, none⟩ l1.length l1.length (fracCells l1) (by rw [fracCells_length, hz1]) (fun j v hv => by rw [add_any]; exact k1 j v hv) ⟨b2, o2, none⟩ l2.length c1 (fracCells l2) (by rw [fracCells_length, hz1]) (fun j v hv => by rw [add_any]; exact k2 j v hv) (by omega) (by omega) (by rw [hz2]; exact grow_fits hn2 hs (by decide))
  refine ⟨_, _, hr, ⟨_, _, by rw [List.length_append], by rw [List.length_append]; exact grownCap_ge w _ _ _, grownCap_le_maxLen w _ _ _ (by unfold maxLen; omega), .inr ⟨w.heap.size, 0, rfl, fun i x hx => ?_⟩⟩, Ext.trans _ _ _ (Ext.drew w) (Ext.alloc _ _)⟩
  have hb : Blk (w.drew.alloc (.cells ((fracCells l1).toArray ++ (fracCells l2).toArray ++ Builtin.zeroCells #[.string .empty, .string .empty] (grownCap w (l1.length + l2.length) l1.length 46 - (l1.length + l2.length))) 46)) w.heap.size (fracCells l1 ++ fracCells l2 ++ (Builtin.zeroCells #[.string .empty, .string .empty] (grownCap w (l1.length + l2.length) l1.length 46 - (l1.length + l2.length))).toList) := Blk.new' 46 rfl (by simp)
  have hi := (List.getElem?_eq_some_iff.1 hx).1
  have e : fracCells l1 ++ fracCells l2 = fracCells (l1 ++ l2) := by unfold fracCells; rw [List.flatMap_append]
  rw [e] at hb
  obtain ⟨g1, g2⟩ := fracCells_get (l1 ++ l2) i
  rw [hx] at g1 g2
  have hlen := fracCells_length (l1 ++ l2)
  refine ⟨?_, ?_⟩
  · refine (hb.cell _).trans ?_
    rw [Nat.zero_add, List.getElem?_append_left (by omega)]
    exact g1
  · refine (hb.cell _).trans ?_
    rw [Nat.zero_add, List.getElem?_append_left (by omega)]
    exact g2
theorem app_full_tab {w : World} {A0 A1 : Option Addr} {n c1 : Nat} {l1 l2 : List (List Fr)} (h0 : IsTab w (.slice A0 n n) l1) (h1 : IsTab w (.slice A1 l2.length c1) l2) (hn : 0 < l1.length) (hn2 : 0 < l2.length) (hs : l1.length + l2.length ≤ 1000) :
    ∃ v' w', (Builtin.append_ #[22, 22] 22 #[.slice A0 n n, .slice A1 l2.length c1]).run Tryz.prog w = .ok v' w' ∧ IsTab w' v' (l1 ++ l2) ∧ Ext w w' := by
  have hl : n = l1.length := by obtain ⟨A, c, e, _⟩ := h0; cases e; rfl
  subst hl
  obtain ⟨us1, hL1, hu1⟩ := IsTab.isL h0
  obtain ⟨us2, hL2, hu2⟩ := IsTab.isL h1
  obtain ⟨b, o, hA0, _⟩ := IsL.get hL1 (i := 0) hn
  obtain ⟨b2, o2, hA1, _⟩ := IsL.get hL2 (i := 0) hn2
  subst hA0 hA1
  have k1 : ∀ j u, ((List.range l1.length).map us1)[j]? = some u → w.cell? ⟨b, o + j, none⟩ = some u := fun j u hu => by
    have hj := (List.getElem?_eq_some_iff.1 hu).1
    rw [List.length_map, List.length_range] at hj
    rw [List.getElem?_map, List.getElem?_range hj] at hu
    obtain ⟨b', o', e, hc⟩ := IsL.get hL1 hj
    cases e
    rw [hc]; exact hu
  have k2 : ∀ j u, ((List.range l2.length).map us2)[j]? = some u → w.cell? ⟨b2, o2 + j, none⟩ = some u := fun j u hu => by
    have hj := (List.getElem?_eq_some_iff.1 hu).1
    rw [List.length_map, List.length_range] at hj
    rw [List.getElem?_map, List.getElem?_range hj] at hu
    obtain ⟨b', o', e, hc⟩ := IsL.get hL2 hj
    cases e
    rw [hc]; exact hu
  obtain ⟨i0, hi, hzz⟩ := Option.map_eq_some_iff.1 infoFracs
  simp only [Prod.mk.injEq] at hzz
  obtain ⟨hz0, hz1, hz2⟩ := hzz
  have hr := run_append_grow (P := Tryz.prog) w 22 22 23 i0 _ Tryz.underlying22 hi hz0 ⟨b, o, none⟩ l1.length l1.length ((List.range l1.length).map us1) (by simp [hz1]) (fun j v hv => by rw [add_any]; exact k1 j v hv) ⟨b2, o2, none⟩ l2.length c1 ((List.range l2.length).map us2) (by simp [hz1]) (fun j v hv => by rw [add_any]; exact k2 j v hv) (by omega) (by omega) (by rw [hz2]; exact grow_fits hn2 hs (by decide))
  have EX : Ext w (w.drew.alloc (.cells (((List.range l1.length).map us1).toArray ++ ((List.range l2.length).map us2).toArray ++ Builtin.zeroCells #[.slice none 0 0] (grownCap w (l1.length + l2.length) l1.length 23 - (l1.length + l2.length))) 23)) := Ext.trans _ _ _ (Ext.drew w) (Ext.alloc _ _)
  refine ⟨_, _, hr, ⟨_, _, by rw [List.length_append], by rw [List.length_append]; exact grownCap_ge w _ _ _, grownCap_le_maxLen w _ _ _ (by unfold maxLen; omega), .inr ⟨w.heap.size, 0, rfl, fun i x hx => ?_⟩⟩, EX⟩
  have hb : Blk (w.drew.alloc (.cells (((List.range l1.length).map us1).toArray ++ ((List.range l2.length).map us2).toArray ++ Builtin.zeroCells #[.slice none 0 0] (grownCap w (l1.length + l2.length) l1.length 23 - (l1.length + l2.length))) 23)) w.heap.size ((List.range l1.length).map us1 ++ (List.range l2.length).map us2 ++ (Builtin.zeroCells #[.slice none 0 0] (grownCap w (l1.length + l2.length) l1.length 23 - (l1.length + l2.length))).toList) := Blk.new' 23 rfl (by simp)
  have hi := (List.getElem?_eq_some_iff.1 hx).1
  rw [List.length_append] at hi
  by_cases h : i < l1.length
  · rw [List.getElem?_append_left h] at hx
    refine ⟨us1 i, (hb.cell _).trans ?_, (hu1 i x hx).mono EX⟩
    rw [Nat.zero_add, List.append_assoc, List.getElem?_append_left (by simpa using h), List.getElem?_map, List.getElem?_range h]
    rfl
  · rw [List.getElem?_append_right (by omega)] at hx
    refine ⟨us2 (i - l1.length), (hb.cell _).trans ?_, (hu2 _ x hx).mono EX⟩
    rw [Nat.zero_add, List.append_assoc, List.getElem?_append_right (by simp; omega), List.getElem?_append_left (by simp; omega), List.getElem?_map]
    simp only [List.length_map, List.length_range]
    rw [List.getElem?_range (by omega)]
    rfl
theorem works_ret (w : World) (he : Env w) : Calls Tryz.prog 10 #[] w (Ret (.val (.bool true)) w) := by
  refine (works_any w he).mono ?_
  rintro e w' ⟨rfl, h⟩
  exact ⟨_, rfl, rfl, h⟩
/-- 600 nines. -/
def nines : ByteArray := ⟨(Lib.repeatL [57] 600).toArray⟩
theorem nines_ret (w : World) : Calls Tryz.prog 42 #[.string ⟨#[57]⟩, .int .i64 600] w (Ret (.val (.string nines)) w) := by
  refine (Tryz.strings_Repeat ⟨#[57]⟩ 600 w (by decide) (by decide)).mono ?_
  rintro e w' ⟨rfl, h⟩
  exact ⟨_, rfl, rfl, h⟩
end Go.Proofs.Xx
end
