/- A part of the proof: the texts W9, W10, W11. -/
import Derived.Test.YtblmikccdhdjlaaGreatDoorP11
import Derived.ArgAppend
import Derived.Laws.CopyOwn
set_option linter.unusedVariables false
set_option linter.unusedSimpArgs false
section
namespace Go.Proofs.Xx
open Go.RowKit Go.V Go.Grow

theorem wp_app {P : Program} {w w' : World} {ops : Array Oper} {rest : List Oper} {o : Oper} {a : Act} {Q : Exit → Act → World → Prop} (hg : o.guard = none) (s x : Operand) (t : TypeId)
    (hop : o.op = Op.call { callee := Callee.builtin Builtin.append, args := #[s, x], argTypes := #[t, t] }) {v u v' : Value} (hs : a.eval s = v) (hx : a.eval x = u)
    (hrun : (Builtin.append_ #[t, t] o.type #[v, u]).run P w = .ok v' w') (hK : wpList P ops Q rest (a.put o.dst v') w') : wpList P ops Q (o :: rest) a w := by
  refine wpList_plain hg fun K hK' => ?_
  unfold Oper.wp
  simp [execOp, hop, resolve, invoke, builtin, hs, hx, hrun, Result.andThen]
  exact hK' _ _ hK

theorem spare_zeros (xs : List Nat) (m : Nat) : (u64s xs).toArray ++ Builtin.zeroCells #[.int .u64 0] m = (u64s (xs ++ List.replicate m 0)).toArray := by
  have h : Builtin.zeroCells #[.int .u64 0] m = (u64s (List.replicate m 0)).toArray := by
    apply Array.ext
    · simp [Builtin.zeroCells, u64s]
    · intro i h1 h2
      simp [Builtin.zeroCells, u64s, Nat.mod_one]
  rw [h]
  unfold u64s
  simp
theorem row_cells {w : World} {a : Addr} {xs : List Nat} (h : Row w (some a) (u64s xs)) : ∀ j u, (u64s xs)[j]? = some u → w.cell? (a.add j) = some u := by
  intro j u hu
  rcases h with h | ⟨b, o, h1, h2⟩
  · rw [h] at hu; simp at hu
  · obtain rfl := Option.some.inj h1
    have : (⟨b, o, none⟩ : Addr).add j = ⟨b, o + j, none⟩ := by unfold Addr.add; split <;> simp_all
    rw [this]
    exact h2 j u hu

theorem app_u64 {w : World} {g c : Nat} {xs ys : List Nat} {A : Option Addr} (hO : Own w g xs) (hy : Row w A (u64s ys)) (hpos : 0 < ys.length) (hm : xs.length + ys.length ≤ 17592186044416) (ty : TypeId) :
    ∃ (spare : Nat) (W : World), (Builtin.append_ #[107, 107] ty #[.slice (some ⟨g, 0, none⟩) xs.length xs.length, .slice A ys.length c]).run Tryz.prog w = .ok (.slice (some ⟨w.heap.size, 0, none⟩) (xs.length + ys.length) (xs.length + ys.length + spare)) W ∧
      Own W w.heap.size (xs ++ ys ++ List.replicate spare 0) ∧ xs.length + ys.length + spare ≤ maxLen ∧ Ext w W := by
  obtain ⟨i0, hi, hzz⟩ := Option.map_eq_some_iff.1 info403
  simp only [Prod.mk.injEq] at hzz
  obtain ⟨hz0, hz1, hz2⟩ := hzz
  obtain ⟨a, rfl⟩ : ∃ a, A = some a := by
    rcases hy with h | ⟨b, o, rfl, _⟩
    · cases ys with
      | nil => simp at hpos
      | cons y l => cases h
    · exact ⟨_, rfl⟩
  have h63 : xs.length + ys.length ≤ maxLen := by unfold maxLen; omega
  have hge := grownCap_ge w (xs.length + ys.length) xs.length 192
  have hcm := grownCap_le_maxLen w (xs.length + ys.length) xs.length 192 h63
  have hr := run_append_grow (P := Tryz.prog) w 107 ty 192 i0 (.int .u64 0) Tryz.underlying107 hi hz0 ⟨g, 0, none⟩ xs.length xs.length (u64s xs) (by simp [u64s, hz1]) (row_cells hO.row)
    a ys.length c (u64s ys) (by simp [u64s, hz1]) (row_cells hy) (by omega) (by omega) (growslice_fits (by omega) (by rw [hz2]; omega))
  generalize hk : grownCap w (xs.length + ys.length) xs.length 192 = k at *
  obtain ⟨s, rfl⟩ : ∃ s, k = xs.length + ys.length + s := ⟨_, (Nat.add_sub_of_le hge).symm⟩
  rw [Nat.add_sub_cancel_left] at hr
  refine ⟨s, _, hr, ?_, by omega, ?_⟩
  · have e : (u64s xs).toArray ++ (u64s ys).toArray ++ Builtin.zeroCells (Value.int .u64 0).cells s = (u64s (xs ++ ys ++ List.replicate s 0)).toArray := by
      have e2 : (u64s xs).toArray ++ (u64s ys).toArray = (u64s (xs ++ ys)).toArray := by simp [u64s]
      rw [e2]
      exact spare_zeros _ _
    rw [e]
    exact Own.new _ _ _
  · exact Ext.trans _ _ _ (Ext.drew w) (Ext.alloc _ _)

/-- A copy of a list of numbers: in a block of its own. -/
def Copied (w : World) (xs : List Nat) (e : Ending) (w' : World) : Prop := ∃ v, e = .returned v ∧ Reads w' v xs ∧ Ext w w' ∧
  (0 < xs.length → ∃ g c spare, v = .slice (some ⟨g, 0, none⟩) xs.length c ∧ w.heap.size ≤ g ∧ c ≤ maxLen ∧ xs.length ≤ c ∧ Own w' g (xs ++ List.replicate spare 0))
theorem not_nil (a : Addr) (n c : Nat) (W : World) : (binOp .eql 107 (.slice (some a) n c) (.slice none 0 0)).run Tryz.prog W = .ok (.bool false) W := by kernel_rfl
theorem is_nil (n c : Nat) (W : World) : (binOp .eql 107 (.slice none n c) (.slice none 0 0)).run Tryz.prog W = .ok (.bool true) W := by kernel_rfl
theorem app_none {w : World} {a : Addr} {c : Nat} {A : Option Addr} (ty : TypeId) : (Builtin.append_ #[107, 107] ty #[.slice (some a) 0 0, .slice A 0 c]).run Tryz.prog w = .ok (.slice (some a) 0 0) w := by
  cases A <;> kernel_rfl

set_option maxRecDepth 8000 in
theorem clone_any (v : Value) (xs : List Nat) (w : World) (h : Reads w v xs) (hx : xs.length ≤ 17592186044416) : Calls Tryz.prog 187 #[v] w (Copied w xs) := by
  obtain ⟨A, c, rfl, hc, hm, hr⟩ := h
  by_cases h0 : xs.length = 0
  · obtain rfl : xs = [] := List.eq_nil_of_length_eq_zero h0
    clear hr hx
    have HM := Lib.hid hm; clear hm
    have hz : maxLen ≥ 0 := Nat.zero_le _
    have HZ := Lib.hid hz; clear hz
    cases A with
    | none =>
      have hE := is_nil 0 c
      go_enter Tryz.func187, Tryz.ntmps187
      go_wp2
      go_ret
      exact ⟨_, rfl, ⟨none, 0, rfl, Nat.le_refl _, Nat.zero_le _, .inl rfl⟩, Ext.refl _, fun h => by simp at h⟩
    | some a =>
      have hE := not_nil a 0 c
      have hA := fun W b ty => app_none (w := W) (a := b) (c := c) (A := some a) ty
      have HA := Lib.hid hA; clear hA
      go_enter Tryz.func187, Tryz.ntmps187
      go_wp2_with (first | (at_builtin; refine wp_app rfl _ _ _ rfl rfl rfl (HA.out _ _ _) ?_) | go_in)
      go_ret
      exact ⟨_, rfl, ⟨_, 0, rfl, Nat.le_refl _, Nat.zero_le _, .inl rfl⟩, Ext.alloc _ _, fun h => by simp at h⟩
  · have hO : ∀ W : World, Own (W.alloc (.cells (u64s []).toArray 192)) W.heap.size [] := fun W => Own.new W [] 192
    obtain ⟨b, o, rfl, hcell⟩ := hr.at 0 (by omega)
    clear hcell
    have hA := fun ty => app_u64 (c := c) (hO w) (hr.mono (Ext.alloc w _)) (by omega) (by simpa using hx) ty
    have HX := Lib.hid hx; clear hx
    have HM := Lib.hid hm; clear hm
    obtain ⟨spare, W, hW, hOW, hmx, hEW⟩ := hA 107
    simp only [List.length_nil, Nat.zero_add, List.nil_append] at hW hOW hmx
    have HR := Lib.hid hr; clear hr hA hO
    have hE := not_nil ⟨b, o, none⟩ xs.length c
    have HW := Lib.hid hW; have HO := Lib.hid hOW; have HMX := Lib.hid hmx; clear hW hOW hmx
    go_enter Tryz.func187, Tryz.ntmps187
    go_wp2_with (first | (at_builtin; refine wp_app rfl _ _ _ rfl rfl rfl HW.out ?_) | go_in)
    go_ret
    have hl := HMX.out
    have hO := HO.out
    rw [show (w.alloc (.cells (u64s []).toArray 192)).heap.size = w.heap.size + 1 by simp] at hO
    have hE2 : Ext w W := Ext.trans _ _ _ (Ext.alloc _ _) hEW
    refine ⟨_, rfl, ⟨_, _, rfl, Nat.le_add_right _ _, hl, ?_⟩, hE2, fun _ => ⟨_, _, spare, rfl, ?_, hl, Nat.le_add_right _ _, hO⟩⟩
    · have := hO.row.take xs.length
      rwa [List.take_left] at this
    · simp
end Go.Proofs.Xx
end
section
namespace Go.Proofs.Xx
open Go.RowKit Go.V Go.Grow

theorem val_take_any (b : Nat) (l : List Nat) (k : Nat) : Dig.val b (l.take (k + 1)) = Dig.val b (l.take k) + l.getD k 0 * b ^ k := by
  by_cases h : k < l.length
  · exact Dig.val_take_succ b l k h
  · rw [List.take_of_length_le (by omega), List.take_of_length_le (by omega), List.getD_eq_getElem?_getD, List.getElem?_eq_none (by omega)]
    simp
theorem take_set_same (l : List Nat) (k v : Nat) : (l.set k v).take k = l.take k := by
  rw [List.take_set, List.set_eq_of_length_le (by simp [List.length_take]; omega)]

def SubRel (w : World) (g : Nat) (xs ys : List Nat) (spare k bo : Nat) (wr : World) : Prop :=
  ∃ cur : List Nat, cur.length = xs.length + spare ∧ (∀ z ∈ cur, z < G) ∧ (∀ j, k ≤ j → cur.getD j 0 = xs.getD j 0) ∧ bo ≤ 1 ∧
    Dig.val G (cur.take k) + Dig.val G (ys.take k) = Dig.val G (xs.take k) + bo * G ^ k ∧ Own wr g cur ∧ Ext w wr

theorem sub_step {cur xs ys : List Nat} {k bo q bo' : Nat} (hk : k < cur.length) (hv : Dig.val G (cur.take k) + Dig.val G (ys.take k) = Dig.val G (xs.take k) + bo * G ^ k)
    (hq : q + (bo + ys.getD k 0) = xs.getD k 0 + bo' * G) : Dig.val G ((cur.set k q).take (k + 1)) + Dig.val G (ys.take (k + 1)) = Dig.val G (xs.take (k + 1)) + bo' * G ^ (k + 1) := by
  rw [val_take_any, val_take_any, val_take_any, take_set_same, Dig.getD_set_self hk, Nat.pow_succ]
  have e : (q + (bo + ys.getD k 0)) * G ^ k = (xs.getD k 0 + bo' * G) * G ^ k := by rw [hq]
  rw [Nat.add_mul, Nat.add_mul, Nat.add_mul] at e
  have e2 : bo' * (G ^ k * G) = bo' * G * G ^ k := by rw [Nat.mul_comm (G ^ k), Nat.mul_assoc]
  rw [e2]
  omega

set_option maxHeartbeats 1000000 in
theorem sub_at (va vb : Value) (a b : Nat) (w : World) (ha : IsMass w va a) (hb : IsMass w vb b) (hab : b ≤ a) (hs : (mass a).length ≤ 17592186044416) :
    Calls Tryz.prog 162 #[va, vb] w fun e w' => ∃ v, e = .returned v ∧ IsMass w' v (a - b) ∧ Above w.heap.size v ∧ Ext w w' := by
  have hcl := fun w' (hE : Ext w w') => clone_any va (mass a) w' (ha.reads.mono hE) hs
  have hra := ha.reads
  have hrb := hb.reads
  have hlen : (mass b).length ≤ (mass a).length := Dig.digs_len_mono G_two hab
  have hva : Dig.val G (mass a) = a := Dig.val_digs G_two a
  have hvb : Dig.val G (mass b) = b := Dig.val_digs G_two b
  have hla := mass_lt a
  have hlb := mass_lt b
  clear ha hb
  obtain ⟨A1, c1, rfl, hc1, hm1, hr1⟩ := hra
  obtain ⟨A2, c2, rfl, hc2, hm2, hr2⟩ := hrb
  generalize mass a = xs at *
  generalize mass b = ys at *
  unfold maxLen at hm1 hm2
  have HCL := Lib.hid hcl; clear hcl
  go_enter Tryz.func162, Tryz.ntmps162
  go_wp2_with fail
  refine (HCL.out _ (Ext.refl _)).mono ?_
  rintro e W ⟨v, rfl, hrd, hE, hown⟩
  clear HCL
  by_cases h0 : 0 < xs.length
  · obtain ⟨g, c, spare, rfl, hg, hcm, hcl, hO⟩ := hown h0
    unfold maxLen at hcm
    clear hrd hown
    go_wp2
    go_loopw [13, 6] (fun t c wr => ∃ k bo : Nat, k ≤ xs.length ∧ t = .int .i64 (k : Int) ∧ c = .int .u64 (bo : Int) ∧ SubRel w g xs ys spare k bo wr ∧ Ext w wr) (fun t _ _ => xs.length - (intOf t).toNat)
    case atStart =>
      refine ⟨0, 0, by omega, rfl, rfl, ⟨_, by simp, ?_, ?_, by omega, by simp [Dig.val], hO, hE⟩, hE⟩
      · intro z hz
        rcases List.mem_append.1 hz with h | h
        · exact hla z h
        · rw [(List.mem_replicate.1 h).2]; unfold G; omega
      · intro j _
        by_cases hj : j < xs.length
        · simp [List.getD_eq_getElem?_getD, List.getElem?_append_left hj]
        · rw [List.getD_eq_getElem?_getD, List.getElem?_append_right (by omega), List.getElem?_replicate, List.getD_eq_getElem?_getD, List.getElem?_eq_none (by omega)]
          split <;> rfl
    case round =>
      obtain ⟨k, bo, hk, rfl, rfl, ⟨cur, hcl1, hcG, hcx, hbo, hv, hOc, hEc⟩, hEw⟩ := hrel
      clear hO
      by_cases hlt : k < xs.length
      · obtain ⟨b1, o1, rfl, hc⟩ := hr1.at k hlt
        clear hc
        have hco := hOc.cell k (by omega)
        have hcf := hOc.frozen k
        rw [hcx k (Nat.le_refl _)] at hco
        have hxG := Dig.getD_lt hla (by unfold G; omega) k
        have hyG := Dig.getD_lt hlb (by unfold G; omega) k
        have hst := fun q bo' hq => sub_step (q := q) (bo' := bo') (show k < cur.length by omega) hv hq
        obtain ⟨x, hxe⟩ : ∃ x, x = xs.getD k 0 := ⟨_, rfl⟩
        rw [← hxe] at hco hxG
        rw [← hxe] at hst
        obtain ⟨y, hye⟩ : ∃ y, y = ys.getD k 0 := ⟨_, rfl⟩
        rw [← hye] at hyG
        rw [← hye] at hst
        have hnext : ∀ q bo' : Nat, q < G → bo' ≤ 1 → q + (bo + y) = x + bo' * G → ∀ w' : World, Own w' g (cur.set k q) → Ext w w' → SubRel w g xs ys spare (k + 1) bo' w' := by
          intro q bo' h1 h2 h3 w' h4 h5
          refine ⟨_, by rw [List.length_set]; exact hcl1, Dig.set_lt hcG h1, fun j hj => ?_, h2, hst q bo' h3, h4, h5⟩
          rw [Dig.getD_set_other (by omega)]
          exact hcx j (by omega)
        have HN := Lib.hid hnext
        clear hnext hst hv hcx
        obtain ⟨l, hl⟩ : ∃ l, l = bo + y := ⟨_, rfl⟩
        have hlG : l ≤ G := by omega
        have HXE := Lib.hid hxe; clear hxe
        have hbl : ys.length ≤ k → l = bo := fun h => by
          rw [hl, hye, List.getD_eq_getElem?_getD, List.getElem?_eq_none h]
          rfl
        by_cases hyl : k < ys.length
        · obtain ⟨b2, o2, rfl, hc2'⟩ := hr2.at k hyl
          rw [← hye] at hc2'
          have hcy := hEw.cell hc2'
          have hw1 : IntKind.u64.wrap ((bo : Int) + (y : Int)) = (l : Int) := by rw [hl, ← Int.natCast_add]; exact wrap_u64 _ (by unfold G at hlG; omega)
          by_cases hxl : x < l
          · obtain ⟨z, hz⟩ : ∃ z, z = x + G := ⟨_, rfl⟩
            obtain ⟨q, hq⟩ : ∃ q, q = z - l := ⟨_, rfl⟩
            have hw2 : IntKind.u64.wrap ((x : Int) + 1000000000000000000) = (z : Int) := by rw [hz]; exact wrap_u64 (x + 1000000000000000000) (by unfold G at hxG; omega)
            have hw3 : IntKind.u64.wrap ((z : Int) - (l : Int)) = (q : Int) := by rw [hq, ← Int.natCast_sub (by omega)]; exact wrap_u64 _ (by unfold G at hz hxG; omega)
            have hres := HN.out q 1 (by omega) (by omega) (by omega)
            have HRES := Lib.hid hres; clear hres
            have HO := Lib.hid hOc
            clear hz hq hbl hl hlG HN hye
            go_wp2
            go_roundw
            case rel => exact ⟨k + 1, 1, by omega, by go_num, rfl, HRES.out _ (by have h1 := (HO.out.set k z).set k q; rwa [List.set_set] at h1) ((hEc.set hg _).set hg _), (hEc.set hg _).set hg _⟩
            case measure => simp [intOf]; omega
          · obtain ⟨q, hq⟩ : ∃ q, q = x - l := ⟨_, rfl⟩
            have hw3 : IntKind.u64.wrap ((x : Int) - (l : Int)) = (q : Int) := by rw [hq, ← Int.natCast_sub (by omega)]; exact wrap_u64 _ (by unfold G at hxG; omega)
            have hres := HN.out q 0 (by omega) (by omega) (by omega)
            have HRES := Lib.hid hres; clear hres
            have HO := Lib.hid hOc
            clear hq hbl hl hlG HN hye
            go_wp2
            go_roundw
            case rel => exact ⟨k + 1, 0, by omega, by go_num, rfl, HRES.out _ (HO.out.set k q) (hEc.set hg _), hEc.set hg _⟩
            case measure => simp [intOf]; omega
        · obtain rfl := hbl (by omega)
          by_cases hxl : x < l
          · obtain ⟨z, hz⟩ : ∃ z, z = x + G := ⟨_, rfl⟩
            obtain ⟨q, hq⟩ : ∃ q, q = z - l := ⟨_, rfl⟩
            have hw2 : IntKind.u64.wrap ((x : Int) + 1000000000000000000) = (z : Int) := by rw [hz]; exact wrap_u64 (x + 1000000000000000000) (by unfold G at hxG; omega)
            have hw3 : IntKind.u64.wrap ((z : Int) - (l : Int)) = (q : Int) := by rw [hq, ← Int.natCast_sub (by omega)]; exact wrap_u64 _ (by unfold G at hz hxG; omega)
            have hres := HN.out q 1 (by omega) (by omega) (by omega)
            have HRES := Lib.hid hres; clear hres
            have HO := Lib.hid hOc
            clear hz hq hbl hl hlG HN hye
            go_wp2
            go_roundw
            case rel => exact ⟨k + 1, 1, by omega, by go_num, rfl, HRES.out _ (by have h1 := (HO.out.set k z).set k q; rwa [List.set_set] at h1) ((hEc.set hg _).set hg _), (hEc.set hg _).set hg _⟩
            case measure => simp [intOf]; omega
          · obtain ⟨q, hq⟩ : ∃ q, q = x - l := ⟨_, rfl⟩
            have hw3 : IntKind.u64.wrap ((x : Int) - (l : Int)) = (q : Int) := by rw [hq, ← Int.natCast_sub (by omega)]; exact wrap_u64 _ (by unfold G at hxG; omega)
            have hres := HN.out q 0 (by omega) (by omega) (by omega)
            have HRES := Lib.hid hres; clear hres
            have HO := Lib.hid hOc
            clear hq hbl hl hlG HN hye
            go_wp2
            go_roundw
            case rel => exact ⟨k + 1, 0, by omega, by go_num, rfl, HRES.out _ (HO.out.set k q) (hEc.set hg _), hEc.set hg _⟩
            case measure => simp [intOf]; omega
      · obtain rfl : k = xs.length := by omega
        rw [List.take_length, List.take_of_length_le hlen, hva, hvb] at hv
        have hrd : Reads wr (.slice (some ⟨g, 0, none⟩) xs.length c) (cur.take xs.length) := by
          have h1 := hOc.row.take xs.length
          have h2 : (cur.take xs.length).length = xs.length := by rw [List.length_take]; omega
          exact ⟨_, c, by rw [h2], by rw [h2]; exact hcl, by unfold maxLen; exact hcm, h1⟩
        have hlt2 := Dig.val_lt (b := G) (cur.take xs.length) (fun z hz => hcG z (List.mem_of_mem_take hz))
        rw [List.length_take, Nat.min_eq_left (by omega)] at hlt2
        have hfin : Dig.val G (cur.take xs.length) = a - b := by
          rcases Nat.lt_or_ge bo 1 with h | h
          · obtain rfl : bo = 0 := by omega
            omega
          · have : bo = 1 := by omega
            rw [this] at hv
            omega
        have HF := Lib.hid hfin
        clear hfin hlt2 hv
        go_wp2_with fail
        have hxl : (cur.take xs.length).length = xs.length := by rw [List.length_take]; omega
        have htr := trim_at (some ⟨g, 0, none⟩) c (cur.take xs.length) wr (by rw [hxl]; exact hrd) (fun z hz => hcG z (List.mem_of_mem_take hz))
        rw [hxl] at htr
        refine htr.mono ?_
        rintro e w' ⟨n, rfl, _, hm, hE2⟩
        rw [HF.out] at hm
        clear htr hxl
        go_wp2
        go_ret
        exact ⟨_, rfl, hm, fun A l c e _ => (by cases e; exact hg), Ext.trans _ _ _ hEw hE2⟩
  · obtain rfl : xs = [] := List.eq_nil_of_length_eq_zero (by omega)
    obtain rfl : ys = [] := List.eq_nil_of_length_eq_zero (by simpa using hlen)
    obtain ⟨A, c, rfl, hc, hm, hr⟩ := hrd
    have hrd : Reads W (.slice A 0 c) [] := ⟨A, c, rfl, hc, hm, hr⟩
    clear hr1 hr2 hown hm1 hm2 hs hr
    have HM := Lib.hid hm; have HRD := Lib.hid hrd
    clear hm hrd
    go_wp2
    go_loopw [13, 6] (fun t c wr => t = .int .i64 (0 : Int) ∧ c = .int .u64 (0 : Int) ∧ wr = W) (fun t _ _ => 0)
    case atStart => exact ⟨rfl, rfl, rfl⟩
    case round =>
      obtain ⟨rfl, rfl, rfl⟩ := hrel
      go_wp2_with fail
      refine (trim_any _ _ _ HRD.out (fun z hz => by simp at hz)).mono ?_
      rintro e w' ⟨v, rfl, hm, hE2⟩
      have e : Dig.val G [] = a - b := by rw [← hva, ← hvb]; rfl
      rw [e] at hm
      have HE := Lib.hid e
      clear hva hvb e
      go_wp2
      go_ret
      have hz : mass (a - b) = [] := by rw [← HE.out]; rfl
      exact ⟨v, rfl, hm, fun A l c e hl => (by
        obtain ⟨A', c', e', _⟩ := hm
        rw [hz] at e'
        rw [e] at e'
        cases e'
        simp at hl), Ext.trans _ _ _ hE hE2⟩
theorem sub_any (va vb : Value) (a b : Nat) (w : World) (ha : IsMass w va a) (hb : IsMass w vb b) (hab : b ≤ a) (hs : (mass a).length ≤ 17592186044416) : Calls Tryz.prog 162 #[va, vb] w (Ret (.mass (a - b)) w) := by
  refine (sub_at va vb a b w ha hb hab hs).mono ?_
  rintro e w' ⟨v, h1, h2, _, h3⟩
  exact ⟨v, h1, h2, h3⟩
end Go.Proofs.Xx
end
section
namespace Go.Proofs.Xx
open Go.RowKit Go.V Go.Grow

/-- The first places of a block, overwritten by a list. -/
theorem copy_u64 {w : World} {g c d : Nat} {xs : List Nat} {A : Option Addr} {L : Nat} (hO : Own w g (List.replicate L 0)) (hx : Row w A (u64s xs)) (hl : xs.length ≤ L) (ty : TypeId) :
    ∃ W : World, (Builtin.copy_ #[107, 107] ty #[.slice (some ⟨g, 0, none⟩) L d, .slice A xs.length c]).run Tryz.prog w = .ok (.int .i64 (xs.length : Int)) W ∧ Own W g (xs ++ List.replicate (L - xs.length) 0) ∧ ∀ w0 : World, w0.heap.size ≤ g → Ext w0 w → Ext w0 W := by
  have hs : (Tryz.prog.info? 192).map (·.size) = some 1 := by
    have := congrArg (Option.map (fun x : Option Value × Nat × Nat => x.2.1)) info403
    simpa [Option.map_map, Function.comp_def] using this
  by_cases h0 : xs.length = 0
  · obtain rfl : xs = [] := List.eq_nil_of_length_eq_zero h0
    refine ⟨w, ?_, by simpa using hO, fun _ _ h => h⟩
    exact run_copy_none w 107 107 ty 192 _ _ _ _ _ _ Tryz.underlying107 hs (by simp)
  · obtain ⟨a, rfl⟩ : ∃ a, A = some a := by
      rcases hx with h | ⟨b, o, rfl, _⟩
      · cases xs with
        | nil => simp at h0
        | cons y l => cases h
      · exact ⟨_, rfl⟩
    obtain ⟨T, hT⟩ := hO
    have hr := run_copy_row (P := Tryz.prog) w 107 107 ty 192 g 0 L d a xs.length c _ T (u64s xs) Tryz.underlying107 hs hT (by simp [u64s]; exact (Nat.min_eq_left hl).symm) (row_cells hx) (by simp [u64s]; exact hl) (by
      intro v hv
      obtain ⟨n, _, rfl⟩ := List.mem_map.1 hv
      rfl)
    have e : ((u64s (List.replicate L 0)).toArray.toList.take 0 ++ u64s xs ++ (u64s (List.replicate L 0)).toArray.toList.drop (0 + (u64s xs).length)) = u64s (xs ++ List.replicate (L - xs.length) 0) := by
      simp [u64s]
    rw [e] at hr
    refine ⟨_, ?_, ⟨T, setRow_heap w g _ _ T (0, 0) hT⟩, fun w0 h1 h2 => ?_⟩
    · rw [hr]
      simp [u64s, goInt]
    · exact Below.trans h2 ⟨rfl, rfl, rfl, by simp [World.setRow], fun k hk => setRow_other w g k _ (by omega)⟩

theorem getD_pad (xs : List Nat) (m j : Nat) : (xs ++ List.replicate m 0).getD j 0 = xs.getD j 0 := by
  by_cases hj : j < xs.length
  · simp [List.getD_eq_getElem?_getD, List.getElem?_append_left hj]
  · rw [List.getD_eq_getElem?_getD, List.getElem?_append_right (by omega), List.getElem?_replicate, List.getD_eq_getElem?_getD, List.getElem?_eq_none (by omega)]
    split <;> rfl
theorem getD_end {xs : List Nat} {j : Nat} (h : xs.length ≤ j) : xs.getD j 0 = 0 := by
  rw [List.getD_eq_getElem?_getD, List.getElem?_eq_none h]
  rfl
theorem all_of_getD {xs : List Nat} {c : Nat} (h : ∀ j, j < xs.length → xs.getD j 0 < c) : ∀ x ∈ xs, x < c := by
  intro x hx
  obtain ⟨j, hj, rfl⟩ := List.mem_iff_getElem.1 hx
  have := h j hj
  rwa [List.getD_eq_getElem?_getD, List.getElem?_eq_getElem hj] at this

def AddRel (w : World) (g : Nat) (xs ys : List Nat) (n k : Nat) (wr : World) : Prop :=
  ∃ cur : List Nat, cur.length = n + 1 ∧ (∀ j, cur.getD j 0 = xs.getD j 0 + (if j < k then ys.getD j 0 else 0)) ∧ Dig.val G cur = Dig.val G xs + Dig.val G (ys.take k) ∧ Own wr g cur ∧ Ext w wr
theorem carry_val {cur : List Nat} {k z x y : Nat} (h1 : k + 1 < cur.length) (hx : cur.getD k 0 = x) (hy : cur.getD (k + 1) 0 = y) (hz : x = z + G) : Dig.val G ((cur.set k z).set (k + 1) (y + 1)) = Dig.val G cur := by
  have e1 := Dig.val_set G cur k z (by omega)
  have e2 := Dig.val_set G (cur.set k z) (k + 1) (y + 1) (by rw [List.length_set]; exact h1)
  rw [Dig.getD_set_other (by omega), hy, Nat.add_mul, Nat.pow_succ, Nat.mul_comm (G ^ k) G] at e2
  rw [hx, hz, Nat.add_mul] at e1
  omega
def CarryRel (w : World) (g : Nat) (s n k : Nat) (wr : World) : Prop :=
  ∃ cur : List Nat, cur.length = n + 1 ∧ (∀ j, j < k → cur.getD j 0 < G) ∧ cur.getD k 0 < 2 * G ∧ (∀ j, k < j → cur.getD j 0 + 1 < 2 * G) ∧ (k < n → cur.getD n 0 = 0) ∧ cur.getD n 0 ≤ 1 ∧ Dig.val G cur = s ∧ Own wr g cur ∧ Ext w wr

set_option maxHeartbeats 1000000 in
set_option maxRecDepth 100000 in
theorem plus_any (va vb : Value) (a b : Nat) (w : World) (ha : IsMass w va a) (hb : IsMass w vb b) (hs : (mass a).length + (mass b).length ≤ 17592186044416) : Calls Tryz.prog 163 #[va, vb] w (Ret (.mass (a + b)) w) := by
  obtain ⟨A1, c1, rfl, hc1, hm1, hr1⟩ := ha
  obtain ⟨A2, c2, rfl, hc2, hm2, hr2⟩ := hb
  have hva : Dig.val G (mass a) = a := Dig.val_digs G_two a
  have hvb : Dig.val G (mass b) = b := Dig.val_digs G_two b
  have hla := mass_lt a
  have hlb := mass_lt b
  generalize mass a = xs at *
  generalize mass b = ys at *
  unfold maxLen at hm1 hm2
  obtain ⟨n, hn1, hn2, hn3, hn4⟩ : ∃ n : Nat, max (xs.length : Int) (ys.length : Int) = n ∧ xs.length ≤ n ∧ ys.length ≤ n ∧ n ≤ xs.length + ys.length :=
    ⟨max xs.length ys.length, by omega, by omega, by omega, by omega⟩
  have hmk := make_mass ((n : Int) + 1) (by omega) (by omega) w
  have hO : Own (w.alloc (.cells (u64s (List.replicate (n + 1) 0)).toArray 192)) w.heap.size (List.replicate (n + 1) 0) := Own.new _ _ _
  have hE : Ext w (w.alloc (.cells (u64s (List.replicate (n + 1) 0)).toArray 192)) := Ext.alloc _ _
  obtain ⟨W, hcp, hOW, hEW⟩ := copy_u64 (d := n + 1) (c := c1) hO (hr1.mono hE) (by omega) 3
  have hEW := hEW w (Nat.le_refl _) hE
  rw [show ((n : Int) + 1).toNat = n + 1 by omega] at hmk
  generalize w.alloc (.cells (u64s (List.replicate (n + 1) 0)).toArray 192) = W0 at *
  have HO := Lib.hid hOW; clear hOW hO
  clear hE
  go_enter Tryz.func163, Tryz.ntmps163
  go_wp2
  have hO := HO.out
  clear HO hcp
  generalize hge : w.heap.size = g at hO hmk ⊢
  clear hmk
  have hg : w.heap.size ≤ g := by omega
  clear hge
  go_loopw [21] (fun t wr => ∃ k : Nat, k ≤ ys.length ∧ t = .int .i64 k ∧ AddRel w g xs ys n k wr) (fun t _ => ys.length - (intOf t).toNat)
  case atStart =>
    refine ⟨0, Nat.zero_le _, rfl, _, by simp; omega, fun j => ?_, by simp [Dig.val_append, Dig.val_replicate, Dig.val], hO, by assumption⟩
    rw [getD_pad]
    simp
  case round =>
    obtain ⟨k, hk, rfl, hrel⟩ := hrel
    clear hO
    by_cases hlt : k < ys.length
    · obtain ⟨b2, o2, rfl, hc⟩ := hr2.at k hlt
      obtain ⟨cur, hlen, hcur, hv, hO, hE⟩ := hrel
      have hcy := hE.cell hc
      have hco := hO.cell k (by omega)
      have hcf := hO.frozen k
      have hxG := Dig.getD_lt hla (by unfold G; omega) k
      have hyG := Dig.getD_lt hlb (by unfold G; omega) k
      rw [hcur k, if_neg (by omega), Nat.add_zero] at hco
      have hvs := Dig.val_set G cur k (xs.getD k 0 + ys.getD k 0) (by omega)
      rw [hcur k, if_neg (by omega), Nat.add_zero, Nat.add_mul] at hvs
      have hvt := val_take_any G ys k
      have hnew : ∀ w' : World, Own w' g (cur.set k (xs.getD k 0 + ys.getD k 0)) → Ext w w' → AddRel w g xs ys n (k + 1) w' := by
        intro w' h1 h2
        refine ⟨_, by rw [List.length_set]; exact hlen, fun j => ?_, by omega, h1, h2⟩
        by_cases hj : k = j
        · subst hj
          rw [Dig.getD_set_self (by omega), if_pos (by omega)]
        · rw [Dig.getD_set_other hj, hcur j]
          by_cases hj2 : j < k
          · rw [if_pos hj2, if_pos (by omega)]
          · rw [if_neg hj2, if_neg (by omega)]
      have hw1 : IntKind.u64.wrap ((xs.getD k 0 : Int) + (ys.getD k 0 : Int)) = ((xs.getD k 0 + ys.getD k 0 : Nat) : Int) := by rw [← Int.natCast_add]; exact wrap_u64 _ (by unfold G at hxG hyG; omega)
      have HN := Lib.hid hnew
      have HO := Lib.hid hO
      clear hnew hcur hv hvs hvt hO hc
      generalize xs.getD k 0 + ys.getD k 0 = z at *
      generalize xs.getD k 0 = x at *
      generalize ys.getD k 0 = y at *
      have hkn : k < n + 1 := by omega
      go_wp2
      go_roundw
      case rel => exact ⟨k + 1, by omega, by go_num, HN.out _ (HO.out.set k z) (hE.set hg _)⟩
      case measure => simp [intOf]; omega
    · obtain rfl : k = ys.length := by omega
      obtain ⟨cur, hlen, hcur, hv, hO, hE⟩ := hrel
      have hC : CarryRel w g (a + b) n 0 wr := by
        have hb : ∀ j, cur.getD j 0 + 1 < 2 * G := fun j => by
          have h1 := Dig.getD_lt hla (by unfold G; omega) j
          have h2 := Dig.getD_lt hlb (by unfold G; omega) j
          rw [hcur j]
          split <;> omega
        have hz : cur.getD n 0 = 0 := by rw [hcur n, getD_end hn2, if_neg (by omega)]
        refine ⟨cur, hlen, fun j hj => by omega, Nat.lt_of_succ_lt (hb 0), fun j _ => hb j, fun _ => hz, by omega, ?_, hO, hE⟩
        rw [hv, hva, List.take_length, hvb]
      clear hcur hv hO hE hlen
      go_wp2
      obtain ⟨w1, hw1⟩ : ∃ w1 : World, w1 = wr := ⟨_, rfl⟩
      rw [← hw1] at hC ⊢
      clear hw1 wr
      go_loopw [37] (fun t wr => ∃ k : Nat, k ≤ n ∧ t = .int .i64 k ∧ CarryRel w g (a + b) n k wr) (fun t _ => n - (intOf t).toNat)
      case atStart => exact ⟨0, Nat.zero_le _, rfl, hC⟩
      case round =>
        obtain ⟨k, hk, rfl, hrel⟩ := hrel
        clear hC
        obtain ⟨cur, hlen, hlow, hmid, hhigh, hz, hone, hv, hO, hE⟩ := hrel
        by_cases hlt : k < n
        · have hco := hO.cell k (by omega)
          have hco2 := hO.cell (k + 1) (by omega)
          have hcf := hO.frozen k
          have hcf2 := hO.frozen (k + 1)
          have hkn : k < n + 1 := by omega
          have hkn2 : k + 1 < n + 1 := by omega
          obtain ⟨x, hxe⟩ : ∃ x, x = cur.getD k 0 := ⟨_, rfl⟩
          obtain ⟨y, hye⟩ : ∃ y, y = cur.getD (k + 1) 0 := ⟨_, rfl⟩
          rw [← hxe] at hco
          rw [← hye] at hco2
          by_cases hx : x < G
          · have hnew : CarryRel w g (a + b) n (k + 1) wr := by
              refine ⟨cur, hlen, fun j hj => ?_, Nat.lt_of_succ_lt (hhigh _ (by omega)), fun j hj => hhigh j (by omega), fun _ => hz hlt, hone, hv, hO, hE⟩
              rcases Nat.lt_or_ge j k with h | h
              · exact hlow j h
              · obtain rfl : j = k := by omega
                omega
            have HN := Lib.hid hnew
            have HX : ¬ (1000000000000000000 : Int) ≤ (x : Int) := by unfold G at hx; omega
            clear hnew hlow hmid hhigh hz hone hv hxe hye hx
            go_wp2
            go_roundw
            case rel => exact ⟨k + 1, by omega, by go_num, HN.out⟩
            case measure => simp [intOf]; omega
          · obtain ⟨z, hze⟩ : ∃ z, z = x - G := ⟨_, rfl⟩
            have hxz : x = z + G := by omega
            have hzG : z < G := by omega
            have hyb : y + 1 < 2 * G := by rw [hye]; exact hhigh (k + 1) (by omega)
            have hcv := carry_val (z := z) (show k + 1 < cur.length by omega) hxe.symm hye.symm hxz
            have hnew : ∀ w' : World, Own w' g ((cur.set k z).set (k + 1) (y + 1)) → Ext w w' → CarryRel w g (a + b) n (k + 1) w' := by
              intro w' h1 h2
              have hlen2 : ((cur.set k z).set (k + 1) (y + 1)).length = n + 1 := by rw [List.length_set, List.length_set]; exact hlen
              have hself : ((cur.set k z).set (k + 1) (y + 1)).getD (k + 1) 0 = y + 1 := Dig.getD_set_self (by rw [List.length_set]; omega)
              have hother : ∀ j, k + 1 ≠ j → k ≠ j → ((cur.set k z).set (k + 1) (y + 1)).getD j 0 = cur.getD j 0 := fun j h3 h4 => by
                rw [Dig.getD_set_other h3, Dig.getD_set_other h4]
              refine ⟨_, hlen2, fun j hj => ?_, by rw [hself]; exact hyb, fun j hj => by rw [hother j (by omega) (by omega)]; exact hhigh j (by omega), fun h => ?_, ?_, by rw [hcv]; exact hv, h1, h2⟩
              · rcases Nat.lt_or_ge j k with h | h
                · rw [hother j (by omega) (by omega)]; exact hlow j h
                · obtain rfl : j = k := by omega
                  rw [Dig.getD_set_other (by omega), Dig.getD_set_self (by omega)]
                  exact hzG
              · rw [hother n (by omega) (by omega)]; exact hz hlt
              · by_cases h : k + 1 = n
                · have h5 : y = 0 := by rw [hye, h]; exact hz hlt
                  rw [← h, hself, h5]
                  exact Nat.le_refl _
                · rw [hother n (by omega) (by omega)]; exact hone
            have HN := Lib.hid hnew
            have HX : (1000000000000000000 : Int) ≤ (x : Int) := by unfold G at hxz; omega
            have hw1 : IntKind.u64.wrap ((x : Int) - 1000000000000000000) = (z : Int) := by
              have : (x : Int) - 1000000000000000000 = (z : Int) := by unfold G at hxz; omega
              rw [this]
              exact wrap_u64 _ (by unfold G at hzG; omega)
            have hw2 : IntKind.u64.wrap ((y : Int) + 1) = ((y + 1 : Nat) : Int) := wrap_u64 (y + 1) (by unfold G at hyb; omega)
            have HO := Lib.hid hO
            clear hnew hlow hmid hhigh hz hone hv hxe hye hx hze hxz hcv hO
            generalize y + 1 = y1 at *
            go_wp2
            go_roundw
            case rel => exact ⟨k + 1, by omega, by go_num, HN.out _ ((HO.out.set k z).set (k + 1) y1) ((hE.set hg _).set hg _)⟩
            case measure => simp [intOf]; omega
        · obtain rfl : k = n := by omega
          have hlt2 : ∀ z ∈ cur, z < G := all_of_getD (fun j hj => by
            rcases Nat.lt_or_ge j k with h | h
            · exact hlow j h
            · obtain rfl : j = k := by omega
              have : (1 : Nat) < G := by unfold G; omega
              omega)
          have hrd : Reads wr (.slice (some ⟨g, 0, none⟩) (k + 1) (k + 1)) cur := by
            have := hO.reads (c := cur.length) (Nat.le_refl _) (by unfold maxLen; omega)
            rwa [hlen] at this
          have HV := Lib.hid hv
          clear hlow hmid hhigh hz hone hv
          go_wp2_with fail
          refine (trim_any _ _ _ hrd hlt2).mono ?_
          rintro e w' ⟨v, rfl, hm, hE2⟩
          rw [HV.out] at hm
          go_wp2
          go_ret
          exact ⟨v, rfl, hm, Ext.trans _ _ _ hE hE2⟩
end Go.Proofs.Xx
end
