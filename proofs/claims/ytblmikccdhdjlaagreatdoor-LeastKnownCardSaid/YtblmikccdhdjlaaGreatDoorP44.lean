/- A part of the proof: the texts W73, W74, W75, W76. -/
import Derived.Test.YtblmikccdhdjlaaGreatDoorP43
import Derived.BigQuiet
set_option linter.unusedVariables false
set_option linter.unusedSimpArgs false
section
namespace Go.V
open Go.RowKit
/-- A slice that reads as a list of texts. -/
def IsStrs (w : World) (v : Value) (l : List ByteArray) : Prop := ∃ A c, v = .slice A l.length c ∧ l.length ≤ c ∧ c ≤ maxLen ∧ (l = [] ∨ ∃ b o, A = some ⟨b, o, none⟩ ∧ ∀ i x, l[i]? = some x → w.cell? ⟨b, o + i, none⟩ = some (.string x))
theorem IsStrs.mono {w w' : World} {v : Value} {l : List ByteArray} (h : IsStrs w v l) (hE : Ext w w') : IsStrs w' v l := by
  obtain ⟨A, c, h1, h2, h3, h4⟩ := h
  refine ⟨A, c, h1, h2, h3, ?_⟩
  rcases h4 with h4 | ⟨b, o, h5, h6⟩
  · exact .inl h4
  · exact .inr ⟨b, o, h5, fun i x hx => hE.cell (h6 i x hx)⟩
theorem IsStrs.get {w : World} {A : Option Addr} {n c : Nat} {l : List ByteArray} (h : IsStrs w (.slice A n c) l) {i : Nat} {x : ByteArray} (hx : l[i]? = some x) : ∃ b o, A = some ⟨b, o, none⟩ ∧ w.cell? ⟨b, o + i, none⟩ = some (.string x) := by
  obtain ⟨A', c', e, _, _, h4⟩ := h
  cases e
  rcases h4 with h4 | ⟨b, o, h5, h6⟩
  · rw [h4] at hx; cases hx
  · exact ⟨b, o, h5, h6 i x hx⟩
theorem IsStrs.new {w : World} {g : Nat} {l : List ByteArray} (hb : Blk w g (l.map fun x => .string x)) (hl : l.length ≤ 1000000) : IsStrs w (.slice (some ⟨g, 0, none⟩) l.length l.length) l :=
  ⟨_, _, rfl, Nat.le_refl _, by unfold maxLen; omega, .inr ⟨g, 0, rfl, fun i x hx => by rw [Nat.zero_add, hb.cell, List.getElem?_map, hx]; rfl⟩⟩
/-- What the laws need of the program's variables. -/
structure Env (w : World) : Prop where
  tab : Go.Proofs.Xx.Tab w
  ml : ∃ m, w.cell? ⟨2, 0, none⟩ = some (.int .i64 m)
theorem Env.mono {w w' : World} (h : Env w) (hE : Ext w w') : Env w' := ⟨h.tab.mono hE, by
  obtain ⟨m, h1⟩ := h.ml
  exact ⟨m, hE.cell h1⟩⟩
end Go.V
namespace Go.Proofs.Xx
open Go.RowKit Go.V Go.Grow Lin Go.Txt

/-- The fraction that a text spells with a stroke. -/
def cutF (s : ByteArray) : Fr := (⟨(Lib.cut s.data.toList [47]).1.toArray⟩, if (Lib.cut s.data.toList [47]).2.2 then ⟨(Lib.cut s.data.toList [47]).2.1.toArray⟩ else ⟨#[49]⟩)
def qL (l : List ByteArray) : List Fr := l.map cutF

set_option maxHeartbeats 4000000 in
set_option maxRecDepth 100000 in
theorem q_any (vl : Value) (l : List ByteArray) (w : World) (hl : IsStrs w vl l) (he : Env w) (hlen : l.length ≤ 1000000) (hs : ∀ s ∈ l, s.size < 4294967281) :
    Calls Tryz.prog 33 #[vl] w fun e w' => ∃ v, e = .returned v ∧ IsFracs w' v (qL l) ∧ Ext w w' := by
  obtain ⟨A, c, rfl, hc, hmx, _⟩ := id hl
  have HL := Lib.hid hl
  have HC := Lib.hid hc
  have HN := Lib.hid hlen
  have HCut : Hid (∀ (s : ByteArray) (w' : World), s ∈ l → Ext w w' → Calls Tryz.prog 94 #[.string s, .string ⟨#[47]⟩] w' fun e w'' => e = .returned (.tuple #[.string ⟨(Lib.cut s.data.toList [47]).1.toArray⟩, .string ⟨(Lib.cut s.data.toList [47]).2.1.toArray⟩, .bool (Lib.cut s.data.toList [47]).2.2]) ∧ Ext w' w'') := fun s w' hm hE => by
    obtain ⟨m, h1⟩ := (he.mono hE).ml
    refine (Tryz.strings_Cut s ⟨#[47]⟩ m w' (hs s hm) h1).mono ?_
    rintro e w'' ⟨rfl, n, rfl⟩
    exact ⟨rfl, Ext.drewN _ _⟩
  clear hl hmx hlen hs hc he
  go_enter Tryz.func33, Tryz.ntmps33
  go_wp2_with fail
  go_loopw [3, 11] (fun out t wr => ∃ i : Nat, t = .int .i64 (i : Int) ∧ i ≤ l.length ∧ Lst wr w.heap.size 46 2 out i (fracCells (qL (l.take i))) ∧ Ext w wr) (fun _ t _ => upTo l.length t)
  case atStart => exact ⟨0, rfl, Nat.zero_le _, Lst.nil _ _ _ _, Ext.refl _⟩
  case round =>
    obtain ⟨i, rfl, hi, hLs, hE⟩ := hrel
    by_cases hlt : i < l.length
    · obtain ⟨s, hq⟩ : ∃ s, l[i]? = some s := ⟨l[i], List.getElem?_eq_getElem hlt⟩
      obtain ⟨b, o, rfl, y1⟩ := IsStrs.get HL.out hq
      have q1 := hE.cell y1
      have HCT := Lib.hid (HCut.out s wr (List.mem_of_getElem? hq) hE)
      have HWI : Hid (wrap64 ((i : Int) + 1) = ((i + 1 : Nat) : Int)) := by
        have := HN.out
        show wrap64 ((i : Int) + 1) = ((i + 1 : Nat) : Int)
        rw [IntWalk.wrap64_in _ (by omega)]
        omega
      have hicap : i < c := by have := HC.out; omega
      have HLS := Lib.hid hLs
      have htk := Lib.hid (take_snoc hq)
      obtain ⟨Ao, co, hout⟩ := hLs.slice
      subst hout
      have HST : Hid (∀ (x1 x2 : ByteArray) (w3 : World), Ext wr w3 → cutF s = (x1, x2) → ∃ v' W', (Builtin.append_ #[23, 23] 23 #[.slice Ao i co, .slice (some ⟨w3.heap.size, 0, none⟩) 1 1]).run Tryz.prog (w3.alloc (.cells #[.string x1, .string x2] 46)) = .ok v' W' ∧ Lst W' w.heap.size 46 2 v' (i + 1) (fracCells (qL (l.take (i + 1)))) ∧ Ext w W') := fun x1 x2 w3 E3 hx => by
        have E4 : Ext wr (w3.alloc (.cells #[.string x1, .string x2] 46)) := Ext.trans _ _ _ E3 (Ext.alloc _ _)
        have hB : Blk (w3.alloc (.cells #[.string x1, .string x2] 46)) w3.heap.size [.string x1, .string x2] := Blk.new' 46 rfl rfl
        have hLs4 := HLS.out.ext E4
        have hsz4 : w.heap.size ≤ (w3.alloc (.cells #[.string x1, .string x2] 46)).heap.size := (Ext.trans _ _ _ hE E4).size
        obtain ⟨v', W', hr, k2, k3, k4, k5, _⟩ := app_fracs hLs4 ⟨w3.heap.size, 0, none⟩ 1 1 [.string x1, .string x2] rfl (fun j u hu => by rw [add0, hB.cell]; exact hu) (fun u hu => by
          simp at hu
          rcases hu with rfl | rfl <;> exact ⟨rfl, fun n h => by cases h⟩) (by decide) (by have := HN.out; omega) hsz4 23 23 Tryz.underlying23
        refine ⟨v', W', hr, ?_, grown_ext (Ext.trans _ _ _ hE E4) k4 (fun g hg => (hLs4.own hg).1)⟩
        rw [htk.out]
        unfold qL
        rw [List.map_append, List.map_singleton, hx, fracCells_snoc]
        exact k2
      have HCF : Hid (cutF s = (⟨(Lib.cut s.data.toList [47]).1.toArray⟩, if (Lib.cut s.data.toList [47]).2.2 then ⟨(Lib.cut s.data.toList [47]).2.1.toArray⟩ else ⟨#[49]⟩)) := rfl
      clear hLs y1
      generalize (Lib.cut s.data.toList [47]).2.1 = x2 at *
      generalize (Lib.cut s.data.toList [47]).1 = x1 at *
      generalize (Lib.cut s.data.toList [47]).2.2 = more at *
      cases more with
      | true =>
        simp only [if_true] at HCF
        go_wp2_with fail
        refine HCT.out.mono ?_
        rintro e w3 ⟨rfl, hE3⟩
        obtain ⟨v', W', hr, k2, k3⟩ := HST.out _ _ w3 hE3 HCF.out
        have HR := Lib.hid hr
        have HK := Lib.hid k2
        have HG := Lib.hid k3
        clear hr k2 k3
        go_wp2_with (first | (at_builtin; refine wp_app rfl _ _ _ rfl rfl rfl HR.out ?_) | fail)
        refine ⟨⟨i + 1, by rw [HWI.out], hlt, HK.out, HG.out⟩, ?_⟩
        rw [HWI.out]
        exact upTo_lt hlt
      | false =>
        simp only [Bool.false_eq_true, if_false] at HCF
        go_wp2_with fail
        refine HCT.out.mono ?_
        rintro e w3 ⟨rfl, hE3⟩
        obtain ⟨v', W', hr, k2, k3⟩ := HST.out _ _ w3 hE3 HCF.out
        have HR := Lib.hid hr
        have HK := Lib.hid k2
        have HG := Lib.hid k3
        clear hr k2 k3
        go_wp2_with (first | (at_builtin; refine wp_app rfl _ _ _ rfl rfl rfl HR.out ?_) | fail)
        refine ⟨⟨i + 1, by rw [HWI.out], hlt, HK.out, HG.out⟩, ?_⟩
        rw [HWI.out]
        exact upTo_lt hlt
    · have hin : i = l.length := by omega
      have HLS := Lib.hid hLs
      obtain ⟨Ao, co, hout⟩ := hLs.slice
      subst hout
      clear hLs
      go_wp2
      go_ret
      refine ⟨_, rfl, Lst.fracs (B := w.heap.size) ?_, hE⟩
      have := HLS.out
      rw [hin, List.take_length] at this
      unfold qL
      rw [List.length_map]
      rw [hin]
      exact this
end Go.Proofs.Xx
end
section
namespace Go.Proofs.Xx
open Go.RowKit Go.V Go.Grow Lin Go.Txt

theorem toList_inj {a b : ByteArray} (h : a.toList = b.toList) : a = b := by
  rw [Lib.toList_data, Lib.toList_data] at h
  exact bytes_ext h
set_option maxHeartbeats 2000000 in
set_option maxRecDepth 100000 in
theorem sameList_any (va vb : Value) (a b : List Fr) (w : World) (ha : IsFracs w va a) (hb : IsFracs w vb b) : Calls Tryz.prog 20 #[va, vb] w fun e w' => e = .returned (.bool (decide (a = b))) ∧ Ext w w' := by
  obtain ⟨A, c, rfl, hc, hcm, _⟩ := id ha
  obtain ⟨B, d, rfl, hd, _⟩ := id hb
  have HA := Lib.hid ha
  have HB := Lib.hid hb
  have HCM := Lib.hid hcm
  clear ha hb hcm
  by_cases hl : a.length = b.length
  · obtain ⟨n, hn⟩ : ∃ n, n = a.length := ⟨_, rfl⟩
    rw [← hl, ← hn] at hd HB
    rw [← hn] at hc HA
    rw [← hl, ← hn]
    have HN := Lib.hid hn
    have HL := Lib.hid hl
    clear hl hn
    go_enter Tryz.func20, Tryz.ntmps20
    go_wp2_with fail
    go_loopw [5] (fun s wr => ∃ i : Nat, s = .int .i64 (i : Int) ∧ i ≤ n ∧ (∀ j, j < i → a[j]? = b[j]?) ∧ Ext w wr) (fun s _ => upTo n s)
    case atStart => exact ⟨0, rfl, Nat.zero_le _, fun j hj => by omega, Ext.refl _⟩
    case round =>
      obtain ⟨i, rfl, hi, hsame, hE⟩ := hrel
      by_cases hlt : i < n
      · obtain ⟨x, hx⟩ : ∃ x, a[i]? = some x := ⟨_, List.getElem?_eq_getElem (by have := HN.out; omega)⟩
        obtain ⟨y, hy⟩ : ∃ y, b[i]? = some y := ⟨_, List.getElem?_eq_getElem (by have := HN.out; have := HL.out; omega)⟩
        obtain ⟨ba, oa, rfl, k1, k2⟩ := IsFracs.get HA.out hx
        obtain ⟨bb, ob, rfl, k3, k4⟩ := IsFracs.get HB.out hy
        have q1 := hE.cell k1
        have q2 := hE.cell k2
        have q3 := hE.cell k3
        have q4 := hE.cell k4
        have HWI : Hid (wrap64 ((i : Int) + 1) = ((i + 1 : Nat) : Int)) := by
          have := HCM.out
          unfold maxLen at this
          show wrap64 ((i : Int) + 1) = ((i + 1 : Nat) : Int)
          rw [IntWalk.wrap64_in _ (by omega)]
          omega
        have hic : i < c := by omega
        have hid : i < d := by omega
        have HS : Hid (x = y → ∀ j, j < i + 1 → a[j]? = b[j]?) := fun e j hj => by
          by_cases h : j = i
          · subst h; rw [hx, hy, e]
          · exact hsame j (by omega)
        have HNE : Hid (x ≠ y → decide (a = b) = false) := fun h => decide_eq_false (by
          rintro rfl
          rw [hx] at hy
          exact h (Option.some.inj hy))
        obtain ⟨x1, x2⟩ := x
        obtain ⟨y1, y2⟩ := y
        simp only at q1 q2 q3 q4
        clear hsame k1 k2 k3 k4 hx hy
        by_cases e1 : x1 = y1
        · subst e1
          by_cases e2 : x2 = y2
          · subst e2
            have HS2 := Lib.hid (HS.out rfl)
            go_wp2_with fail
            go_quiet (fail)
            go_wp2_with fail
            refine ⟨⟨i + 1, by rw [HWI.out], hlt, HS2.out, Ext.trans _ _ _ hE (Ext.drewN _ _)⟩, ?_⟩
            rw [HWI.out]
            exact upTo_lt hlt
          · have e2' : ¬ x2.toList = y2.toList := fun h => e2 (toList_inj h)
            have HF := Lib.hid (HNE.out (fun h => e2 (Prod.mk.inj h).2))
            go_wp2_with fail
            go_quiet (fail)
            go_wp2
            go_ret
            rw [HF.out]
            exact ⟨rfl, Ext.trans _ _ _ hE (Ext.drewN _ _)⟩
        · have e1' : ¬ x1.toList = y1.toList := fun h => e1 (toList_inj h)
          have HF := Lib.hid (HNE.out (fun h => e1 (Prod.mk.inj h).1))
          go_wp2_with fail
          go_quiet (fail)
          go_wp2
          go_ret
          rw [HF.out]
          exact ⟨rfl, Ext.trans _ _ _ hE (Ext.drewN _ _)⟩
      · have HT : Hid (decide (a = b) = true) := decide_eq_true (by
          have h1 := HN.out
          have h2 := HL.out
          apply List.ext_getElem?
          intro j
          by_cases h : j < i
          · exact hsame j h
          · rw [List.getElem?_eq_none (by omega), List.getElem?_eq_none (by omega)])
        clear hsame
        go_wp2
        go_ret
        rw [HT.out]
        exact ⟨rfl, hE⟩
  · have hl' : ((a.length : Int) == (b.length : Int)) = false := beq_eq_false_iff_ne.2 (by omega)
    have HF : Hid (decide (a = b) = false) := decide_eq_false (fun h => hl (by rw [h]))
    go_enter Tryz.func20, Tryz.ntmps20
    go_wp2
    go_ret
    rw [HF.out]
    exact ⟨rfl, Ext.refl _⟩
end Go.Proofs.Xx
end
section
namespace Go.V
open Go.RowKit Go.Proofs.Xx
def Fact.strs (l : List ByteArray) : Fact := ⟨fun v w => IsStrs w v l, fun _ _ _ hE h => h.mono hE⟩
def Fact.fracs (l : List Fr) : Fact := ⟨fun v w => IsFracs w v l, fun _ _ _ hE h => h.mono hE⟩
def Fact.tab (t : List (List Fr)) : Fact := ⟨fun v w => IsTab w v t, fun _ _ _ hE h => h.mono hE⟩
/-- A list of fractions and an error. -/
def Fact.fracsE (r : List Fr × Int) : Fact := ⟨fun v w => ∃ l, v = .tuple #[l, .int .i64 r.2] ∧ IsFracs w l r.1, fun _ _ _ hE ⟨l, h1, h2⟩ => ⟨l, h1, h2.mono hE⟩⟩
/-- A function with a variable that holds texts. -/
def Fact.isF (g0 : FuncId) (l : List ByteArray) : Fact := ⟨fun v w => ∃ g u, v = .func (.func g0) #[] #[.pointer (some ⟨g, 0, none⟩)] ∧ w.cell? ⟨g, 0, none⟩ = some u ∧ IsStrs w u l, fun _ _ _ hE ⟨g, u, h1, h2, h3⟩ => ⟨g, u, h1, hE.cell h2, h3.mono hE⟩⟩
/-- A function with a variable that holds x. -/
def Fact.boxF (g0 : FuncId) (x : Value) : Fact := ⟨fun v w => ∃ g, v = .func (.func g0) #[] #[.pointer (some ⟨g, 0, none⟩)] ∧ w.cell? ⟨g, 0, none⟩ = some x, fun _ _ _ hE ⟨g, h1, h2⟩ => ⟨g, h1, hE.cell h2⟩⟩
section
variable {P : Program} {ops : Array Oper} {w0 : World} {Q : Exit → Act → World → Prop} {T : Act → World → Prop} {ms : List (Option Fact)} {a : Act} {o : Oper} {rest : List Oper} {fs : List (World → Prop)}
/-- As ro_call; which function is entered is known only with what it waits for. -/
theorem ro_callD {F : Fact} (hw : Region.wanted o (yielded ops a.tmps) = true) (h1 : ∀ w : World, Ext w0 w → Grow.depsHold o fs w → ∃ f args, (execOp a.eval o).run P w = .ok (.enter f args) w ∧ Calls P f args w (Ret F w))
    (h2 : ∀ v : Value, Ro P ops w0 Q T ms rest (fs ++ [F.S v]) (a.put o.dst v)) : Ro P ops w0 Q T (some F :: ms) (o :: rest) fs a := by
  unfold Ro Grow.Rounds
  rw [if_pos hw]
  refine ⟨fun w hE hd => ?_, h2⟩
  obtain ⟨f, args, hr, hc⟩ := h1 w hE hd
  unfold wpList
  rw [if_pos hw]
  left
  unfold Oper.wp
  rw [hr, Oper.upon_enter]
  refine hc.mono ?_
  rintro e w' ⟨v, rfl, hS, hE'⟩
  exact ⟨v, rfl, hE', hS⟩
end
end Go.V
namespace Go.Proofs.Xx
open Go.RowKit Go.V Go.Grow Lin Go.Txt

theorem q_ret (vl : Value) (l : List ByteArray) (w : World) (hl : IsStrs w vl l) (he : Env w) (hlen : l.length ≤ 1000000) (hs : ∀ s ∈ l, s.size < 4294967281) : Calls Tryz.prog 33 #[vl] w (Ret (.fracs (qL l)) w) :=
  (q_any vl l w hl he hlen hs).mono (by rintro e w' ⟨v, rfl, h1, h2⟩; exact ⟨v, rfl, h1, h2⟩)
theorem rows_any (v : Value) (t : List (List Fr)) (w : World) (h : IsTab w v t) : Calls Tryz.prog 37 #[v] w (Ret (.tab t) w) := by
  have H := Lib.hid h
  obtain ⟨A, c, rfl, _⟩ := h
  go_enter Tryz.func37, Tryz.ntmps37
  go_wp2
  go_ret
  exact ⟨_, rfl, H.out, Ext.refl _⟩
theorem is_any (v : Value) (l : List ByteArray) (w : World) (h : IsStrs w v l) : Calls Tryz.prog 39 #[v] w (Ret (.isF 99 l) w) := by
  have E0 : Ext w (w.alloc (.cells #[v] 137)) := Ext.alloc _ _
  have hb : Blk (w.alloc (.cells #[v] 137)) w.heap.size [v] := Blk.new' 137 rfl rfl
  have H := Lib.hid (h.mono E0)
  have HB := Lib.hid hb
  obtain ⟨A, c, rfl, _⟩ := h
  clear hb
  go_enter Tryz.func39, Tryz.ntmps39
  go_wp2
  go_ret
  exact ⟨_, rfl, ⟨_, _, rfl, HB.out.cell 0, H.out⟩, E0⟩
theorem fails_any (z : Int) (w : World) : Calls Tryz.prog 41 #[.int .i64 z] w (Ret (.boxF 101 (.int .i64 z)) w) := by
  have E0 : Ext w (w.alloc (.cells #[.int .i64 z] 33)) := Ext.alloc _ _
  have hb : Blk (w.alloc (.cells #[.int .i64 z] 33)) w.heap.size [.int .i64 z] := Blk.new' 33 rfl rfl
  have HB := Lib.hid hb
  clear hb
  go_enter Tryz.func41, Tryz.ntmps41
  go_wp2
  go_ret
  exact ⟨_, rfl, ⟨_, rfl, HB.out.cell 0⟩, E0⟩
theorem says_any (z : Int) (w : World) : Calls Tryz.prog 40 #[.int .i64 z] w (Ret (.boxF 100 (.int .i64 z)) w) := by
  have E0 : Ext w (w.alloc (.cells #[.int .i64 z] 3)) := Ext.alloc _ _
  have hb : Blk (w.alloc (.cells #[.int .i64 z] 3)) w.heap.size [.int .i64 z] := Blk.new' 3 rfl rfl
  have HB := Lib.hid hb
  clear hb
  go_enter Tryz.func40, Tryz.ntmps40
  go_wp2
  go_ret
  exact ⟨_, rfl, ⟨_, rfl, HB.out.cell 0⟩, E0⟩
/-- The function that is makes, at a list and an error. -/
def isB (l : List ByteArray) (r : List Fr × Int) : Bool := decide (r.1 = qL l) && decide (r.2 = 0)
def failsB (z : Int) (r : List Fr × Int) : Bool := decide (r.1.length = 0) && decide (r.2 = z)
set_option maxHeartbeats 1000000 in
set_option maxRecDepth 100000 in
theorem is1_any (g : Nat) (vl vs : Value) (l : List ByteArray) (r : List Fr × Int) (w : World) (hg : w.cell? ⟨g, 0, none⟩ = some vs) (hs : IsStrs w vs l) (hl : IsFracs w vl r.1) (he : Env w) (hlen : l.length ≤ 1000000) (hsz : ∀ s ∈ l, s.size < 4294967281) :
    Calls Tryz.prog 99 #[vl, .int .i64 r.2, .pointer (some ⟨g, 0, none⟩)] w fun e w' => e = .returned (.bool (isB l r)) ∧ Ext w w' := by
  obtain ⟨L, z⟩ := r
  have HQ := Lib.hid (q_any vs l w hs he hlen hsz)
  have HS : Hid (∀ v w', Ext w w' → IsFracs w' v (qL l) → Calls Tryz.prog 20 #[vl, v] w' fun e w'' => e = .returned (.bool (decide (L = qL l))) ∧ Ext w' w'') := fun v w' hE h => sameList_any vl v L (qL l) w' (hl.mono hE) h
  unfold isB
  obtain ⟨A, c, rfl, _⟩ := hs
  obtain ⟨B, d, rfl, _⟩ := hl
  clear he hlen hsz
  generalize decide (L = qL l) = b at *
  cases b with
  | false =>
    simp only [Bool.false_and]
    go_enter Tryz.func99, Tryz.ntmps99
    go_wp2_with fail
    refine HQ.out.mono ?_
    rintro e w1 ⟨v, rfl, hv, hE1⟩
    have H2 := Lib.hid (HS.out v w1 hE1 hv)
    obtain ⟨B2, d2, rfl, _⟩ := hv
    go_wp2_with fail
    refine H2.out.mono ?_
    rintro e w2 ⟨rfl, hE2⟩
    go_wp2
    go_ret
    exact ⟨rfl, Ext.trans _ _ _ hE1 hE2⟩
  | true =>
    simp only [Bool.true_and]
    go_enter Tryz.func99, Tryz.ntmps99
    go_wp2_with fail
    refine HQ.out.mono ?_
    rintro e w1 ⟨v, rfl, hv, hE1⟩
    have H2 := Lib.hid (HS.out v w1 hE1 hv)
    obtain ⟨B2, d2, rfl, _⟩ := hv
    go_wp2_with fail
    refine H2.out.mono ?_
    rintro e w2 ⟨rfl, hE2⟩
    go_wp2
    go_ret
    refine ⟨?_, Ext.trans _ _ _ hE1 hE2⟩
    by_cases hz : z = 0
    · subst hz; rfl
    · rw [decide_eq_false hz]
      simp [hz]
set_option maxHeartbeats 1000000 in
theorem fails1_any (g : Nat) (vl : Value) (z : Int) (r : List Fr × Int) (w : World) (hg : w.cell? ⟨g, 0, none⟩ = some (.int .i64 z)) (hl : IsFracs w vl r.1) :
    Calls Tryz.prog 101 #[vl, .int .i64 r.2, .pointer (some ⟨g, 0, none⟩)] w fun e w' => e = .returned (.bool (failsB z r)) ∧ Ext w w' := by
  obtain ⟨L, y⟩ := r
  obtain ⟨B, d, rfl, _⟩ := hl
  unfold failsB
  by_cases h1 : L.length = 0
  · have d1 : ((L.length : Int) == 0) = true := by rw [h1]; rfl
    rw [decide_eq_true h1, Bool.true_and]
    simp only
    go_enter Tryz.func101, Tryz.ntmps101
    go_wp2
    go_ret
    refine ⟨?_, Ext.refl _⟩
    by_cases hz : y = z
    · subst hz; simp
    · rw [decide_eq_false hz]
      simp [hz]
  · have d1 : ((L.length : Int) == 0) = false := beq_eq_false_iff_ne.2 (by omega)
    rw [decide_eq_false h1, Bool.false_and]
    simp only
    go_enter Tryz.func101, Tryz.ntmps101
    go_wp2
    go_ret
    exact ⟨rfl, Ext.refl _⟩
set_option maxHeartbeats 1000000 in
theorem says1_any (g : Nat) (z n y : Int) (w : World) (hg : w.cell? ⟨g, 0, none⟩ = some (.int .i64 z)) :
    Calls Tryz.prog 100 #[.int .i64 n, .int .i64 y, .pointer (some ⟨g, 0, none⟩)] w fun e w' => e = .returned (.bool (decide (n = z) && decide (y = 0))) ∧ Ext w w' := by
  by_cases h1 : n = z
  · have d1 : (n == z) = true := by rw [h1]; exact beq_self_eq_true _
    rw [decide_eq_true h1, Bool.true_and]
    go_enter Tryz.func100, Tryz.ntmps100
    go_wp2
    go_ret
    refine ⟨?_, Ext.refl _⟩
    by_cases hz : y = 0
    · subst hz; rfl
    · rw [decide_eq_false hz]
      simp [hz]
  · have d1 : (n == z) = false := beq_eq_false_iff_ne.2 h1
    rw [decide_eq_false h1, Bool.false_and]
    go_enter Tryz.func100, Tryz.ntmps100
    go_wp2
    go_ret
    exact ⟨rfl, Ext.refl _⟩
end Go.Proofs.Xx
end
section
namespace Go.V
open Go.RowKit Go.Proofs.Xx
/-- The address of a fraction. -/
def Fact.frP (x : Fr) : Fact := ⟨fun v w => ∃ b o, v = .pointer (some ⟨b, o, none⟩) ∧ w.cell? ⟨b, o, none⟩ = some (.string x.1) ∧ w.cell? ⟨b, o + 1, none⟩ = some (.string x.2), fun _ _ _ hE ⟨b, o, h1, h2, h3⟩ => ⟨b, o, h1, hE.cell h2, hE.cell h3⟩⟩
theorem IsTab.four {w : World} {g : Nat} {v1 v2 v3 v4 : Value} {l1 l2 l3 l4 : List Fr} (hb : Blk w g [v1, v2, v3, v4]) (h1 : IsFracs w v1 l1) (h2 : IsFracs w v2 l2) (h3 : IsFracs w v3 l3) (h4 : IsFracs w v4 l4) : IsTab w (.slice (some ⟨g, 0, none⟩) 4 4) [l1, l2, l3, l4] := by
  refine ⟨_, _, rfl, Nat.le_refl _, by decide, .inr ⟨g, 0, rfl, fun i l hl => ?_⟩⟩
  match i, hl with
  | 0, hl => cases hl; exact ⟨v1, hb.cell 0, h1⟩
  | 1, hl => cases hl; exact ⟨v2, hb.cell 1, h2⟩
  | 2, hl => cases hl; exact ⟨v3, hb.cell 2, h3⟩
  | 3, hl => cases hl; exact ⟨v4, hb.cell 3, h4⟩
end Go.V
namespace Go.Proofs.Xx
open Go.RowKit Go.V Go.Grow Lin Go.Txt
theorem lsolve_ret (va vb : Value) (t : List (List Fr)) (b : List Fr) (r : List Fr × Int) (w : World) (ht : IsTab w va t) (hb : IsFracs w vb b) (htab : Tab w) (hr : solveC t b = r) : Calls Tryz.prog 18 #[va, vb] w (Ret (.fracsE r) w) := by
  subst hr
  refine (lsolve_any va vb t b w ht hb htab).mono ?_
  rintro e w' ⟨v, rfl, h1, h2⟩
  exact ⟨_, rfl, ⟨v, rfl, h1⟩, h2⟩
theorem lleast_ret (va vb vw : Value) (t : List (List Fr)) (b lw : List Fr) (r : List Fr × Int) (w : World) (ht : IsTab w va t) (hb : IsFracs w vb b) (hw : IsFracs w vw lw) (htab : Tab w) (hr : leastC t b lw = r) : Calls Tryz.prog 22 #[va, vb, vw] w (Ret (.fracsE r) w) := by
  subst hr
  refine (lleast_any va vb vw t b lw w ht hb hw htab).mono ?_
  rintro e w' ⟨v, rfl, h1, h2⟩
  exact ⟨_, rfl, ⟨v, rfl, h1⟩, h2⟩
theorem rank_ret (va : Value) (t : List (List Fr)) (r : Value) (w : World) (ht : IsTab w va t) (htab : Tab w) (hr : rankV t = r) : Calls Tryz.prog 16 #[va] w (Ret (.val r) w) := by
  subst hr
  refine (rank_any va t w ht htab).mono ?_
  rintro e w' ⟨rfl, h2⟩
  exact ⟨_, rfl, rfl, h2⟩
theorem lmeasure_ret (va vb vw vx : Value) (t : List (List Fr)) (b lw x : List Fr) (r : Fr × Int) (w : World) (ht : IsTab w va t) (hb : IsFracs w vb b) (hw : IsFracs w vw lw) (hx : IsFracs w vx x) (htab : Tab w) (hr : measureC t b lw x = r) : Calls Tryz.prog 24 #[va, vb, vw, vx] w (Ret (.val (.tuple #[frV r.1, .int .i64 r.2])) w) := by
  subst hr
  refine (lmeasure_any va vb vw vx t b lw x w ht hb hw hx htab).mono ?_
  rintro e w' ⟨rfl, h2⟩
  exact ⟨_, rfl, rfl, h2⟩
theorem lcheck_ret (va : Value) (t : List (List Fr)) (z : Int) (w : World) (ht : IsTab w va t) (htab : Tab w) (hr : lcheckE t = z) : Calls Tryz.prog 12 #[va] w (Ret (.val (.int .i64 z)) w) := by
  subst hr
  refine (lcheck_any va t w ht htab).mono ?_
  rintro e w' ⟨rfl, h2⟩
  exact ⟨_, rfl, rfl, h2⟩
end Go.Proofs.Xx
end
