/- A part of the proof: the texts W77. -/
import Derived.Test.YtblmikccdhdjlaaGreatDoorP44
set_option linter.unusedVariables false
set_option linter.unusedSimpArgs false
section
namespace Go.Proofs.Xx
open Go.RowKit Go.V Go.Grow Lin Go.Txt
set_option maxRecDepth 100000
theorem wx0 : solveC [qL [⟨#[50]⟩, ⟨#[49]⟩], qL [⟨#[49]⟩, ⟨#[51]⟩]] (qL [⟨#[51]⟩, ⟨#[53]⟩]) = (qL [⟨#[52, 47, 53]⟩, ⟨#[55, 47, 53]⟩], 0) := by kernel_rfl
theorem wx1 : isB [⟨#[52, 47, 53]⟩, ⟨#[55, 47, 53]⟩] (qL [⟨#[52, 47, 53]⟩, ⟨#[55, 47, 53]⟩], 0) = true := by kernel_rfl
theorem wx2 : solveC [qL [⟨#[49]⟩, ⟨#[50]⟩], qL [⟨#[50]⟩, ⟨#[52]⟩]] (qL [⟨#[49]⟩, ⟨#[50]⟩]) = ([], 7) := by kernel_rfl
theorem wx3 : failsB 7 ([], 7) = true := by kernel_rfl
theorem wx4 : solveC [qL [⟨#[49]⟩, ⟨#[50]⟩]] (qL [⟨#[49]⟩]) = ([], 2) := by kernel_rfl
theorem wx5 : failsB 2 ([], 2) = true := by kernel_rfl
theorem wx6 : rankV [qL [⟨#[49]⟩, ⟨#[50]⟩], qL [⟨#[50]⟩, ⟨#[52]⟩]] = .tuple #[.int .i64 1, .int .i64 0] := by kernel_rfl
theorem wx7 : (decide ((1 : Int) = 1) && decide ((0 : Int) = 0)) = true := by kernel_rfl
theorem wx8 : rankV [qL [⟨#[48]⟩]] = .tuple #[.int .i64 0, .int .i64 0] := by kernel_rfl
theorem wx9 : (decide ((0 : Int) = 0) && decide ((0 : Int) = 0)) = true := by kernel_rfl
theorem wx10 : rankV [qL [⟨#[49]⟩, ⟨#[48]⟩, ⟨#[49]⟩], qL [⟨#[48]⟩, ⟨#[49]⟩, ⟨#[49]⟩]] = .tuple #[.int .i64 2, .int .i64 0] := by kernel_rfl
theorem wx11 : (decide ((2 : Int) = 2) && decide ((0 : Int) = 0)) = true := by kernel_rfl
theorem wx12 : leastC [qL [⟨#[49]⟩], qL [⟨#[50]⟩]] (qL [⟨#[51]⟩, ⟨#[52]⟩]) (qL [⟨#[49]⟩, ⟨#[49]⟩]) = (qL [⟨#[49, 49, 47, 53]⟩], 0) := by kernel_rfl
theorem wx13 : isB [⟨#[49, 49, 47, 53]⟩] (qL [⟨#[49, 49, 47, 53]⟩], 0) = true := by kernel_rfl
theorem wx14 : leastC [qL [⟨#[49]⟩], qL [⟨#[49]⟩]] (qL [⟨#[48]⟩, ⟨#[51]⟩]) (qL [⟨#[50]⟩, ⟨#[49]⟩]) = (qL [⟨#[49]⟩], 0) := by kernel_rfl
theorem wx15 : isB [⟨#[49]⟩] (qL [⟨#[49]⟩], 0) = true := by kernel_rfl
theorem wx16 : leastC [qL [⟨#[49]⟩, ⟨#[49]⟩]] (qL [⟨#[49]⟩]) (qL [⟨#[49]⟩]) = ([], 7) := by kernel_rfl
theorem wx17 : measureC [qL [⟨#[49]⟩], qL [⟨#[50]⟩]] (qL [⟨#[51]⟩, ⟨#[52]⟩]) (qL [⟨#[49]⟩, ⟨#[49, 47, 50]⟩]) (qL [⟨#[49]⟩]) = ((⟨#[54]⟩, ⟨#[49]⟩), 0) := by kernel_rfl
theorem wx18 : measureC [qL [⟨#[49]⟩]] (qL [⟨#[48]⟩]) (qL [⟨#[45, 49]⟩]) (qL [⟨#[49]⟩]) = ((.empty, .empty), 2) := by kernel_rfl
theorem wx19 : lcheckE [] = 60 := by kernel_rfl
theorem wx20 : lcheckE [qL [⟨#[49]⟩], qL [⟨#[49]⟩, ⟨#[50]⟩]] = 60 := by kernel_rfl
set_option maxHeartbeats 16000000 in
set_option maxRecDepth 100000 in
theorem works_any (w : World) (he : Env w) : Calls Tryz.prog 10 #[] w fun e w' => e = .returned (.bool true) ∧ Ext w w' := by
  have HENV := Lib.hid he
  have HB := Lib.hid (Ext.refl w)
  clear he
  go_enter Tryz.func10, Tryz.ntmps10
  go_upto_region 1 with fail
  refine ro_seq 7 [some (.strs [⟨#[49]⟩]), some (.fracs (qL [⟨#[49]⟩])), some (.strs [⟨#[50]⟩]), some (.fracs (qL [⟨#[50]⟩])), some (.tab [qL [⟨#[49]⟩], qL [⟨#[50]⟩]]), some (.tab [qL [⟨#[49]⟩], qL [⟨#[50]⟩]]), some (.tab [qL [⟨#[49]⟩], qL [⟨#[50]⟩]])] ?_
  go_simp
  apply ro_runw (by rfl)
  · intro u hE hd
    go_simp
    exact ⟨_, _, ⟨rfl, rfl⟩, Ext.alloc _ _, IsStrs.new (l := [⟨#[49]⟩]) (Blk.new' _ rfl rfl) (by decide)⟩
  intro x1_0
  go_simp
  apply ro_callw (by rfl) (fun w => by go_simp; exact ⟨rfl, rfl⟩)
  · intro u hE hd
    have h0 : IsStrs u x1_0 [⟨#[49]⟩] := hd ⟨0, .data⟩ (by simp) rfl
    exact q_ret _ _ u h0 (HENV.out.mono (Ext.trans _ _ _ HB.out hE)) (by decide) (by decide)
  intro x1_1
  go_simp
  apply ro_runw (by rfl)
  · intro u hE hd
    go_simp
    exact ⟨_, _, ⟨rfl, rfl⟩, Ext.alloc _ _, IsStrs.new (l := [⟨#[50]⟩]) (Blk.new' _ rfl rfl) (by decide)⟩
  intro x1_2
  go_simp
  apply ro_callw (by rfl) (fun w => by go_simp; exact ⟨rfl, rfl⟩)
  · intro u hE hd
    have h0 : IsStrs u x1_2 [⟨#[50]⟩] := hd ⟨2, .data⟩ (by simp) rfl
    exact q_ret _ _ u h0 (HENV.out.mono (Ext.trans _ _ _ HB.out hE)) (by decide) (by decide)
  intro x1_3
  go_simp
  apply ro_runw (by rfl)
  · intro u hE hd
    have h0 : IsFracs u x1_1 (qL [⟨#[49]⟩]) := hd ⟨1, .data⟩ (by simp) rfl
    have h1 : IsFracs u x1_3 (qL [⟨#[50]⟩]) := hd ⟨3, .data⟩ (by simp) rfl
    obtain ⟨A0, c0, e0, _⟩ := id h0
    subst e0
    obtain ⟨A1, c1, e1, _⟩ := id h1
    subst e1
    go_simp
    exact ⟨_, _, ⟨rfl, rfl⟩, Ext.alloc _ _, IsTab.two (Blk.new' _ rfl rfl) (h0.mono (Ext.alloc _ _)) (h1.mono (Ext.alloc _ _))⟩
  intro x1_4
  go_simp
  apply ro_callw (by rfl) (fun w => by go_simp; exact ⟨rfl, rfl⟩)
  · intro u hE hd
    have h0 : IsTab u x1_4 [qL [⟨#[49]⟩], qL [⟨#[50]⟩]] := hd ⟨4, .data⟩ (by simp) rfl
    exact rows_any _ _ u h0
  intro x1_5
  go_simp
  apply ro_runw (by rfl)
  · intro u hE hd
    have h0 : IsTab u x1_5 [qL [⟨#[49]⟩], qL [⟨#[50]⟩]] := hd ⟨5, .data⟩ (by simp) rfl
    go_simp
    exact ⟨_, _, ⟨rfl, rfl⟩, Ext.refl _, h0⟩
  intro x1_6
  go_simp
  refine ro_done (fun u1 hE hf => ?_)
  have HA : Hid ((Fact.tab [qL [⟨#[49]⟩], qL [⟨#[50]⟩]]).S x1_6 u1) := hf _ (List.mem_of_getElem? (i := 6) rfl)
  have HB := Lib.hid (Ext.trans _ _ _ HB.out hE)
  clear hf hE
  go_upto_region 2 with fail
  refine ro_seq 80 [some (.strs [⟨#[52, 47, 53]⟩, ⟨#[55, 47, 53]⟩]), some (.isF 99 [⟨#[52, 47, 53]⟩, ⟨#[55, 47, 53]⟩]), some (.strs [⟨#[50]⟩, ⟨#[49]⟩]), some (.fracs (qL [⟨#[50]⟩, ⟨#[49]⟩])), some (.strs [⟨#[49]⟩, ⟨#[51]⟩]), some (.fracs (qL [⟨#[49]⟩, ⟨#[51]⟩])), some (.tab [qL [⟨#[50]⟩, ⟨#[49]⟩], qL [⟨#[49]⟩, ⟨#[51]⟩]]), some (.tab [qL [⟨#[50]⟩, ⟨#[49]⟩], qL [⟨#[49]⟩, ⟨#[51]⟩]]), some (.strs [⟨#[51]⟩, ⟨#[53]⟩]), some (.fracs (qL [⟨#[51]⟩, ⟨#[53]⟩])), some (.fracsE (qL [⟨#[52, 47, 53]⟩, ⟨#[55, 47, 53]⟩], 0)), some (.fracs (qL [⟨#[52, 47, 53]⟩, ⟨#[55, 47, 53]⟩])), none, some (.val (.bool true)), none, some (.boxF 101 (.int .i64 7)), some (.strs [⟨#[49]⟩, ⟨#[50]⟩]), some (.fracs (qL [⟨#[49]⟩, ⟨#[50]⟩])), some (.strs [⟨#[50]⟩, ⟨#[52]⟩]), some (.fracs (qL [⟨#[50]⟩, ⟨#[52]⟩])), some (.tab [qL [⟨#[49]⟩, ⟨#[50]⟩], qL [⟨#[50]⟩, ⟨#[52]⟩]]), some (.tab [qL [⟨#[49]⟩, ⟨#[50]⟩], qL [⟨#[50]⟩, ⟨#[52]⟩]]), some (.strs [⟨#[49]⟩, ⟨#[50]⟩]), some (.fracs (qL [⟨#[49]⟩, ⟨#[50]⟩])), some (.fracsE ([], 7)), some (.fracs ([])), none, some (.val (.bool true)), none, none, some (.boxF 101 (.int .i64 2)), some (.strs [⟨#[49]⟩, ⟨#[50]⟩]), some (.fracs (qL [⟨#[49]⟩, ⟨#[50]⟩])), some (.tab [qL [⟨#[49]⟩, ⟨#[50]⟩]]), some (.tab [qL [⟨#[49]⟩, ⟨#[50]⟩]]), some (.strs [⟨#[49]⟩]), some (.fracs (qL [⟨#[49]⟩])), some (.fracsE ([], 2)), some (.fracs ([])), none, some (.val (.bool true)), none, none, some (.boxF 100 (.int .i64 1)), some (.strs [⟨#[49]⟩, ⟨#[50]⟩]), some (.fracs (qL [⟨#[49]⟩, ⟨#[50]⟩])), some (.strs [⟨#[50]⟩, ⟨#[52]⟩]), some (.fracs (qL [⟨#[50]⟩, ⟨#[52]⟩])), some (.tab [qL [⟨#[49]⟩, ⟨#[50]⟩], qL [⟨#[50]⟩, ⟨#[52]⟩]]), some (.tab [qL [⟨#[49]⟩, ⟨#[50]⟩], qL [⟨#[50]⟩, ⟨#[52]⟩]]), some (.val (.tuple #[.int .i64 1, .int .i64 0])), none, none, some (.val (.bool true)), none, none, some (.boxF 100 (.int .i64 0)), some (.strs [⟨#[48]⟩]), some (.fracs (qL [⟨#[48]⟩])), some (.tab [qL [⟨#[48]⟩]]), some (.tab [qL [⟨#[48]⟩]]), some (.val (.tuple #[.int .i64 0, .int .i64 0])), none, none, some (.val (.bool true)), none, none, some (.boxF 100 (.int .i64 2)), some (.strs [⟨#[49]⟩, ⟨#[48]⟩, ⟨#[49]⟩]), some (.fracs (qL [⟨#[49]⟩, ⟨#[48]⟩, ⟨#[49]⟩])), some (.strs [⟨#[48]⟩, ⟨#[49]⟩, ⟨#[49]⟩]), some (.fracs (qL [⟨#[48]⟩, ⟨#[49]⟩, ⟨#[49]⟩])), some (.tab [qL [⟨#[49]⟩, ⟨#[48]⟩, ⟨#[49]⟩], qL [⟨#[48]⟩, ⟨#[49]⟩, ⟨#[49]⟩]]), some (.tab [qL [⟨#[49]⟩, ⟨#[48]⟩, ⟨#[49]⟩], qL [⟨#[48]⟩, ⟨#[49]⟩, ⟨#[49]⟩]]), some (.val (.tuple #[.int .i64 2, .int .i64 0])), none, none, some (.val (.bool true)), none, none] ?_
  go_simp
  apply ro_runw (by rfl)
  · intro u hE hd
    go_simp
    exact ⟨_, _, ⟨rfl, rfl⟩, Ext.alloc _ _, IsStrs.new (l := [⟨#[52, 47, 53]⟩, ⟨#[55, 47, 53]⟩]) (Blk.new' _ rfl rfl) (by decide)⟩
  intro x2_0
  go_simp
  apply ro_callw (by rfl) (fun w => by go_simp; exact ⟨rfl, rfl⟩)
  · intro u hE hd
    have h0 : IsStrs u x2_0 [⟨#[52, 47, 53]⟩, ⟨#[55, 47, 53]⟩] := hd ⟨0, .data⟩ (by simp) rfl
    exact is_any _ _ u h0
  intro x2_1
  go_simp
  apply ro_runw (by rfl)
  · intro u hE hd
    go_simp
    exact ⟨_, _, ⟨rfl, rfl⟩, Ext.alloc _ _, IsStrs.new (l := [⟨#[50]⟩, ⟨#[49]⟩]) (Blk.new' _ rfl rfl) (by decide)⟩
  intro x2_2
  go_simp
  apply ro_callw (by rfl) (fun w => by go_simp; exact ⟨rfl, rfl⟩)
  · intro u hE hd
    have h0 : IsStrs u x2_2 [⟨#[50]⟩, ⟨#[49]⟩] := hd ⟨2, .data⟩ (by simp) rfl
    exact q_ret _ _ u h0 (HENV.out.mono (Ext.trans _ _ _ HB.out hE)) (by decide) (by decide)
  intro x2_3
  go_simp
  apply ro_runw (by rfl)
  · intro u hE hd
    go_simp
    exact ⟨_, _, ⟨rfl, rfl⟩, Ext.alloc _ _, IsStrs.new (l := [⟨#[49]⟩, ⟨#[51]⟩]) (Blk.new' _ rfl rfl) (by decide)⟩
  intro x2_4
  go_simp
  apply ro_callw (by rfl) (fun w => by go_simp; exact ⟨rfl, rfl⟩)
  · intro u hE hd
    have h0 : IsStrs u x2_4 [⟨#[49]⟩, ⟨#[51]⟩] := hd ⟨4, .data⟩ (by simp) rfl
    exact q_ret _ _ u h0 (HENV.out.mono (Ext.trans _ _ _ HB.out hE)) (by decide) (by decide)
  intro x2_5
  go_simp
  apply ro_runw (by rfl)
  · intro u hE hd
    have h0 : IsFracs u x2_3 (qL [⟨#[50]⟩, ⟨#[49]⟩]) := hd ⟨3, .data⟩ (by simp) rfl
    have h1 : IsFracs u x2_5 (qL [⟨#[49]⟩, ⟨#[51]⟩]) := hd ⟨5, .data⟩ (by simp) rfl
    obtain ⟨A0, c0, e0, _⟩ := id h0
    subst e0
    obtain ⟨A1, c1, e1, _⟩ := id h1
    subst e1
    go_simp
    exact ⟨_, _, ⟨rfl, rfl⟩, Ext.alloc _ _, IsTab.two (Blk.new' _ rfl rfl) (h0.mono (Ext.alloc _ _)) (h1.mono (Ext.alloc _ _))⟩
  intro x2_6
  go_simp
  apply ro_callw (by rfl) (fun w => by go_simp; exact ⟨rfl, rfl⟩)
  · intro u hE hd
    have h0 : IsTab u x2_6 [qL [⟨#[50]⟩, ⟨#[49]⟩], qL [⟨#[49]⟩, ⟨#[51]⟩]] := hd ⟨6, .data⟩ (by simp) rfl
    exact rows_any _ _ u h0
  intro x2_7
  go_simp
  apply ro_runw (by rfl)
  · intro u hE hd
    go_simp
    exact ⟨_, _, ⟨rfl, rfl⟩, Ext.alloc _ _, IsStrs.new (l := [⟨#[51]⟩, ⟨#[53]⟩]) (Blk.new' _ rfl rfl) (by decide)⟩
  intro x2_8
  go_simp
  apply ro_callw (by rfl) (fun w => by go_simp; exact ⟨rfl, rfl⟩)
  · intro u hE hd
    have h0 : IsStrs u x2_8 [⟨#[51]⟩, ⟨#[53]⟩] := hd ⟨8, .data⟩ (by simp) rfl
    exact q_ret _ _ u h0 (HENV.out.mono (Ext.trans _ _ _ HB.out hE)) (by decide) (by decide)
  intro x2_9
  go_simp
  apply ro_callw (by rfl) (fun w => by go_simp; exact ⟨rfl, rfl⟩)
  · intro u hE hd
    have h0 : IsTab u x2_7 [qL [⟨#[50]⟩, ⟨#[49]⟩], qL [⟨#[49]⟩, ⟨#[51]⟩]] := hd ⟨7, .data⟩ (by simp) rfl
    have h1 : IsFracs u x2_9 (qL [⟨#[51]⟩, ⟨#[53]⟩]) := hd ⟨9, .data⟩ (by simp) rfl
    exact lsolve_ret _ _ _ _ _ u h0 h1 (HENV.out.mono (Ext.trans _ _ _ HB.out hE)).tab wx0
  intro x2_10
  go_simp
  apply ro_runw (by rfl)
  · intro u hE hd
    have h0 : (Fact.fracsE (qL [⟨#[52, 47, 53]⟩, ⟨#[55, 47, 53]⟩], 0)).S x2_10 u := hd ⟨10, .data⟩ (by simp) rfl
    obtain ⟨l, e0, hl⟩ := h0
    subst e0
    go_simp
    exact ⟨_, _, ⟨rfl, rfl⟩, Ext.refl _, hl⟩
  intro x2_11
  go_simp
  refine ro_want (u := .int .i64 0) (by rfl) (fun u hE hd => ?_) ?_
  · have h0 : (Fact.fracsE (qL [⟨#[52, 47, 53]⟩, ⟨#[55, 47, 53]⟩], 0)).S x2_10 u := hd ⟨10, .data⟩ (by simp) rfl
    obtain ⟨l, e0, hl⟩ := h0
    subst e0
    go_simp
  go_simp
  apply ro_callD (by rfl)
  · intro u hE hd
    have hf : (Fact.isF 99 [⟨#[52, 47, 53]⟩, ⟨#[55, 47, 53]⟩]).S x2_1 u := hd ⟨1, .data⟩ (by simp) rfl
    have h0 : IsFracs u x2_11 (qL [⟨#[52, 47, 53]⟩, ⟨#[55, 47, 53]⟩]) := hd ⟨11, .data⟩ (by simp) rfl
    obtain ⟨g, vs, e0, hg, hs⟩ := hf
    subst e0
    refine ⟨99, #[x2_11, .int .i64 0, .pointer (some ⟨g, 0, none⟩)], by have eg := enters_of Tryz.func99 (by kernel_rfl) rfl; go_simp, ?_⟩
    refine (is1_any g _ vs _ (qL [⟨#[52, 47, 53]⟩, ⟨#[55, 47, 53]⟩], 0) u hg hs h0 (HENV.out.mono (Ext.trans _ _ _ HB.out hE)) (by decide) (by decide)).mono ?_
    rintro e w' ⟨e1, hE1⟩
    exact ⟨_, e1, congrArg Value.bool wx1, hE1⟩
  intro x2_13
  go_simp
  refine ro_want (u := .bool true) (by rfl) (fun u hE hd => ?_) ?_
  · have h0 : (x2_13 : Value) = .bool true := hd ⟨13, .data⟩ (by simp) rfl
    subst h0
    go_simp
  go_simp
  apply ro_callw (by rfl) (fun w => by go_simp; exact ⟨rfl, rfl⟩)
  · intro u hE hd
    exact fails_any _ u
  intro x2_15
  go_simp
  apply ro_runw (by rfl)
  · intro u hE hd
    go_simp
    exact ⟨_, _, ⟨rfl, rfl⟩, Ext.alloc _ _, IsStrs.new (l := [⟨#[49]⟩, ⟨#[50]⟩]) (Blk.new' _ rfl rfl) (by decide)⟩
  intro x2_16
  go_simp
  apply ro_callw (by rfl) (fun w => by go_simp; exact ⟨rfl, rfl⟩)
  · intro u hE hd
    have h0 : IsStrs u x2_16 [⟨#[49]⟩, ⟨#[50]⟩] := hd ⟨16, .data⟩ (by simp) rfl
    exact q_ret _ _ u h0 (HENV.out.mono (Ext.trans _ _ _ HB.out hE)) (by decide) (by decide)
  intro x2_17
  go_simp
  apply ro_runw (by rfl)
  · intro u hE hd
    go_simp
    exact ⟨_, _, ⟨rfl, rfl⟩, Ext.alloc _ _, IsStrs.new (l := [⟨#[50]⟩, ⟨#[52]⟩]) (Blk.new' _ rfl rfl) (by decide)⟩
  intro x2_18
  go_simp
  apply ro_callw (by rfl) (fun w => by go_simp; exact ⟨rfl, rfl⟩)
  · intro u hE hd
    have h0 : IsStrs u x2_18 [⟨#[50]⟩, ⟨#[52]⟩] := hd ⟨18, .data⟩ (by simp) rfl
    exact q_ret _ _ u h0 (HENV.out.mono (Ext.trans _ _ _ HB.out hE)) (by decide) (by decide)
  intro x2_19
  go_simp
  apply ro_runw (by rfl)
  · intro u hE hd
    have h0 : IsFracs u x2_17 (qL [⟨#[49]⟩, ⟨#[50]⟩]) := hd ⟨17, .data⟩ (by simp) rfl
    have h1 : IsFracs u x2_19 (qL [⟨#[50]⟩, ⟨#[52]⟩]) := hd ⟨19, .data⟩ (by simp) rfl
    obtain ⟨A0, c0, e0, _⟩ := id h0
    subst e0
    obtain ⟨A1, c1, e1, _⟩ := id h1
    subst e1
    go_simp
    exact ⟨_, _, ⟨rfl, rfl⟩, Ext.alloc _ _, IsTab.two (Blk.new' _ rfl rfl) (h0.mono (Ext.alloc _ _)) (h1.mono (Ext.alloc _ _))⟩
  intro x2_20
  go_simp
  apply ro_callw (by rfl) (fun w => by go_simp; exact ⟨rfl, rfl⟩)
  · intro u hE hd
    have h0 : IsTab u x2_20 [qL [⟨#[49]⟩, ⟨#[50]⟩], qL [⟨#[50]⟩, ⟨#[52]⟩]] := hd ⟨20, .data⟩ (by simp) rfl
    exact rows_any _ _ u h0
  intro x2_21
  go_simp
  apply ro_runw (by rfl)
  · intro u hE hd
    go_simp
    exact ⟨_, _, ⟨rfl, rfl⟩, Ext.alloc _ _, IsStrs.new (l := [⟨#[49]⟩, ⟨#[50]⟩]) (Blk.new' _ rfl rfl) (by decide)⟩
  intro x2_22
  go_simp
  apply ro_callw (by rfl) (fun w => by go_simp; exact ⟨rfl, rfl⟩)
  · intro u hE hd
    have h0 : IsStrs u x2_22 [⟨#[49]⟩, ⟨#[50]⟩] := hd ⟨22, .data⟩ (by simp) rfl
    exact q_ret _ _ u h0 (HENV.out.mono (Ext.trans _ _ _ HB.out hE)) (by decide) (by decide)
  intro x2_23
  go_simp
  apply ro_callw (by rfl) (fun w => by go_simp; exact ⟨rfl, rfl⟩)
  · intro u hE hd
    have h0 : IsTab u x2_21 [qL [⟨#[49]⟩, ⟨#[50]⟩], qL [⟨#[50]⟩, ⟨#[52]⟩]] := hd ⟨21, .data⟩ (by simp) rfl
    have h1 : IsFracs u x2_23 (qL [⟨#[49]⟩, ⟨#[50]⟩]) := hd ⟨23, .data⟩ (by simp) rfl
    exact lsolve_ret _ _ _ _ _ u h0 h1 (HENV.out.mono (Ext.trans _ _ _ HB.out hE)).tab wx2
  intro x2_24
  go_simp
  apply ro_runw (by rfl)
  · intro u hE hd
    have h0 : (Fact.fracsE ([], 7)).S x2_24 u := hd ⟨24, .data⟩ (by simp) rfl
    obtain ⟨l, e0, hl⟩ := h0
    subst e0
    go_simp
    exact ⟨_, _, ⟨rfl, rfl⟩, Ext.refl _, hl⟩
  intro x2_25
  go_simp
  refine ro_want (u := .int .i64 7) (by rfl) (fun u hE hd => ?_) ?_
  · have h0 : (Fact.fracsE ([], 7)).S x2_24 u := hd ⟨24, .data⟩ (by simp) rfl
    obtain ⟨l, e0, hl⟩ := h0
    subst e0
    go_simp
  go_simp
  apply ro_callD (by rfl)
  · intro u hE hd
    have hf : (Fact.boxF 101 (.int .i64 7)).S x2_15 u := hd ⟨15, .data⟩ (by simp) rfl
    have h0 : IsFracs u x2_25 ([]) := hd ⟨25, .data⟩ (by simp) rfl
    obtain ⟨g, e0, hg⟩ := hf
    subst e0
    refine ⟨101, #[x2_25, .int .i64 7, .pointer (some ⟨g, 0, none⟩)], by have eg := enters_of Tryz.func101 (by kernel_rfl) rfl; go_simp, ?_⟩
    refine (fails1_any g _ _ ([], 7) u hg h0).mono ?_
    rintro e w' ⟨e1, hE1⟩
    exact ⟨_, e1, congrArg Value.bool wx3, hE1⟩
  intro x2_27
  go_simp
  refine ro_want (u := .bool true) (by rfl) (fun u hE hd => ?_) ?_
  · have h0 : (x2_27 : Value) = .bool true := hd ⟨27, .data⟩ (by simp) rfl
    subst h0
    go_simp
  go_simp
  refine ro_want (u := .bool true) (by rfl) (fun u hE hd => ?_) ?_
  · go_simp
  go_simp
  apply ro_callw (by rfl) (fun w => by go_simp; exact ⟨rfl, rfl⟩)
  · intro u hE hd
    exact fails_any _ u
  intro x2_30
  go_simp
  apply ro_runw (by rfl)
  · intro u hE hd
    go_simp
    exact ⟨_, _, ⟨rfl, rfl⟩, Ext.alloc _ _, IsStrs.new (l := [⟨#[49]⟩, ⟨#[50]⟩]) (Blk.new' _ rfl rfl) (by decide)⟩
  intro x2_31
  go_simp
  apply ro_callw (by rfl) (fun w => by go_simp; exact ⟨rfl, rfl⟩)
  · intro u hE hd
    have h0 : IsStrs u x2_31 [⟨#[49]⟩, ⟨#[50]⟩] := hd ⟨31, .data⟩ (by simp) rfl
    exact q_ret _ _ u h0 (HENV.out.mono (Ext.trans _ _ _ HB.out hE)) (by decide) (by decide)
  intro x2_32
  go_simp
  apply ro_runw (by rfl)
  · intro u hE hd
    have h0 : IsFracs u x2_32 (qL [⟨#[49]⟩, ⟨#[50]⟩]) := hd ⟨32, .data⟩ (by simp) rfl
    obtain ⟨A0, c0, e0, _⟩ := id h0
    subst e0
    go_simp
    exact ⟨_, _, ⟨rfl, rfl⟩, Ext.alloc _ _, IsTab.one (Blk.new' _ rfl rfl) (h0.mono (Ext.alloc _ _))⟩
  intro x2_33
  go_simp
  apply ro_callw (by rfl) (fun w => by go_simp; exact ⟨rfl, rfl⟩)
  · intro u hE hd
    have h0 : IsTab u x2_33 [qL [⟨#[49]⟩, ⟨#[50]⟩]] := hd ⟨33, .data⟩ (by simp) rfl
    exact rows_any _ _ u h0
  intro x2_34
  go_simp
  apply ro_runw (by rfl)
  · intro u hE hd
    go_simp
    exact ⟨_, _, ⟨rfl, rfl⟩, Ext.alloc _ _, IsStrs.new (l := [⟨#[49]⟩]) (Blk.new' _ rfl rfl) (by decide)⟩
  intro x2_35
  go_simp
  apply ro_callw (by rfl) (fun w => by go_simp; exact ⟨rfl, rfl⟩)
  · intro u hE hd
    have h0 : IsStrs u x2_35 [⟨#[49]⟩] := hd ⟨35, .data⟩ (by simp) rfl
    exact q_ret _ _ u h0 (HENV.out.mono (Ext.trans _ _ _ HB.out hE)) (by decide) (by decide)
  intro x2_36
  go_simp
  apply ro_callw (by rfl) (fun w => by go_simp; exact ⟨rfl, rfl⟩)
  · intro u hE hd
    have h0 : IsTab u x2_34 [qL [⟨#[49]⟩, ⟨#[50]⟩]] := hd ⟨34, .data⟩ (by simp) rfl
    have h1 : IsFracs u x2_36 (qL [⟨#[49]⟩]) := hd ⟨36, .data⟩ (by simp) rfl
    exact lsolve_ret _ _ _ _ _ u h0 h1 (HENV.out.mono (Ext.trans _ _ _ HB.out hE)).tab wx4
  intro x2_37
  go_simp
  apply ro_runw (by rfl)
  · intro u hE hd
    have h0 : (Fact.fracsE ([], 2)).S x2_37 u := hd ⟨37, .data⟩ (by simp) rfl
    obtain ⟨l, e0, hl⟩ := h0
    subst e0
    go_simp
    exact ⟨_, _, ⟨rfl, rfl⟩, Ext.refl _, hl⟩
  intro x2_38
  go_simp
  refine ro_want (u := .int .i64 2) (by rfl) (fun u hE hd => ?_) ?_
  · have h0 : (Fact.fracsE ([], 2)).S x2_37 u := hd ⟨37, .data⟩ (by simp) rfl
    obtain ⟨l, e0, hl⟩ := h0
    subst e0
    go_simp
  go_simp
  apply ro_callD (by rfl)
  · intro u hE hd
    have hf : (Fact.boxF 101 (.int .i64 2)).S x2_30 u := hd ⟨30, .data⟩ (by simp) rfl
    have h0 : IsFracs u x2_38 ([]) := hd ⟨38, .data⟩ (by simp) rfl
    obtain ⟨g, e0, hg⟩ := hf
    subst e0
    refine ⟨101, #[x2_38, .int .i64 2, .pointer (some ⟨g, 0, none⟩)], by have eg := enters_of Tryz.func101 (by kernel_rfl) rfl; go_simp, ?_⟩
    refine (fails1_any g _ _ ([], 2) u hg h0).mono ?_
    rintro e w' ⟨e1, hE1⟩
    exact ⟨_, e1, congrArg Value.bool wx5, hE1⟩
  intro x2_40
  go_simp
  refine ro_want (u := .bool true) (by rfl) (fun u hE hd => ?_) ?_
  · have h0 : (x2_40 : Value) = .bool true := hd ⟨40, .data⟩ (by simp) rfl
    subst h0
    go_simp
  go_simp
  refine ro_want (u := .bool true) (by rfl) (fun u hE hd => ?_) ?_
  · go_simp
  go_simp
  apply ro_callw (by rfl) (fun w => by go_simp; exact ⟨rfl, rfl⟩)
  · intro u hE hd
    exact says_any _ u
  intro x2_43
  go_simp
  apply ro_runw (by rfl)
  · intro u hE hd
    go_simp
    exact ⟨_, _, ⟨rfl, rfl⟩, Ext.alloc _ _, IsStrs.new (l := [⟨#[49]⟩, ⟨#[50]⟩]) (Blk.new' _ rfl rfl) (by decide)⟩
  intro x2_44
  go_simp
  apply ro_callw (by rfl) (fun w => by go_simp; exact ⟨rfl, rfl⟩)
  · intro u hE hd
    have h0 : IsStrs u x2_44 [⟨#[49]⟩, ⟨#[50]⟩] := hd ⟨44, .data⟩ (by simp) rfl
    exact q_ret _ _ u h0 (HENV.out.mono (Ext.trans _ _ _ HB.out hE)) (by decide) (by decide)
  intro x2_45
  go_simp
  apply ro_runw (by rfl)
  · intro u hE hd
    go_simp
    exact ⟨_, _, ⟨rfl, rfl⟩, Ext.alloc _ _, IsStrs.new (l := [⟨#[50]⟩, ⟨#[52]⟩]) (Blk.new' _ rfl rfl) (by decide)⟩
  intro x2_46
  go_simp
  apply ro_callw (by rfl) (fun w => by go_simp; exact ⟨rfl, rfl⟩)
  · intro u hE hd
    have h0 : IsStrs u x2_46 [⟨#[50]⟩, ⟨#[52]⟩] := hd ⟨46, .data⟩ (by simp) rfl
    exact q_ret _ _ u h0 (HENV.out.mono (Ext.trans _ _ _ HB.out hE)) (by decide) (by decide)
  intro x2_47
  go_simp
  apply ro_runw (by rfl)
  · intro u hE hd
    have h0 : IsFracs u x2_45 (qL [⟨#[49]⟩, ⟨#[50]⟩]) := hd ⟨45, .data⟩ (by simp) rfl
    have h1 : IsFracs u x2_47 (qL [⟨#[50]⟩, ⟨#[52]⟩]) := hd ⟨47, .data⟩ (by simp) rfl
    obtain ⟨A0, c0, e0, _⟩ := id h0
    subst e0
    obtain ⟨A1, c1, e1, _⟩ := id h1
    subst e1
    go_simp
    exact ⟨_, _, ⟨rfl, rfl⟩, Ext.alloc _ _, IsTab.two (Blk.new' _ rfl rfl) (h0.mono (Ext.alloc _ _)) (h1.mono (Ext.alloc _ _))⟩
  intro x2_48
  go_simp
  apply ro_callw (by rfl) (fun w => by go_simp; exact ⟨rfl, rfl⟩)
  · intro u hE hd
    have h0 : IsTab u x2_48 [qL [⟨#[49]⟩, ⟨#[50]⟩], qL [⟨#[50]⟩, ⟨#[52]⟩]] := hd ⟨48, .data⟩ (by simp) rfl
    exact rows_any _ _ u h0
  intro x2_49
  go_simp
  apply ro_callw (by rfl) (fun w => by go_simp; exact ⟨rfl, rfl⟩)
  · intro u hE hd
    have h0 : IsTab u x2_49 [qL [⟨#[49]⟩, ⟨#[50]⟩], qL [⟨#[50]⟩, ⟨#[52]⟩]] := hd ⟨49, .data⟩ (by simp) rfl
    exact rank_ret _ _ _ u h0 (HENV.out.mono (Ext.trans _ _ _ HB.out hE)).tab wx6
  intro x2_50
  go_simp
  refine ro_want (u := .int .i64 1) (by rfl) (fun u hE hd => ?_) ?_
  · have h0 : (x2_50 : Value) = .tuple #[.int .i64 1, .int .i64 0] := hd ⟨50, .data⟩ (by simp) rfl
    subst h0
    go_simp
  go_simp
  refine ro_want (u := .int .i64 0) (by rfl) (fun u hE hd => ?_) ?_
  · have h0 : (x2_50 : Value) = .tuple #[.int .i64 1, .int .i64 0] := hd ⟨50, .data⟩ (by simp) rfl
    subst h0
    go_simp
  go_simp
  apply ro_callD (by rfl)
  · intro u hE hd
    have hf : (Fact.boxF 100 (.int .i64 1)).S x2_43 u := hd ⟨43, .data⟩ (by simp) rfl
    obtain ⟨g, e0, hg⟩ := hf
    subst e0
    refine ⟨100, #[.int .i64 1, .int .i64 0, .pointer (some ⟨g, 0, none⟩)], by have eg := enters_of Tryz.func100 (by kernel_rfl) rfl; go_simp, ?_⟩
    refine (says1_any g _ _ _ u hg).mono ?_
    rintro e w' ⟨e1, hE1⟩
    exact ⟨_, e1, congrArg Value.bool wx7, hE1⟩
  intro x2_53
  go_simp
  refine ro_want (u := .bool true) (by rfl) (fun u hE hd => ?_) ?_
  · have h0 : (x2_53 : Value) = .bool true := hd ⟨53, .data⟩ (by simp) rfl
    subst h0
    go_simp
  go_simp
  refine ro_want (u := .bool true) (by rfl) (fun u hE hd => ?_) ?_
  · go_simp
  go_simp
  apply ro_callw (by rfl) (fun w => by go_simp; exact ⟨rfl, rfl⟩)
  · intro u hE hd
    exact says_any _ u
  intro x2_56
  go_simp
  apply ro_runw (by rfl)
  · intro u hE hd
    go_simp
    exact ⟨_, _, ⟨rfl, rfl⟩, Ext.alloc _ _, IsStrs.new (l := [⟨#[48]⟩]) (Blk.new' _ rfl rfl) (by decide)⟩
  intro x2_57
  go_simp
  apply ro_callw (by rfl) (fun w => by go_simp; exact ⟨rfl, rfl⟩)
  · intro u hE hd
    have h0 : IsStrs u x2_57 [⟨#[48]⟩] := hd ⟨57, .data⟩ (by simp) rfl
    exact q_ret _ _ u h0 (HENV.out.mono (Ext.trans _ _ _ HB.out hE)) (by decide) (by decide)
  intro x2_58
  go_simp
  apply ro_runw (by rfl)
  · intro u hE hd
    have h0 : IsFracs u x2_58 (qL [⟨#[48]⟩]) := hd ⟨58, .data⟩ (by simp) rfl
    obtain ⟨A0, c0, e0, _⟩ := id h0
    subst e0
    go_simp
    exact ⟨_, _, ⟨rfl, rfl⟩, Ext.alloc _ _, IsTab.one (Blk.new' _ rfl rfl) (h0.mono (Ext.alloc _ _))⟩
  intro x2_59
  go_simp
  apply ro_callw (by rfl) (fun w => by go_simp; exact ⟨rfl, rfl⟩)
  · intro u hE hd
    have h0 : IsTab u x2_59 [qL [⟨#[48]⟩]] := hd ⟨59, .data⟩ (by simp) rfl
    exact rows_any _ _ u h0
  intro x2_60
  go_simp
  apply ro_callw (by rfl) (fun w => by go_simp; exact ⟨rfl, rfl⟩)
  · intro u hE hd
    have h0 : IsTab u x2_60 [qL [⟨#[48]⟩]] := hd ⟨60, .data⟩ (by simp) rfl
    exact rank_ret _ _ _ u h0 (HENV.out.mono (Ext.trans _ _ _ HB.out hE)).tab wx8
  intro x2_61
  go_simp
  refine ro_want (u := .int .i64 0) (by rfl) (fun u hE hd => ?_) ?_
  · have h0 : (x2_61 : Value) = .tuple #[.int .i64 0, .int .i64 0] := hd ⟨61, .data⟩ (by simp) rfl
    subst h0
    go_simp
  go_simp
  refine ro_want (u := .int .i64 0) (by rfl) (fun u hE hd => ?_) ?_
  · have h0 : (x2_61 : Value) = .tuple #[.int .i64 0, .int .i64 0] := hd ⟨61, .data⟩ (by simp) rfl
    subst h0
    go_simp
  go_simp
  apply ro_callD (by rfl)
  · intro u hE hd
    have hf : (Fact.boxF 100 (.int .i64 0)).S x2_56 u := hd ⟨56, .data⟩ (by simp) rfl
    obtain ⟨g, e0, hg⟩ := hf
    subst e0
    refine ⟨100, #[.int .i64 0, .int .i64 0, .pointer (some ⟨g, 0, none⟩)], by have eg := enters_of Tryz.func100 (by kernel_rfl) rfl; go_simp, ?_⟩
    refine (says1_any g _ _ _ u hg).mono ?_
    rintro e w' ⟨e1, hE1⟩
    exact ⟨_, e1, congrArg Value.bool wx9, hE1⟩
  intro x2_64
  go_simp
  refine ro_want (u := .bool true) (by rfl) (fun u hE hd => ?_) ?_
  · have h0 : (x2_64 : Value) = .bool true := hd ⟨64, .data⟩ (by simp) rfl
    subst h0
    go_simp
  go_simp
  refine ro_want (u := .bool true) (by rfl) (fun u hE hd => ?_) ?_
  · go_simp
  go_simp
  apply ro_callw (by rfl) (fun w => by go_simp; exact ⟨rfl, rfl⟩)
  · intro u hE hd
    exact says_any _ u
  intro x2_67
  go_simp
  apply ro_runw (by rfl)
  · intro u hE hd
    go_simp
    exact ⟨_, _, ⟨rfl, rfl⟩, Ext.alloc _ _, IsStrs.new (l := [⟨#[49]⟩, ⟨#[48]⟩, ⟨#[49]⟩]) (Blk.new' _ rfl rfl) (by decide)⟩
  intro x2_68
  go_simp
  apply ro_callw (by rfl) (fun w => by go_simp; exact ⟨rfl, rfl⟩)
  · intro u hE hd
    have h0 : IsStrs u x2_68 [⟨#[49]⟩, ⟨#[48]⟩, ⟨#[49]⟩] := hd ⟨68, .data⟩ (by simp) rfl
    exact q_ret _ _ u h0 (HENV.out.mono (Ext.trans _ _ _ HB.out hE)) (by decide) (by decide)
  intro x2_69
  go_simp
  apply ro_runw (by rfl)
  · intro u hE hd
    go_simp
    exact ⟨_, _, ⟨rfl, rfl⟩, Ext.alloc _ _, IsStrs.new (l := [⟨#[48]⟩, ⟨#[49]⟩, ⟨#[49]⟩]) (Blk.new' _ rfl rfl) (by decide)⟩
  intro x2_70
  go_simp
  apply ro_callw (by rfl) (fun w => by go_simp; exact ⟨rfl, rfl⟩)
  · intro u hE hd
    have h0 : IsStrs u x2_70 [⟨#[48]⟩, ⟨#[49]⟩, ⟨#[49]⟩] := hd ⟨70, .data⟩ (by simp) rfl
    exact q_ret _ _ u h0 (HENV.out.mono (Ext.trans _ _ _ HB.out hE)) (by decide) (by decide)
  intro x2_71
  go_simp
  apply ro_runw (by rfl)
  · intro u hE hd
    have h0 : IsFracs u x2_69 (qL [⟨#[49]⟩, ⟨#[48]⟩, ⟨#[49]⟩]) := hd ⟨69, .data⟩ (by simp) rfl
    have h1 : IsFracs u x2_71 (qL [⟨#[48]⟩, ⟨#[49]⟩, ⟨#[49]⟩]) := hd ⟨71, .data⟩ (by simp) rfl
    obtain ⟨A0, c0, e0, _⟩ := id h0
    subst e0
    obtain ⟨A1, c1, e1, _⟩ := id h1
    subst e1
    go_simp
    exact ⟨_, _, ⟨rfl, rfl⟩, Ext.alloc _ _, IsTab.two (Blk.new' _ rfl rfl) (h0.mono (Ext.alloc _ _)) (h1.mono (Ext.alloc _ _))⟩
  intro x2_72
  go_simp
  apply ro_callw (by rfl) (fun w => by go_simp; exact ⟨rfl, rfl⟩)
  · intro u hE hd
    have h0 : IsTab u x2_72 [qL [⟨#[49]⟩, ⟨#[48]⟩, ⟨#[49]⟩], qL [⟨#[48]⟩, ⟨#[49]⟩, ⟨#[49]⟩]] := hd ⟨72, .data⟩ (by simp) rfl
    exact rows_any _ _ u h0
  intro x2_73
  go_simp
  apply ro_callw (by rfl) (fun w => by go_simp; exact ⟨rfl, rfl⟩)
  · intro u hE hd
    have h0 : IsTab u x2_73 [qL [⟨#[49]⟩, ⟨#[48]⟩, ⟨#[49]⟩], qL [⟨#[48]⟩, ⟨#[49]⟩, ⟨#[49]⟩]] := hd ⟨73, .data⟩ (by simp) rfl
    exact rank_ret _ _ _ u h0 (HENV.out.mono (Ext.trans _ _ _ HB.out hE)).tab wx10
  intro x2_74
  go_simp
  refine ro_want (u := .int .i64 2) (by rfl) (fun u hE hd => ?_) ?_
  · have h0 : (x2_74 : Value) = .tuple #[.int .i64 2, .int .i64 0] := hd ⟨74, .data⟩ (by simp) rfl
    subst h0
    go_simp
  go_simp
  refine ro_want (u := .int .i64 0) (by rfl) (fun u hE hd => ?_) ?_
  · have h0 : (x2_74 : Value) = .tuple #[.int .i64 2, .int .i64 0] := hd ⟨74, .data⟩ (by simp) rfl
    subst h0
    go_simp
  go_simp
  apply ro_callD (by rfl)
  · intro u hE hd
    have hf : (Fact.boxF 100 (.int .i64 2)).S x2_67 u := hd ⟨67, .data⟩ (by simp) rfl
    obtain ⟨g, e0, hg⟩ := hf
    subst e0
    refine ⟨100, #[.int .i64 2, .int .i64 0, .pointer (some ⟨g, 0, none⟩)], by have eg := enters_of Tryz.func100 (by kernel_rfl) rfl; go_simp, ?_⟩
    refine (says1_any g _ _ _ u hg).mono ?_
    rintro e w' ⟨e1, hE1⟩
    exact ⟨_, e1, congrArg Value.bool wx11, hE1⟩
  intro x2_77
  go_simp
  refine ro_want (u := .bool true) (by rfl) (fun u hE hd => ?_) ?_
  · have h0 : (x2_77 : Value) = .bool true := hd ⟨77, .data⟩ (by simp) rfl
    subst h0
    go_simp
  go_simp
  refine ro_want (u := .bool true) (by rfl) (fun u hE hd => ?_) ?_
  · go_simp
  go_simp
  refine ro_done (fun u2 hE hf => ?_)
  have HB := Lib.hid (Ext.trans _ _ _ HB.out hE)
  have hE2 := hE
  clear hf hE
  have HA := Lib.hid ((Fact.tab [qL [⟨#[49]⟩], qL [⟨#[50]⟩]]).st _ _ _ hE2 HA.out)
  clear hE2
  go_upto_region 3 with fail
  refine ro_seq 48 [none, none, some (.strs [⟨#[49, 49, 47, 53]⟩]), some (.isF 99 [⟨#[49, 49, 47, 53]⟩]), none, some (.strs [⟨#[51]⟩, ⟨#[52]⟩]), some (.fracs (qL [⟨#[51]⟩, ⟨#[52]⟩])), some (.strs [⟨#[49]⟩, ⟨#[49]⟩]), some (.fracs (qL [⟨#[49]⟩, ⟨#[49]⟩])), some (.fracsE (qL [⟨#[49, 49, 47, 53]⟩], 0)), some (.fracs (qL [⟨#[49, 49, 47, 53]⟩])), none, some (.val (.bool true)), none, none, some (.strs [⟨#[49]⟩]), some (.isF 99 [⟨#[49]⟩]), some (.strs [⟨#[49]⟩]), some (.fracs (qL [⟨#[49]⟩])), some (.strs [⟨#[49]⟩]), some (.fracs (qL [⟨#[49]⟩])), some (.tab [qL [⟨#[49]⟩], qL [⟨#[49]⟩]]), some (.tab [qL [⟨#[49]⟩], qL [⟨#[49]⟩]]), some (.strs [⟨#[48]⟩, ⟨#[51]⟩]), some (.fracs (qL [⟨#[48]⟩, ⟨#[51]⟩])), some (.strs [⟨#[50]⟩, ⟨#[49]⟩]), some (.fracs (qL [⟨#[50]⟩, ⟨#[49]⟩])), some (.fracsE (qL [⟨#[49]⟩], 0)), some (.fracs (qL [⟨#[49]⟩])), none, some (.val (.bool true)), none, none, some (.boxF 101 (.int .i64 7)), some (.strs [⟨#[49]⟩, ⟨#[49]⟩]), some (.fracs (qL [⟨#[49]⟩, ⟨#[49]⟩])), some (.tab [qL [⟨#[49]⟩, ⟨#[49]⟩]]), some (.tab [qL [⟨#[49]⟩, ⟨#[49]⟩]]), some (.strs [⟨#[49]⟩]), some (.fracs (qL [⟨#[49]⟩])), some (.strs [⟨#[49]⟩]), some (.fracs (qL [⟨#[49]⟩])), some (.fracsE ([], 7)), some (.fracs ([])), none, some (.val (.bool true)), none, none] ?_
  go_simp
  refine ro_want (u := .bool true) (by rfl) (fun u hE hd => ?_) ?_
  · go_simp
  go_simp
  refine ro_want (u := .bool true) (by rfl) (fun u hE hd => ?_) ?_
  · go_simp
  go_simp
  apply ro_runw (by rfl)
  · intro u hE hd
    go_simp
    exact ⟨_, _, ⟨rfl, rfl⟩, Ext.alloc _ _, IsStrs.new (l := [⟨#[49, 49, 47, 53]⟩]) (Blk.new' _ rfl rfl) (by decide)⟩
  intro x3_2
  go_simp
  apply ro_callw (by rfl) (fun w => by go_simp; exact ⟨rfl, rfl⟩)
  · intro u hE hd
    have h0 : IsStrs u x3_2 [⟨#[49, 49, 47, 53]⟩] := hd ⟨2, .data⟩ (by simp) rfl
    exact is_any _ _ u h0
  intro x3_3
  go_simp
  refine ro_want (u := x1_6) (by rfl) (fun u hE hd => ?_) ?_
  · go_simp
  go_simp
  apply ro_runw (by rfl)
  · intro u hE hd
    go_simp
    exact ⟨_, _, ⟨rfl, rfl⟩, Ext.alloc _ _, IsStrs.new (l := [⟨#[51]⟩, ⟨#[52]⟩]) (Blk.new' _ rfl rfl) (by decide)⟩
  intro x3_5
  go_simp
  apply ro_callw (by rfl) (fun w => by go_simp; exact ⟨rfl, rfl⟩)
  · intro u hE hd
    have h0 : IsStrs u x3_5 [⟨#[51]⟩, ⟨#[52]⟩] := hd ⟨5, .data⟩ (by simp) rfl
    exact q_ret _ _ u h0 (HENV.out.mono (Ext.trans _ _ _ HB.out hE)) (by decide) (by decide)
  intro x3_6
  go_simp
  apply ro_runw (by rfl)
  · intro u hE hd
    go_simp
    exact ⟨_, _, ⟨rfl, rfl⟩, Ext.alloc _ _, IsStrs.new (l := [⟨#[49]⟩, ⟨#[49]⟩]) (Blk.new' _ rfl rfl) (by decide)⟩
  intro x3_7
  go_simp
  apply ro_callw (by rfl) (fun w => by go_simp; exact ⟨rfl, rfl⟩)
  · intro u hE hd
    have h0 : IsStrs u x3_7 [⟨#[49]⟩, ⟨#[49]⟩] := hd ⟨7, .data⟩ (by simp) rfl
    exact q_ret _ _ u h0 (HENV.out.mono (Ext.trans _ _ _ HB.out hE)) (by decide) (by decide)
  intro x3_8
  go_simp
  apply ro_callw (by rfl) (fun w => by go_simp; exact ⟨rfl, rfl⟩)
  · intro u hE hd
    have h0 : IsTab u x1_6 [qL [⟨#[49]⟩], qL [⟨#[50]⟩]] := (Fact.tab [qL [⟨#[49]⟩], qL [⟨#[50]⟩]]).st _ _ _ hE HA.out
    have h1 : IsFracs u x3_6 (qL [⟨#[51]⟩, ⟨#[52]⟩]) := hd ⟨6, .data⟩ (by simp) rfl
    have h2 : IsFracs u x3_8 (qL [⟨#[49]⟩, ⟨#[49]⟩]) := hd ⟨8, .data⟩ (by simp) rfl
    exact lleast_ret _ _ _ _ _ _ _ u h0 h1 h2 (HENV.out.mono (Ext.trans _ _ _ HB.out hE)).tab wx12
  intro x3_9
  go_simp
  apply ro_runw (by rfl)
  · intro u hE hd
    have h0 : (Fact.fracsE (qL [⟨#[49, 49, 47, 53]⟩], 0)).S x3_9 u := hd ⟨9, .data⟩ (by simp) rfl
    obtain ⟨l, e0, hl⟩ := h0
    subst e0
    go_simp
    exact ⟨_, _, ⟨rfl, rfl⟩, Ext.refl _, hl⟩
  intro x3_10
  go_simp
  refine ro_want (u := .int .i64 0) (by rfl) (fun u hE hd => ?_) ?_
  · have h0 : (Fact.fracsE (qL [⟨#[49, 49, 47, 53]⟩], 0)).S x3_9 u := hd ⟨9, .data⟩ (by simp) rfl
    obtain ⟨l, e0, hl⟩ := h0
    subst e0
    go_simp
  go_simp
  apply ro_callD (by rfl)
  · intro u hE hd
    have hf : (Fact.isF 99 [⟨#[49, 49, 47, 53]⟩]).S x3_3 u := hd ⟨3, .data⟩ (by simp) rfl
    have h0 : IsFracs u x3_10 (qL [⟨#[49, 49, 47, 53]⟩]) := hd ⟨10, .data⟩ (by simp) rfl
    obtain ⟨g, vs, e0, hg, hs⟩ := hf
    subst e0
    refine ⟨99, #[x3_10, .int .i64 0, .pointer (some ⟨g, 0, none⟩)], by have eg := enters_of Tryz.func99 (by kernel_rfl) rfl; go_simp, ?_⟩
    refine (is1_any g _ vs _ (qL [⟨#[49, 49, 47, 53]⟩], 0) u hg hs h0 (HENV.out.mono (Ext.trans _ _ _ HB.out hE)) (by decide) (by decide)).mono ?_
    rintro e w' ⟨e1, hE1⟩
    exact ⟨_, e1, congrArg Value.bool wx13, hE1⟩
  intro x3_12
  go_simp
  refine ro_want (u := .bool true) (by rfl) (fun u hE hd => ?_) ?_
  · have h0 : (x3_12 : Value) = .bool true := hd ⟨12, .data⟩ (by simp) rfl
    subst h0
    go_simp
  go_simp
  refine ro_want (u := .bool true) (by rfl) (fun u hE hd => ?_) ?_
  · go_simp
  go_simp
  apply ro_runw (by rfl)
  · intro u hE hd
    go_simp
    exact ⟨_, _, ⟨rfl, rfl⟩, Ext.alloc _ _, IsStrs.new (l := [⟨#[49]⟩]) (Blk.new' _ rfl rfl) (by decide)⟩
  intro x3_15
  go_simp
  apply ro_callw (by rfl) (fun w => by go_simp; exact ⟨rfl, rfl⟩)
  · intro u hE hd
    have h0 : IsStrs u x3_15 [⟨#[49]⟩] := hd ⟨15, .data⟩ (by simp) rfl
    exact is_any _ _ u h0
  intro x3_16
  go_simp
  apply ro_runw (by rfl)
  · intro u hE hd
    go_simp
    exact ⟨_, _, ⟨rfl, rfl⟩, Ext.alloc _ _, IsStrs.new (l := [⟨#[49]⟩]) (Blk.new' _ rfl rfl) (by decide)⟩
  intro x3_17
  go_simp
  apply ro_callw (by rfl) (fun w => by go_simp; exact ⟨rfl, rfl⟩)
  · intro u hE hd
    have h0 : IsStrs u x3_17 [⟨#[49]⟩] := hd ⟨17, .data⟩ (by simp) rfl
    exact q_ret _ _ u h0 (HENV.out.mono (Ext.trans _ _ _ HB.out hE)) (by decide) (by decide)
  intro x3_18
  go_simp
  apply ro_runw (by rfl)
  · intro u hE hd
    go_simp
    exact ⟨_, _, ⟨rfl, rfl⟩, Ext.alloc _ _, IsStrs.new (l := [⟨#[49]⟩]) (Blk.new' _ rfl rfl) (by decide)⟩
  intro x3_19
  go_simp
  apply ro_callw (by rfl) (fun w => by go_simp; exact ⟨rfl, rfl⟩)
  · intro u hE hd
    have h0 : IsStrs u x3_19 [⟨#[49]⟩] := hd ⟨19, .data⟩ (by simp) rfl
    exact q_ret _ _ u h0 (HENV.out.mono (Ext.trans _ _ _ HB.out hE)) (by decide) (by decide)
  intro x3_20
  go_simp
  apply ro_runw (by rfl)
  · intro u hE hd
    have h0 : IsFracs u x3_18 (qL [⟨#[49]⟩]) := hd ⟨18, .data⟩ (by simp) rfl
    have h1 : IsFracs u x3_20 (qL [⟨#[49]⟩]) := hd ⟨20, .data⟩ (by simp) rfl
    obtain ⟨A0, c0, e0, _⟩ := id h0
    subst e0
    obtain ⟨A1, c1, e1, _⟩ := id h1
    subst e1
    go_simp
    exact ⟨_, _, ⟨rfl, rfl⟩, Ext.alloc _ _, IsTab.two (Blk.new' _ rfl rfl) (h0.mono (Ext.alloc _ _)) (h1.mono (Ext.alloc _ _))⟩
  intro x3_21
  go_simp
  apply ro_callw (by rfl) (fun w => by go_simp; exact ⟨rfl, rfl⟩)
  · intro u hE hd
    have h0 : IsTab u x3_21 [qL [⟨#[49]⟩], qL [⟨#[49]⟩]] := hd ⟨21, .data⟩ (by simp) rfl
    exact rows_any _ _ u h0
  intro x3_22
  go_simp
  apply ro_runw (by rfl)
  · intro u hE hd
    go_simp
    exact ⟨_, _, ⟨rfl, rfl⟩, Ext.alloc _ _, IsStrs.new (l := [⟨#[48]⟩, ⟨#[51]⟩]) (Blk.new' _ rfl rfl) (by decide)⟩
  intro x3_23
  go_simp
  apply ro_callw (by rfl) (fun w => by go_simp; exact ⟨rfl, rfl⟩)
  · intro u hE hd
    have h0 : IsStrs u x3_23 [⟨#[48]⟩, ⟨#[51]⟩] := hd ⟨23, .data⟩ (by simp) rfl
    exact q_ret _ _ u h0 (HENV.out.mono (Ext.trans _ _ _ HB.out hE)) (by decide) (by decide)
  intro x3_24
  go_simp
  apply ro_runw (by rfl)
  · intro u hE hd
    go_simp
    exact ⟨_, _, ⟨rfl, rfl⟩, Ext.alloc _ _, IsStrs.new (l := [⟨#[50]⟩, ⟨#[49]⟩]) (Blk.new' _ rfl rfl) (by decide)⟩
  intro x3_25
  go_simp
  apply ro_callw (by rfl) (fun w => by go_simp; exact ⟨rfl, rfl⟩)
  · intro u hE hd
    have h0 : IsStrs u x3_25 [⟨#[50]⟩, ⟨#[49]⟩] := hd ⟨25, .data⟩ (by simp) rfl
    exact q_ret _ _ u h0 (HENV.out.mono (Ext.trans _ _ _ HB.out hE)) (by decide) (by decide)
  intro x3_26
  go_simp
  apply ro_callw (by rfl) (fun w => by go_simp; exact ⟨rfl, rfl⟩)
  · intro u hE hd
    have h0 : IsTab u x3_22 [qL [⟨#[49]⟩], qL [⟨#[49]⟩]] := hd ⟨22, .data⟩ (by simp) rfl
    have h1 : IsFracs u x3_24 (qL [⟨#[48]⟩, ⟨#[51]⟩]) := hd ⟨24, .data⟩ (by simp) rfl
    have h2 : IsFracs u x3_26 (qL [⟨#[50]⟩, ⟨#[49]⟩]) := hd ⟨26, .data⟩ (by simp) rfl
    exact lleast_ret _ _ _ _ _ _ _ u h0 h1 h2 (HENV.out.mono (Ext.trans _ _ _ HB.out hE)).tab wx14
  intro x3_27
  go_simp
  apply ro_runw (by rfl)
  · intro u hE hd
    have h0 : (Fact.fracsE (qL [⟨#[49]⟩], 0)).S x3_27 u := hd ⟨27, .data⟩ (by simp) rfl
    obtain ⟨l, e0, hl⟩ := h0
    subst e0
    go_simp
    exact ⟨_, _, ⟨rfl, rfl⟩, Ext.refl _, hl⟩
  intro x3_28
  go_simp
  refine ro_want (u := .int .i64 0) (by rfl) (fun u hE hd => ?_) ?_
  · have h0 : (Fact.fracsE (qL [⟨#[49]⟩], 0)).S x3_27 u := hd ⟨27, .data⟩ (by simp) rfl
    obtain ⟨l, e0, hl⟩ := h0
    subst e0
    go_simp
  go_simp
  apply ro_callD (by rfl)
  · intro u hE hd
    have hf : (Fact.isF 99 [⟨#[49]⟩]).S x3_16 u := hd ⟨16, .data⟩ (by simp) rfl
    have h0 : IsFracs u x3_28 (qL [⟨#[49]⟩]) := hd ⟨28, .data⟩ (by simp) rfl
    obtain ⟨g, vs, e0, hg, hs⟩ := hf
    subst e0
    refine ⟨99, #[x3_28, .int .i64 0, .pointer (some ⟨g, 0, none⟩)], by have eg := enters_of Tryz.func99 (by kernel_rfl) rfl; go_simp, ?_⟩
    refine (is1_any g _ vs _ (qL [⟨#[49]⟩], 0) u hg hs h0 (HENV.out.mono (Ext.trans _ _ _ HB.out hE)) (by decide) (by decide)).mono ?_
    rintro e w' ⟨e1, hE1⟩
    exact ⟨_, e1, congrArg Value.bool wx15, hE1⟩
  intro x3_30
  go_simp
  refine ro_want (u := .bool true) (by rfl) (fun u hE hd => ?_) ?_
  · have h0 : (x3_30 : Value) = .bool true := hd ⟨30, .data⟩ (by simp) rfl
    subst h0
    go_simp
  go_simp
  refine ro_want (u := .bool true) (by rfl) (fun u hE hd => ?_) ?_
  · go_simp
  go_simp
  apply ro_callw (by rfl) (fun w => by go_simp; exact ⟨rfl, rfl⟩)
  · intro u hE hd
    exact fails_any _ u
  intro x3_33
  go_simp
  apply ro_runw (by rfl)
  · intro u hE hd
    go_simp
    exact ⟨_, _, ⟨rfl, rfl⟩, Ext.alloc _ _, IsStrs.new (l := [⟨#[49]⟩, ⟨#[49]⟩]) (Blk.new' _ rfl rfl) (by decide)⟩
  intro x3_34
  go_simp
  apply ro_callw (by rfl) (fun w => by go_simp; exact ⟨rfl, rfl⟩)
  · intro u hE hd
    have h0 : IsStrs u x3_34 [⟨#[49]⟩, ⟨#[49]⟩] := hd ⟨34, .data⟩ (by simp) rfl
    exact q_ret _ _ u h0 (HENV.out.mono (Ext.trans _ _ _ HB.out hE)) (by decide) (by decide)
  intro x3_35
  go_simp
  apply ro_runw (by rfl)
  · intro u hE hd
    have h0 : IsFracs u x3_35 (qL [⟨#[49]⟩, ⟨#[49]⟩]) := hd ⟨35, .data⟩ (by simp) rfl
    obtain ⟨A0, c0, e0, _⟩ := id h0
    subst e0
    go_simp
    exact ⟨_, _, ⟨rfl, rfl⟩, Ext.alloc _ _, IsTab.one (Blk.new' _ rfl rfl) (h0.mono (Ext.alloc _ _))⟩
  intro x3_36
  go_simp
  apply ro_callw (by rfl) (fun w => by go_simp; exact ⟨rfl, rfl⟩)
  · intro u hE hd
    have h0 : IsTab u x3_36 [qL [⟨#[49]⟩, ⟨#[49]⟩]] := hd ⟨36, .data⟩ (by simp) rfl
    exact rows_any _ _ u h0
  intro x3_37
  go_simp
  apply ro_runw (by rfl)
  · intro u hE hd
    go_simp
    exact ⟨_, _, ⟨rfl, rfl⟩, Ext.alloc _ _, IsStrs.new (l := [⟨#[49]⟩]) (Blk.new' _ rfl rfl) (by decide)⟩
  intro x3_38
  go_simp
  apply ro_callw (by rfl) (fun w => by go_simp; exact ⟨rfl, rfl⟩)
  · intro u hE hd
    have h0 : IsStrs u x3_38 [⟨#[49]⟩] := hd ⟨38, .data⟩ (by simp) rfl
    exact q_ret _ _ u h0 (HENV.out.mono (Ext.trans _ _ _ HB.out hE)) (by decide) (by decide)
  intro x3_39
  go_simp
  apply ro_runw (by rfl)
  · intro u hE hd
    go_simp
    exact ⟨_, _, ⟨rfl, rfl⟩, Ext.alloc _ _, IsStrs.new (l := [⟨#[49]⟩]) (Blk.new' _ rfl rfl) (by decide)⟩
  intro x3_40
  go_simp
  apply ro_callw (by rfl) (fun w => by go_simp; exact ⟨rfl, rfl⟩)
  · intro u hE hd
    have h0 : IsStrs u x3_40 [⟨#[49]⟩] := hd ⟨40, .data⟩ (by simp) rfl
    exact q_ret _ _ u h0 (HENV.out.mono (Ext.trans _ _ _ HB.out hE)) (by decide) (by decide)
  intro x3_41
  go_simp
  apply ro_callw (by rfl) (fun w => by go_simp; exact ⟨rfl, rfl⟩)
  · intro u hE hd
    have h0 : IsTab u x3_37 [qL [⟨#[49]⟩, ⟨#[49]⟩]] := hd ⟨37, .data⟩ (by simp) rfl
    have h1 : IsFracs u x3_39 (qL [⟨#[49]⟩]) := hd ⟨39, .data⟩ (by simp) rfl
    have h2 : IsFracs u x3_41 (qL [⟨#[49]⟩]) := hd ⟨41, .data⟩ (by simp) rfl
    exact lleast_ret _ _ _ _ _ _ _ u h0 h1 h2 (HENV.out.mono (Ext.trans _ _ _ HB.out hE)).tab wx16
  intro x3_42
  go_simp
  apply ro_runw (by rfl)
  · intro u hE hd
    have h0 : (Fact.fracsE ([], 7)).S x3_42 u := hd ⟨42, .data⟩ (by simp) rfl
    obtain ⟨l, e0, hl⟩ := h0
    subst e0
    go_simp
    exact ⟨_, _, ⟨rfl, rfl⟩, Ext.refl _, hl⟩
  intro x3_43
  go_simp
  refine ro_want (u := .int .i64 7) (by rfl) (fun u hE hd => ?_) ?_
  · have h0 : (Fact.fracsE ([], 7)).S x3_42 u := hd ⟨42, .data⟩ (by simp) rfl
    obtain ⟨l, e0, hl⟩ := h0
    subst e0
    go_simp
  go_simp
  apply ro_callD (by rfl)
  · intro u hE hd
    have hf : (Fact.boxF 101 (.int .i64 7)).S x3_33 u := hd ⟨33, .data⟩ (by simp) rfl
    have h0 : IsFracs u x3_43 ([]) := hd ⟨43, .data⟩ (by simp) rfl
    obtain ⟨g, e0, hg⟩ := hf
    subst e0
    refine ⟨101, #[x3_43, .int .i64 7, .pointer (some ⟨g, 0, none⟩)], by have eg := enters_of Tryz.func101 (by kernel_rfl) rfl; go_simp, ?_⟩
    refine (fails1_any g _ _ ([], 7) u hg h0).mono ?_
    rintro e w' ⟨e1, hE1⟩
    exact ⟨_, e1, congrArg Value.bool wx3, hE1⟩
  intro x3_45
  go_simp
  refine ro_want (u := .bool true) (by rfl) (fun u hE hd => ?_) ?_
  · have h0 : (x3_45 : Value) = .bool true := hd ⟨45, .data⟩ (by simp) rfl
    subst h0
    go_simp
  go_simp
  refine ro_want (u := .bool true) (by rfl) (fun u hE hd => ?_) ?_
  · go_simp
  go_simp
  refine ro_done (fun u3 hE hf => ?_)
  have HB := Lib.hid (Ext.trans _ _ _ HB.out hE)
  have hE2 := hE
  clear hf hE
  have HA := Lib.hid ((Fact.tab [qL [⟨#[49]⟩], qL [⟨#[50]⟩]]).st _ _ _ hE2 HA.out)
  clear hE2
  go_upto_region 4 with fail
  refine ro_seq 11 [none, some (.strs [⟨#[51]⟩, ⟨#[52]⟩]), some (.fracs (qL [⟨#[51]⟩, ⟨#[52]⟩])), some (.strs [⟨#[49]⟩, ⟨#[49, 47, 50]⟩]), some (.fracs (qL [⟨#[49]⟩, ⟨#[49, 47, 50]⟩])), some (.strs [⟨#[49]⟩]), some (.fracs (qL [⟨#[49]⟩])), some (.val (.tuple #[frV (⟨#[54]⟩, ⟨#[49]⟩), .int .i64 0])), none, none, none] ?_
  go_simp
  refine ro_want (u := x1_6) (by rfl) (fun u hE hd => ?_) ?_
  · go_simp
  go_simp
  apply ro_runw (by rfl)
  · intro u hE hd
    go_simp
    exact ⟨_, _, ⟨rfl, rfl⟩, Ext.alloc _ _, IsStrs.new (l := [⟨#[51]⟩, ⟨#[52]⟩]) (Blk.new' _ rfl rfl) (by decide)⟩
  intro x4_1
  go_simp
  apply ro_callw (by rfl) (fun w => by go_simp; exact ⟨rfl, rfl⟩)
  · intro u hE hd
    have h0 : IsStrs u x4_1 [⟨#[51]⟩, ⟨#[52]⟩] := hd ⟨1, .data⟩ (by simp) rfl
    exact q_ret _ _ u h0 (HENV.out.mono (Ext.trans _ _ _ HB.out hE)) (by decide) (by decide)
  intro x4_2
  go_simp
  apply ro_runw (by rfl)
  · intro u hE hd
    go_simp
    exact ⟨_, _, ⟨rfl, rfl⟩, Ext.alloc _ _, IsStrs.new (l := [⟨#[49]⟩, ⟨#[49, 47, 50]⟩]) (Blk.new' _ rfl rfl) (by decide)⟩
  intro x4_3
  go_simp
  apply ro_callw (by rfl) (fun w => by go_simp; exact ⟨rfl, rfl⟩)
  · intro u hE hd
    have h0 : IsStrs u x4_3 [⟨#[49]⟩, ⟨#[49, 47, 50]⟩] := hd ⟨3, .data⟩ (by simp) rfl
    exact q_ret _ _ u h0 (HENV.out.mono (Ext.trans _ _ _ HB.out hE)) (by decide) (by decide)
  intro x4_4
  go_simp
  apply ro_runw (by rfl)
  · intro u hE hd
    go_simp
    exact ⟨_, _, ⟨rfl, rfl⟩, Ext.alloc _ _, IsStrs.new (l := [⟨#[49]⟩]) (Blk.new' _ rfl rfl) (by decide)⟩
  intro x4_5
  go_simp
  apply ro_callw (by rfl) (fun w => by go_simp; exact ⟨rfl, rfl⟩)
  · intro u hE hd
    have h0 : IsStrs u x4_5 [⟨#[49]⟩] := hd ⟨5, .data⟩ (by simp) rfl
    exact q_ret _ _ u h0 (HENV.out.mono (Ext.trans _ _ _ HB.out hE)) (by decide) (by decide)
  intro x4_6
  go_simp
  apply ro_callw (by rfl) (fun w => by go_simp; exact ⟨rfl, rfl⟩)
  · intro u hE hd
    have h0 : IsTab u x1_6 [qL [⟨#[49]⟩], qL [⟨#[50]⟩]] := (Fact.tab [qL [⟨#[49]⟩], qL [⟨#[50]⟩]]).st _ _ _ hE HA.out
    have h1 : IsFracs u x4_2 (qL [⟨#[51]⟩, ⟨#[52]⟩]) := hd ⟨2, .data⟩ (by simp) rfl
    have h2 : IsFracs u x4_4 (qL [⟨#[49]⟩, ⟨#[49, 47, 50]⟩]) := hd ⟨4, .data⟩ (by simp) rfl
    have h3 : IsFracs u x4_6 (qL [⟨#[49]⟩]) := hd ⟨6, .data⟩ (by simp) rfl
    exact lmeasure_ret _ _ _ _ _ _ _ _ _ u h0 h1 h2 h3 (HENV.out.mono (Ext.trans _ _ _ HB.out hE)).tab wx17
  intro x4_7
  go_simp
  refine ro_want (u := .tuple #[frV (⟨#[54]⟩, ⟨#[49]⟩), .int .i64 0]) (by rfl) (fun u hE hd => ?_) ?_
  · have h0 : (x4_7 : Value) = .tuple #[frV (⟨#[54]⟩, ⟨#[49]⟩), .int .i64 0] := hd ⟨7, .data⟩ (by simp) rfl
    subst h0
    go_simp
  go_simp
  refine ro_want (u := frV (⟨#[54]⟩, ⟨#[49]⟩)) (by rfl) (fun u hE hd => ?_) ?_
  · go_simp
  go_simp
  refine ro_want (u := .int .i64 0) (by rfl) (fun u hE hd => ?_) ?_
  · go_simp
  go_simp
  refine ro_done (fun u4 hE hf => ?_)
  have HB := Lib.hid (Ext.trans _ _ _ HB.out hE)
  clear hf hE
  clear HA
  unfold frV
  go_upto_region 5 with fail
  have hb3 : Blk (u4.alloc (.cells #[.string ⟨#[54]⟩, .string ⟨#[49]⟩] 46)) u4.heap.size [.string ⟨#[54]⟩, .string ⟨#[49]⟩] := Blk.new' 46 rfl rfl
  have HB := Lib.hid (Ext.trans _ _ _ HB.out (Ext.alloc u4 (.cells #[.string ⟨#[54]⟩, .string ⟨#[49]⟩] 46)))
  generalize u4.alloc (.cells #[.string ⟨#[54]⟩, .string ⟨#[49]⟩] 46) = W4 at *
  generalize u4.heap.size = g3 at *
  have HB3 := Lib.hid hb3
  clear hb3
  refine ro_seq 14 [some (.strs [⟨#[49]⟩]), some (.fracs (qL [⟨#[49]⟩])), some (.tab [qL [⟨#[49]⟩]]), some (.tab [qL [⟨#[49]⟩]]), some (.strs [⟨#[48]⟩]), some (.fracs (qL [⟨#[48]⟩])), some (.strs [⟨#[45, 49]⟩]), some (.fracs (qL [⟨#[45, 49]⟩])), some (.strs [⟨#[49]⟩]), some (.fracs (qL [⟨#[49]⟩])), some (.val (.tuple #[frV (.empty, .empty), .int .i64 2])), none, none, none] ?_
  go_simp
  apply ro_runw (by rfl)
  · intro u hE hd
    go_simp
    exact ⟨_, _, ⟨rfl, rfl⟩, Ext.alloc _ _, IsStrs.new (l := [⟨#[49]⟩]) (Blk.new' _ rfl rfl) (by decide)⟩
  intro x5_0
  go_simp
  apply ro_callw (by rfl) (fun w => by go_simp; exact ⟨rfl, rfl⟩)
  · intro u hE hd
    have h0 : IsStrs u x5_0 [⟨#[49]⟩] := hd ⟨0, .data⟩ (by simp) rfl
    exact q_ret _ _ u h0 (HENV.out.mono (Ext.trans _ _ _ HB.out hE)) (by decide) (by decide)
  intro x5_1
  go_simp
  apply ro_runw (by rfl)
  · intro u hE hd
    have h0 : IsFracs u x5_1 (qL [⟨#[49]⟩]) := hd ⟨1, .data⟩ (by simp) rfl
    obtain ⟨A0, c0, e0, _⟩ := id h0
    subst e0
    go_simp
    exact ⟨_, _, ⟨rfl, rfl⟩, Ext.alloc _ _, IsTab.one (Blk.new' _ rfl rfl) (h0.mono (Ext.alloc _ _))⟩
  intro x5_2
  go_simp
  apply ro_callw (by rfl) (fun w => by go_simp; exact ⟨rfl, rfl⟩)
  · intro u hE hd
    have h0 : IsTab u x5_2 [qL [⟨#[49]⟩]] := hd ⟨2, .data⟩ (by simp) rfl
    exact rows_any _ _ u h0
  intro x5_3
  go_simp
  apply ro_runw (by rfl)
  · intro u hE hd
    go_simp
    exact ⟨_, _, ⟨rfl, rfl⟩, Ext.alloc _ _, IsStrs.new (l := [⟨#[48]⟩]) (Blk.new' _ rfl rfl) (by decide)⟩
  intro x5_4
  go_simp
  apply ro_callw (by rfl) (fun w => by go_simp; exact ⟨rfl, rfl⟩)
  · intro u hE hd
    have h0 : IsStrs u x5_4 [⟨#[48]⟩] := hd ⟨4, .data⟩ (by simp) rfl
    exact q_ret _ _ u h0 (HENV.out.mono (Ext.trans _ _ _ HB.out hE)) (by decide) (by decide)
  intro x5_5
  go_simp
  apply ro_runw (by rfl)
  · intro u hE hd
    go_simp
    exact ⟨_, _, ⟨rfl, rfl⟩, Ext.alloc _ _, IsStrs.new (l := [⟨#[45, 49]⟩]) (Blk.new' _ rfl rfl) (by decide)⟩
  intro x5_6
  go_simp
  apply ro_callw (by rfl) (fun w => by go_simp; exact ⟨rfl, rfl⟩)
  · intro u hE hd
    have h0 : IsStrs u x5_6 [⟨#[45, 49]⟩] := hd ⟨6, .data⟩ (by simp) rfl
    exact q_ret _ _ u h0 (HENV.out.mono (Ext.trans _ _ _ HB.out hE)) (by decide) (by decide)
  intro x5_7
  go_simp
  apply ro_runw (by rfl)
  · intro u hE hd
    go_simp
    exact ⟨_, _, ⟨rfl, rfl⟩, Ext.alloc _ _, IsStrs.new (l := [⟨#[49]⟩]) (Blk.new' _ rfl rfl) (by decide)⟩
  intro x5_8
  go_simp
  apply ro_callw (by rfl) (fun w => by go_simp; exact ⟨rfl, rfl⟩)
  · intro u hE hd
    have h0 : IsStrs u x5_8 [⟨#[49]⟩] := hd ⟨8, .data⟩ (by simp) rfl
    exact q_ret _ _ u h0 (HENV.out.mono (Ext.trans _ _ _ HB.out hE)) (by decide) (by decide)
  intro x5_9
  go_simp
  apply ro_callw (by rfl) (fun w => by go_simp; exact ⟨rfl, rfl⟩)
  · intro u hE hd
    have h0 : IsTab u x5_3 [qL [⟨#[49]⟩]] := hd ⟨3, .data⟩ (by simp) rfl
    have h1 : IsFracs u x5_5 (qL [⟨#[48]⟩]) := hd ⟨5, .data⟩ (by simp) rfl
    have h2 : IsFracs u x5_7 (qL [⟨#[45, 49]⟩]) := hd ⟨7, .data⟩ (by simp) rfl
    have h3 : IsFracs u x5_9 (qL [⟨#[49]⟩]) := hd ⟨9, .data⟩ (by simp) rfl
    exact lmeasure_ret _ _ _ _ _ _ _ _ _ u h0 h1 h2 h3 (HENV.out.mono (Ext.trans _ _ _ HB.out hE)).tab wx18
  intro x5_10
  go_simp
  refine ro_want (u := .tuple #[frV (.empty, .empty), .int .i64 2]) (by rfl) (fun u hE hd => ?_) ?_
  · have h0 : (x5_10 : Value) = .tuple #[frV (.empty, .empty), .int .i64 2] := hd ⟨10, .data⟩ (by simp) rfl
    subst h0
    go_simp
  go_simp
  refine ro_want (u := frV (.empty, .empty)) (by rfl) (fun u hE hd => ?_) ?_
  · go_simp
  go_simp
  refine ro_want (u := .int .i64 2) (by rfl) (fun u hE hd => ?_) ?_
  · go_simp
  go_simp
  refine ro_done (fun u5 hE hf => ?_)
  have HB3 := Lib.hid (HB3.out.ext hE)
  have HB := Lib.hid (Ext.trans _ _ _ HB.out hE)
  clear hf hE
  unfold frV
  go_upto_region 6 with fail
  have HB3 := Lib.hid (HB3.out.ext (Ext.alloc u5 (.cells #[.string .empty, .string .empty] 46)))
  have HB := Lib.hid (Ext.trans _ _ _ HB.out (Ext.alloc u5 (.cells #[.string .empty, .string .empty] 46)))
  generalize u5.alloc (.cells #[.string .empty, .string .empty] 46) = W5 at *
  have HC3 : Hid (∀ u, Ext W5 u → u.cell? ⟨g3, 0, none⟩ = some (.string ⟨#[54]⟩) ∧ u.cell? ⟨g3, 1, none⟩ = some (.string ⟨#[49]⟩)) := fun u hE => ⟨(HB3.out.ext hE).cell 0, (HB3.out.ext hE).cell 1⟩
  refine ro_region 31 [none, none, none, some (.strs [⟨#[54]⟩]), some (.fracs (qL [⟨#[54]⟩])), some (.frP (⟨#[54]⟩, ⟨#[49]⟩)), none, none, none, none, none, none, none, none, none, none, none, none, some (.val (.int .i64 60)), none, none, none, some (.strs [⟨#[49]⟩]), some (.fracs (qL [⟨#[49]⟩])), some (.strs [⟨#[49]⟩, ⟨#[50]⟩]), some (.fracs (qL [⟨#[49]⟩, ⟨#[50]⟩])), some (.tab [qL [⟨#[49]⟩], qL [⟨#[49]⟩, ⟨#[50]⟩]]), some (.tab [qL [⟨#[49]⟩], qL [⟨#[49]⟩, ⟨#[50]⟩]]), some (.val (.int .i64 60)), none, none] (by kernel_rfl) (by kernel_rfl) ?_
  go_simp
  refine ro_want (u := .bool true) (by rfl) (fun u hE hd => ?_) ?_
  · go_simp
  go_simp
  refine ro_want (u := .bool true) (by rfl) (fun u hE hd => ?_) ?_
  · go_simp
  go_simp
  refine ro_want (u := frV (⟨#[54]⟩, ⟨#[49]⟩)) (by rfl) (fun u hE hd => ?_) ?_
  · have hX := HC3.out _ (Ext.trans _ _ _ (Ext.drew _) hE)
    unfold frV
    go_simp
  go_simp
  apply ro_runw (by rfl)
  · intro u hE hd
    go_simp
    exact ⟨_, _, ⟨rfl, rfl⟩, Ext.alloc _ _, IsStrs.new (l := [⟨#[54]⟩]) (Blk.new' _ rfl rfl) (by decide)⟩
  intro x6_3
  go_simp
  apply ro_callw (by rfl) (fun w => by go_simp; exact ⟨rfl, rfl⟩)
  · intro u hE hd
    have h0 : IsStrs u x6_3 [⟨#[54]⟩] := hd ⟨3, .data⟩ (by simp) rfl
    exact q_ret _ _ u h0 (HENV.out.mono (Ext.trans _ _ _ HB.out (Ext.trans _ _ _ (Ext.drew _) hE))) (by decide) (by decide)
  intro x6_4
  go_simp
  apply ro_runw (by rfl)
  · intro u hE hd
    have h0 : IsFracs u x6_4 (qL [⟨#[54]⟩]) := hd ⟨4, .data⟩ (by simp) rfl
    obtain ⟨A0, c0, e0, hc0, _⟩ := id h0
    subst e0
    obtain ⟨b, o, e1, k1, k2⟩ := IsFracs.get h0 (i := 0) (x := (⟨#[54]⟩, ⟨#[49]⟩)) rfl
    subst e1
    have hl0 : (0 : Int) < ((qL [⟨#[54]⟩]).length : Int) := by decide
    have hl1 : 0 < (qL [⟨#[54]⟩]).length := by decide
    have hc1 : 0 < c0 := Nat.lt_of_lt_of_le hl1 hc0
    go_simp
    exact ⟨_, _, ⟨rfl, rfl⟩, Ext.refl _, _, _, rfl, k1, k2⟩
  intro x6_5
  go_simp
  refine ro_want (u := frV (⟨#[54]⟩, ⟨#[49]⟩)) (by rfl) (fun u hE hd => ?_) ?_
  · obtain ⟨b, o, e0, k1, k2⟩ := (hd ⟨5, .data⟩ (by simp) rfl : (Fact.frP (⟨#[54]⟩, ⟨#[49]⟩)).S x6_5 u)
    subst e0
    unfold frV
    go_simp
  go_simp
  refine ro_want (u := .bool true) (by rfl) (fun u hE hd => ?_) ?_
  · unfold frV; go_simp
  go_simp
  refine ro_want (u := .bool true) (by rfl) (fun u hE hd => ?_) ?_
  · go_simp
  go_simp
  refine ro_want (u := .bool true) (by rfl) (fun u hE hd => ?_) ?_
  · go_simp
  go_simp
  refine ro_want (u := .int .i64 0) (by rfl) (fun u hE hd => ?_) ?_
  · go_simp
  go_simp
  refine ro_want (u := .bool true) (by rfl) (fun u hE hd => ?_) ?_
  · go_simp
  go_simp
  refine ro_want (u := .bool true) (by rfl) (fun u hE hd => ?_) ?_
  · go_simp
  go_simp
  refine ro_want (u := .bool true) (by rfl) (fun u hE hd => ?_) ?_
  · go_simp
  go_simp
  refine ro_want (u := .int .i64 2) (by rfl) (fun u hE hd => ?_) ?_
  · go_simp
  go_simp
  refine ro_want (u := .bool true) (by rfl) (fun u hE hd => ?_) ?_
  · go_simp
  go_simp
  refine ro_want (u := .bool true) (by rfl) (fun u hE hd => ?_) ?_
  · go_simp
  go_simp
  refine ro_want (u := .bool true) (by rfl) (fun u hE hd => ?_) ?_
  · go_simp
  go_simp
  apply ro_callw (by rfl) (fun w => by go_simp; exact ⟨rfl, rfl⟩)
  · intro u hE hd
    exact lcheck_ret _ [] _ u ⟨none, 0, rfl, Nat.le_refl _, Nat.zero_le _, .inl rfl⟩ (HENV.out.mono (Ext.trans _ _ _ HB.out (Ext.trans _ _ _ (Ext.drew _) hE))).tab wx19
  intro x6_18
  go_simp
  refine ro_want (u := .bool true) (by rfl) (fun u hE hd => ?_) ?_
  · have h0 : (x6_18 : Value) = .int .i64 60 := hd ⟨18, .data⟩ (by simp) rfl
    subst h0
    go_simp
  go_simp
  refine ro_want (u := .bool true) (by rfl) (fun u hE hd => ?_) ?_
  · go_simp
  go_simp
  refine ro_want (u := .bool true) (by rfl) (fun u hE hd => ?_) ?_
  · go_simp
  go_simp
  apply ro_runw (by rfl)
  · intro u hE hd
    go_simp
    exact ⟨_, _, ⟨rfl, rfl⟩, Ext.alloc _ _, IsStrs.new (l := [⟨#[49]⟩]) (Blk.new' _ rfl rfl) (by decide)⟩
  intro x6_22
  go_simp
  apply ro_callw (by rfl) (fun w => by go_simp; exact ⟨rfl, rfl⟩)
  · intro u hE hd
    have h0 : IsStrs u x6_22 [⟨#[49]⟩] := hd ⟨22, .data⟩ (by simp) rfl
    exact q_ret _ _ u h0 (HENV.out.mono (Ext.trans _ _ _ HB.out (Ext.trans _ _ _ (Ext.drew _) hE))) (by decide) (by decide)
  intro x6_23
  go_simp
  apply ro_runw (by rfl)
  · intro u hE hd
    go_simp
    exact ⟨_, _, ⟨rfl, rfl⟩, Ext.alloc _ _, IsStrs.new (l := [⟨#[49]⟩, ⟨#[50]⟩]) (Blk.new' _ rfl rfl) (by decide)⟩
  intro x6_24
  go_simp
  apply ro_callw (by rfl) (fun w => by go_simp; exact ⟨rfl, rfl⟩)
  · intro u hE hd
    have h0 : IsStrs u x6_24 [⟨#[49]⟩, ⟨#[50]⟩] := hd ⟨24, .data⟩ (by simp) rfl
    exact q_ret _ _ u h0 (HENV.out.mono (Ext.trans _ _ _ HB.out (Ext.trans _ _ _ (Ext.drew _) hE))) (by decide) (by decide)
  intro x6_25
  go_simp
  apply ro_runw (by rfl)
  · intro u hE hd
    have h0 : IsFracs u x6_23 (qL [⟨#[49]⟩]) := hd ⟨23, .data⟩ (by simp) rfl
    have h1 : IsFracs u x6_25 (qL [⟨#[49]⟩, ⟨#[50]⟩]) := hd ⟨25, .data⟩ (by simp) rfl
    obtain ⟨A0, c0, e0, _⟩ := id h0
    subst e0
    obtain ⟨A1, c1, e1, _⟩ := id h1
    subst e1
    go_simp
    exact ⟨_, _, ⟨rfl, rfl⟩, Ext.alloc _ _, IsTab.two (Blk.new' _ rfl rfl) (h0.mono (Ext.alloc _ _)) (h1.mono (Ext.alloc _ _))⟩
  intro x6_26
  go_simp
  apply ro_callw (by rfl) (fun w => by go_simp; exact ⟨rfl, rfl⟩)
  · intro u hE hd
    have h0 : IsTab u x6_26 [qL [⟨#[49]⟩], qL [⟨#[49]⟩, ⟨#[50]⟩]] := hd ⟨26, .data⟩ (by simp) rfl
    exact rows_any _ _ u h0
  intro x6_27
  go_simp
  apply ro_callw (by rfl) (fun w => by go_simp; exact ⟨rfl, rfl⟩)
  · intro u hE hd
    have h0 : IsTab u x6_27 [qL [⟨#[49]⟩], qL [⟨#[49]⟩, ⟨#[50]⟩]] := hd ⟨27, .data⟩ (by simp) rfl
    exact lcheck_ret _ _ _ u h0 (HENV.out.mono (Ext.trans _ _ _ HB.out (Ext.trans _ _ _ (Ext.drew _) hE))).tab wx20
  intro x6_28
  go_simp
  refine ro_want (u := .bool true) (by rfl) (fun u hE hd => ?_) ?_
  · have h0 : (x6_28 : Value) = .int .i64 60 := hd ⟨28, .data⟩ (by simp) rfl
    subst h0
    go_simp
  go_simp
  refine ro_want (u := .bool true) (by rfl) (fun u hE hd => ?_) ?_
  · go_simp
  go_simp
  refine ro_done (fun u6 hE hf => ?_)
  have HB := Lib.hid (Ext.trans _ _ _ HB.out (Ext.trans _ _ _ (Ext.drew _) hE))
  clear hf hE
  simp only [List.drop_succ_cons, List.drop_zero]
  go_wp2
  go_ret
  exact ⟨rfl, HB.out⟩
end Go.Proofs.Xx
end
