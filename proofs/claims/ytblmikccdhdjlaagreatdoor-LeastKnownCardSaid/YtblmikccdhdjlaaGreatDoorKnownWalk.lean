/- A part of the proof: the texts W80. -/
import Derived.Test.YtblmikccdhdjlaaGreatDoorKnownRegions1
import Derived.Test.YtblmikccdhdjlaaGreatDoorKnownRegions2
set_option linter.unusedVariables false
set_option linter.unusedSimpArgs false
section
namespace Go.Proofs.Xx
open Go.RowKit Go.V Go.Grow Lin Go.Txt
set_option maxRecDepth 100000
set_option maxHeartbeats 64000000 in
set_option maxRecDepth 100000 in
theorem known_any (w : World) (he : Env w) : Calls Tryz.prog 7 #[] w fun e w' => e = .returned (.bool true) ∧ Ext w w' := by
  have HENV := Lib.hid he
  have HW := Lib.hid (works_any w he)
  clear he
  go_enter Tryz.func7, Tryz.ntmps7
  go_wp2_with fail
  refine HW.out.mono ?_
  rintro e w1 ⟨rfl, hE1⟩
  have HB := Lib.hid hE1
  clear hE1
  go_upto_region 3 with fail
  refine ro_seq 6 [some (.strs [⟨#[49]⟩]), some (.fracs (qL [⟨#[49]⟩])), none, some (.fracs ([(⟨#[]⟩, ⟨#[]⟩)])), some (.fracs (qL [⟨#[49]⟩])), some (.fracs ([(⟨#[]⟩, ⟨#[]⟩)]))] ?_
  go_simp
  apply ro_runw (by rfl)
  · intro u hE hd
    go_simp
    exact ⟨_, _, ⟨rfl, rfl⟩, Ext.alloc _ _, IsStrs.new (l := [⟨#[49]⟩]) (Blk.new' _ rfl rfl) (by decide)⟩
  intro x3_0
  go_simp
  apply ro_callw (by rfl) (fun w => by go_simp; exact ⟨rfl, rfl⟩)
  · intro u hE hd
    have h0 : IsStrs u x3_0 [⟨#[49]⟩] := hd ⟨0, .data⟩ (by simp) rfl
    exact q_ret _ _ u h0 (HENV.out.mono (Ext.trans _ _ _ HB.out hE)) (by decide) (by decide)
  intro x3_1
  go_simp
  refine ro_want (u := frV (⟨#[]⟩, ⟨#[]⟩)) (by rfl) (fun u hE hd => ?_) ?_
  · unfold frV; go_simp
  go_simp
  apply ro_runw (by rfl)
  · intro u hE hd
    unfold frV
    go_simp
    exact ⟨_, _, ⟨rfl, rfl⟩, Ext.alloc _ _, IsFracs.one (x := (⟨#[]⟩, ⟨#[]⟩)) (Blk.new' _ rfl rfl)⟩
  intro x3_3
  go_simp
  apply ro_runw (by rfl)
  · intro u hE hd
    have h0 : IsFracs u x3_1 (qL [⟨#[49]⟩]) := hd ⟨1, .data⟩ (by simp) rfl
    go_simp
    exact ⟨_, _, ⟨rfl, rfl⟩, Ext.refl _, h0⟩
  intro x3_4
  go_simp
  apply ro_runw (by rfl)
  · intro u hE hd
    have h0 : IsFracs u x3_3 ([(⟨#[]⟩, ⟨#[]⟩)]) := hd ⟨3, .data⟩ (by simp) rfl
    go_simp
    exact ⟨_, _, ⟨rfl, rfl⟩, Ext.refl _, h0⟩
  intro x3_5
  go_simp
  refine ro_done (fun u3 hE hf => ?_)
  have K1 : Hid ((Fact.fracs (qL [⟨#[49]⟩])).S x3_4 u3) := Lib.hid (hf _ (List.mem_of_getElem? (i := 4) rfl))
  have K2 : Hid ((Fact.fracs ([(⟨#[]⟩, ⟨#[]⟩)])).S x3_5 u3) := Lib.hid (hf _ (List.mem_of_getElem? (i := 5) rfl))
  replace HB := Lib.hid (Ext.trans _ _ _ HB.out hE)
  clear hf hE
  go_upto_region 4 with fail
  refine ro_seq 3 [some (.strs [⟨#[49]⟩, ⟨#[48]⟩, ⟨#[48]⟩, ⟨#[48]⟩, ⟨#[48]⟩, ⟨#[48]⟩, ⟨#[48]⟩, ⟨#[48]⟩, ⟨#[48]⟩, ⟨#[48]⟩]), some (.fracs (qL [⟨#[49]⟩, ⟨#[48]⟩, ⟨#[48]⟩, ⟨#[48]⟩, ⟨#[48]⟩, ⟨#[48]⟩, ⟨#[48]⟩, ⟨#[48]⟩, ⟨#[48]⟩, ⟨#[48]⟩])), some (.fracs (qL [⟨#[49]⟩, ⟨#[48]⟩, ⟨#[48]⟩, ⟨#[48]⟩, ⟨#[48]⟩, ⟨#[48]⟩, ⟨#[48]⟩, ⟨#[48]⟩, ⟨#[48]⟩, ⟨#[48]⟩]))] ?_
  go_simp
  apply ro_runw (by rfl)
  · intro u hE hd
    go_simp
    exact ⟨_, _, ⟨rfl, rfl⟩, Ext.alloc _ _, IsStrs.new (l := [⟨#[49]⟩, ⟨#[48]⟩, ⟨#[48]⟩, ⟨#[48]⟩, ⟨#[48]⟩, ⟨#[48]⟩, ⟨#[48]⟩, ⟨#[48]⟩, ⟨#[48]⟩, ⟨#[48]⟩]) (Blk.new' _ rfl rfl) (by decide)⟩
  intro x4_0
  go_simp
  apply ro_callw (by rfl) (fun w => by go_simp; exact ⟨rfl, rfl⟩)
  · intro u hE hd
    have h0 : IsStrs u x4_0 [⟨#[49]⟩, ⟨#[48]⟩, ⟨#[48]⟩, ⟨#[48]⟩, ⟨#[48]⟩, ⟨#[48]⟩, ⟨#[48]⟩, ⟨#[48]⟩, ⟨#[48]⟩, ⟨#[48]⟩] := hd ⟨0, .data⟩ (by simp) rfl
    exact q_ret _ _ u h0 (HENV.out.mono (Ext.trans _ _ _ HB.out hE)) (by decide) (by decide)
  intro x4_1
  go_simp
  apply ro_runw (by rfl)
  · intro u hE hd
    have h0 : IsFracs u x4_1 (qL [⟨#[49]⟩, ⟨#[48]⟩, ⟨#[48]⟩, ⟨#[48]⟩, ⟨#[48]⟩, ⟨#[48]⟩, ⟨#[48]⟩, ⟨#[48]⟩, ⟨#[48]⟩, ⟨#[48]⟩]) := hd ⟨1, .data⟩ (by simp) rfl
    go_simp
    exact ⟨_, _, ⟨rfl, rfl⟩, Ext.refl _, h0⟩
  intro x4_2
  go_simp
  refine ro_done (fun u4 hE hf => ?_)
  replace K1 := Lib.hid ((Fact.fracs (qL [⟨#[49]⟩])).st _ _ _ hE K1.out)
  replace K2 := Lib.hid ((Fact.fracs ([(⟨#[]⟩, ⟨#[]⟩)])).st _ _ _ hE K2.out)
  have K3 : Hid ((Fact.fracs (qL [⟨#[49]⟩, ⟨#[48]⟩, ⟨#[48]⟩, ⟨#[48]⟩, ⟨#[48]⟩, ⟨#[48]⟩, ⟨#[48]⟩, ⟨#[48]⟩, ⟨#[48]⟩, ⟨#[48]⟩])).S x4_2 u4) := Lib.hid (hf _ (List.mem_of_getElem? (i := 2) rfl))
  replace HB := Lib.hid (Ext.trans _ _ _ HB.out hE)
  clear hf hE
  go_upto_region 5 with fail
  refine ro_seq 5 [none, some (.tab [qL [⟨#[49]⟩]]), some (.tab [qL [⟨#[49]⟩]]), some (.tab (List.replicate 40 (qL [⟨#[49]⟩]))), some (.tab (List.replicate 40 (qL [⟨#[49]⟩])))] ?_
  go_simp
  refine ro_want (u := x3_4) (by rfl) (fun u hE hd => ?_) ?_
  · go_simp
  go_simp
  apply ro_runw (by rfl)
  · intro u hE hd
    have h0 : IsFracs u x3_4 (qL [⟨#[49]⟩]) := (Fact.fracs (qL [⟨#[49]⟩])).st _ _ _ hE K1.out
    obtain ⟨A0, c0, e0, _⟩ := id h0
    subst e0
    go_simp
    exact ⟨_, _, ⟨rfl, rfl⟩, Ext.alloc _ _, IsTab.one (Blk.new' _ rfl rfl) (h0.mono (Ext.alloc _ _))⟩
  intro x5_1
  go_simp
  apply ro_callw (by rfl) (fun w => by go_simp; exact ⟨rfl, rfl⟩)
  · intro u hE hd
    have h0 : IsTab u x5_1 [qL [⟨#[49]⟩]] := hd ⟨1, .data⟩ (by simp) rfl
    exact rows_any _ _ u h0
  intro x5_2
  go_simp
  apply ro_callw (by rfl) (fun w => by go_simp; exact ⟨rfl, rfl⟩)
  · intro u hE hd
    have h0 : IsTab u x5_2 [qL [⟨#[49]⟩]] := hd ⟨2, .data⟩ (by simp) rfl
    exact repT_ret _ _ 40 u h0 (by decide) (by decide)
  intro x5_3
  go_simp
  apply ro_runw (by rfl)
  · intro u hE hd
    have h0 : IsTab u x5_3 (List.replicate 40 (qL [⟨#[49]⟩])) := hd ⟨3, .data⟩ (by simp) rfl
    go_simp
    exact ⟨_, _, ⟨rfl, rfl⟩, Ext.refl _, h0⟩
  intro x5_4
  go_simp
  refine ro_done (fun u5 hE hf => ?_)
  replace K1 := Lib.hid ((Fact.fracs (qL [⟨#[49]⟩])).st _ _ _ hE K1.out)
  replace K2 := Lib.hid ((Fact.fracs ([(⟨#[]⟩, ⟨#[]⟩)])).st _ _ _ hE K2.out)
  replace K3 := Lib.hid ((Fact.fracs (qL [⟨#[49]⟩, ⟨#[48]⟩, ⟨#[48]⟩, ⟨#[48]⟩, ⟨#[48]⟩, ⟨#[48]⟩, ⟨#[48]⟩, ⟨#[48]⟩, ⟨#[48]⟩, ⟨#[48]⟩])).st _ _ _ hE K3.out)
  have K4 : Hid ((Fact.tab (List.replicate 40 (qL [⟨#[49]⟩]))).S x5_4 u5) := Lib.hid (hf _ (List.mem_of_getElem? (i := 4) rfl))
  replace HB := Lib.hid (Ext.trans _ _ _ HB.out hE)
  clear hf hE
  go_upto_region 6 with fail
  refine ro_seq 3 [none, some (.fracs (List.replicate 40 (⟨#[49]⟩, ⟨#[49]⟩))), some (.fracs (List.replicate 40 (⟨#[49]⟩, ⟨#[49]⟩)))] ?_
  go_simp
  refine ro_want (u := x3_4) (by rfl) (fun u hE hd => ?_) ?_
  · go_simp
  go_simp
  apply ro_callw (by rfl) (fun w => by go_simp; exact ⟨rfl, rfl⟩)
  · intro u hE hd
    have h0 : IsFracs u x3_4 (qL [⟨#[49]⟩]) := (Fact.fracs (qL [⟨#[49]⟩])).st _ _ _ hE K1.out
    exact repF_ret _ _ 40 u h0 (by decide) (by decide)
  intro x6_1
  go_simp
  apply ro_runw (by rfl)
  · intro u hE hd
    have h0 : IsFracs u x6_1 (List.replicate 40 (⟨#[49]⟩, ⟨#[49]⟩)) := hd ⟨1, .data⟩ (by simp) rfl
    go_simp
    exact ⟨_, _, ⟨rfl, rfl⟩, Ext.refl _, h0⟩
  intro x6_2
  go_simp
  refine ro_done (fun u6 hE hf => ?_)
  replace K1 := Lib.hid ((Fact.fracs (qL [⟨#[49]⟩])).st _ _ _ hE K1.out)
  replace K2 := Lib.hid ((Fact.fracs ([(⟨#[]⟩, ⟨#[]⟩)])).st _ _ _ hE K2.out)
  replace K3 := Lib.hid ((Fact.fracs (qL [⟨#[49]⟩, ⟨#[48]⟩, ⟨#[48]⟩, ⟨#[48]⟩, ⟨#[48]⟩, ⟨#[48]⟩, ⟨#[48]⟩, ⟨#[48]⟩, ⟨#[48]⟩, ⟨#[48]⟩])).st _ _ _ hE K3.out)
  replace K4 := Lib.hid ((Fact.tab (List.replicate 40 (qL [⟨#[49]⟩]))).st _ _ _ hE K4.out)
  have K5 : Hid ((Fact.fracs (List.replicate 40 (⟨#[49]⟩, ⟨#[49]⟩))).S x6_2 u6) := Lib.hid (hf _ (List.mem_of_getElem? (i := 2) rfl))
  replace HB := Lib.hid (Ext.trans _ _ _ HB.out hE)
  clear hf hE
  go_upto_region 7 with fail
  refine swap_ops (ops' := ops7.1) (by kernel_rfl) ?_
  refine kn7 w u6 x3_4 x3_5 x4_2 x5_4 x6_2 x3_0 x3_1 x3_3 x4_0 x4_1 x5_1 x5_2 x5_3 x6_1  HENV HB K1 K2 K3 K4 K5 _ (Lib.hid ?_)
  intro u7 x7_1 x7_2 x7_3 x7_7 x7_9 x7_10 x7_11 x7_12 x7_17 x7_22 x7_24 x7_25 x7_26 x7_30 x7_31 x7_32 x7_37 x7_38 x7_39 x7_43 x7_44 x7_48 x7_49 x7_51 x7_54 x7_56 x7_59 x7_62 x7_64 x7_65 x7_66 x7_69 hE
  replace K1 := Lib.hid ((Fact.fracs (qL [⟨#[49]⟩])).st _ _ _ hE K1.out)
  replace K2 := Lib.hid ((Fact.fracs ([(⟨#[]⟩, ⟨#[]⟩)])).st _ _ _ hE K2.out)
  replace K3 := Lib.hid ((Fact.fracs (qL [⟨#[49]⟩, ⟨#[48]⟩, ⟨#[48]⟩, ⟨#[48]⟩, ⟨#[48]⟩, ⟨#[48]⟩, ⟨#[48]⟩, ⟨#[48]⟩, ⟨#[48]⟩, ⟨#[48]⟩])).st _ _ _ hE K3.out)
  replace K4 := Lib.hid ((Fact.tab (List.replicate 40 (qL [⟨#[49]⟩]))).st _ _ _ hE K4.out)
  replace K5 := Lib.hid ((Fact.fracs (List.replicate 40 (⟨#[49]⟩, ⟨#[49]⟩))).st _ _ _ hE K5.out)
  replace HB := Lib.hid (Ext.trans _ _ _ HB.out hE)
  clear hE
  go_upto_region 8 with fail
  refine ro_seq 9 [none, some (.tab [[(⟨#[]⟩, ⟨#[]⟩)]]), some (.tab [[(⟨#[]⟩, ⟨#[]⟩)]]), some (.val (.tuple #[.int .i64 0, .int .i64 60])), none, none, none, none, none] ?_
  go_simp
  refine ro_want (u := x3_5) (by rfl) (fun u hE hd => ?_) ?_
  · go_simp
  go_simp
  apply ro_runw (by rfl)
  · intro u hE hd
    have h0 : IsFracs u x3_5 ([(⟨#[]⟩, ⟨#[]⟩)]) := (Fact.fracs ([(⟨#[]⟩, ⟨#[]⟩)])).st _ _ _ hE K2.out
    obtain ⟨A0, c0, e0, _⟩ := id h0
    subst e0
    go_simp
    exact ⟨_, _, ⟨rfl, rfl⟩, Ext.alloc _ _, IsTab.one (Blk.new' _ rfl rfl) (h0.mono (Ext.alloc _ _))⟩
  intro x8_1
  go_simp
  apply ro_callw (by rfl) (fun w => by go_simp; exact ⟨rfl, rfl⟩)
  · intro u hE hd
    have h0 : IsTab u x8_1 [[(⟨#[]⟩, ⟨#[]⟩)]] := hd ⟨1, .data⟩ (by simp) rfl
    exact rows_any _ _ u h0
  intro x8_2
  go_simp
  apply ro_callw (by rfl) (fun w => by go_simp; exact ⟨rfl, rfl⟩)
  · intro u hE hd
    have h0 : IsTab u x8_2 [[(⟨#[]⟩, ⟨#[]⟩)]] := hd ⟨2, .data⟩ (by simp) rfl
    exact rank_ret _ _ _ u h0 (HENV.out.mono (Ext.trans _ _ _ HB.out hE)).tab kx11
  intro x8_3
  go_simp
  refine ro_want (u := .tuple #[.int .i64 0, .int .i64 60]) (by rfl) (fun u hE hd => ?_) ?_
  · have h0 : (x8_3 : Value) = .tuple #[.int .i64 0, .int .i64 60] := hd ⟨3, .data⟩ (by simp) rfl
    subst h0
    go_simp
  go_simp
  refine ro_want (u := .int .i64 0) (by rfl) (fun u hE hd => ?_) ?_
  · go_simp
  go_simp
  refine ro_want (u := .int .i64 60) (by rfl) (fun u hE hd => ?_) ?_
  · go_simp
  go_simp
  refine ro_want (u := .int .i64 0) (by rfl) (fun u hE hd => ?_) ?_
  · go_simp
  go_simp
  refine ro_want (u := .int .i64 60) (by rfl) (fun u hE hd => ?_) ?_
  · go_simp
  go_simp
  refine ro_done (fun u8 hE hf => ?_)
  replace K1 := Lib.hid ((Fact.fracs (qL [⟨#[49]⟩])).st _ _ _ hE K1.out)
  replace K2 := Lib.hid ((Fact.fracs ([(⟨#[]⟩, ⟨#[]⟩)])).st _ _ _ hE K2.out)
  replace K3 := Lib.hid ((Fact.fracs (qL [⟨#[49]⟩, ⟨#[48]⟩, ⟨#[48]⟩, ⟨#[48]⟩, ⟨#[48]⟩, ⟨#[48]⟩, ⟨#[48]⟩, ⟨#[48]⟩, ⟨#[48]⟩, ⟨#[48]⟩])).st _ _ _ hE K3.out)
  replace K4 := Lib.hid ((Fact.tab (List.replicate 40 (qL [⟨#[49]⟩]))).st _ _ _ hE K4.out)
  replace K5 := Lib.hid ((Fact.fracs (List.replicate 40 (⟨#[49]⟩, ⟨#[49]⟩))).st _ _ _ hE K5.out)
  replace HB := Lib.hid (Ext.trans _ _ _ HB.out hE)
  clear hf hE
  go_upto_region 9 with fail
  refine ro_seq 9 [none, some (.tab [qL [⟨#[49]⟩]]), some (.tab [qL [⟨#[49]⟩]]), none, none, some (.val (.tuple #[frV (.empty, .empty), .int .i64 2])), none, none, none] ?_
  go_simp
  refine ro_want (u := x3_4) (by rfl) (fun u hE hd => ?_) ?_
  · go_simp
  go_simp
  apply ro_runw (by rfl)
  · intro u hE hd
    have h0 : IsFracs u x3_4 (qL [⟨#[49]⟩]) := (Fact.fracs (qL [⟨#[49]⟩])).st _ _ _ hE K1.out
    obtain ⟨A0, c0, e0, _⟩ := id h0
    subst e0
    go_simp
    exact ⟨_, _, ⟨rfl, rfl⟩, Ext.alloc _ _, IsTab.one (Blk.new' _ rfl rfl) (h0.mono (Ext.alloc _ _))⟩
  intro x9_1
  go_simp
  apply ro_callw (by rfl) (fun w => by go_simp; exact ⟨rfl, rfl⟩)
  · intro u hE hd
    have h0 : IsTab u x9_1 [qL [⟨#[49]⟩]] := hd ⟨1, .data⟩ (by simp) rfl
    exact rows_any _ _ u h0
  intro x9_2
  go_simp
  refine ro_want (u := x3_4) (by rfl) (fun u hE hd => ?_) ?_
  · go_simp
  go_simp
  refine ro_want (u := x3_4) (by rfl) (fun u hE hd => ?_) ?_
  · go_simp
  go_simp
  apply ro_callw (by rfl) (fun w => by go_simp; exact ⟨rfl, rfl⟩)
  · intro u hE hd
    have h0 : IsTab u x9_2 [qL [⟨#[49]⟩]] := hd ⟨2, .data⟩ (by simp) rfl
    have h1 : IsFracs u x3_4 (qL [⟨#[49]⟩]) := (Fact.fracs (qL [⟨#[49]⟩])).st _ _ _ hE K1.out
    have h2 : IsFracs u x3_4 (qL [⟨#[49]⟩]) := (Fact.fracs (qL [⟨#[49]⟩])).st _ _ _ hE K1.out
    have h3 : IsFracs u (.slice none 0 0) [] := ⟨none, 0, rfl, Nat.le_refl _, Nat.zero_le _, .inl rfl⟩
    exact lmeasure_ret _ _ _ _ _ _ _ _ _ u h0 h1 h2 h3 (HENV.out.mono (Ext.trans _ _ _ HB.out hE)).tab kx12
  intro x9_5
  go_simp
  refine ro_want (u := .tuple #[frV (.empty, .empty), .int .i64 2]) (by rfl) (fun u hE hd => ?_) ?_
  · have h0 : (x9_5 : Value) = .tuple #[frV (.empty, .empty), .int .i64 2] := hd ⟨5, .data⟩ (by simp) rfl
    subst h0
    go_simp
  go_simp
  refine ro_want (u := frV (.empty, .empty)) (by rfl) (fun u hE hd => ?_) ?_
  · go_simp
  go_simp
  refine ro_want (u := .int .i64 2) (by rfl) (fun u hE hd => ?_) ?_
  · go_simp
  go_simp
  refine ro_done (fun u9 hE hf => ?_)
  replace K1 := Lib.hid ((Fact.fracs (qL [⟨#[49]⟩])).st _ _ _ hE K1.out)
  replace K2 := Lib.hid ((Fact.fracs ([(⟨#[]⟩, ⟨#[]⟩)])).st _ _ _ hE K2.out)
  replace K3 := Lib.hid ((Fact.fracs (qL [⟨#[49]⟩, ⟨#[48]⟩, ⟨#[48]⟩, ⟨#[48]⟩, ⟨#[48]⟩, ⟨#[48]⟩, ⟨#[48]⟩, ⟨#[48]⟩, ⟨#[48]⟩, ⟨#[48]⟩])).st _ _ _ hE K3.out)
  replace K4 := Lib.hid ((Fact.tab (List.replicate 40 (qL [⟨#[49]⟩]))).st _ _ _ hE K4.out)
  replace K5 := Lib.hid ((Fact.fracs (List.replicate 40 (⟨#[49]⟩, ⟨#[49]⟩))).st _ _ _ hE K5.out)
  replace HB := Lib.hid (Ext.trans _ _ _ HB.out hE)
  clear hf hE
  unfold frV
  go_upto_region 10 with fail
  replace K1 := Lib.hid ((Fact.fracs (qL [⟨#[49]⟩])).st _ _ _ (Ext.alloc u9 (.cells #[.string .empty, .string .empty] 46)) K1.out)
  replace K2 := Lib.hid ((Fact.fracs ([(⟨#[]⟩, ⟨#[]⟩)])).st _ _ _ (Ext.alloc u9 (.cells #[.string .empty, .string .empty] 46)) K2.out)
  replace K3 := Lib.hid ((Fact.fracs (qL [⟨#[49]⟩, ⟨#[48]⟩, ⟨#[48]⟩, ⟨#[48]⟩, ⟨#[48]⟩, ⟨#[48]⟩, ⟨#[48]⟩, ⟨#[48]⟩, ⟨#[48]⟩, ⟨#[48]⟩])).st _ _ _ (Ext.alloc u9 (.cells #[.string .empty, .string .empty] 46)) K3.out)
  replace K4 := Lib.hid ((Fact.tab (List.replicate 40 (qL [⟨#[49]⟩]))).st _ _ _ (Ext.alloc u9 (.cells #[.string .empty, .string .empty] 46)) K4.out)
  replace K5 := Lib.hid ((Fact.fracs (List.replicate 40 (⟨#[49]⟩, ⟨#[49]⟩))).st _ _ _ (Ext.alloc u9 (.cells #[.string .empty, .string .empty] 46)) K5.out)
  replace HB := Lib.hid (Ext.trans _ _ _ HB.out (Ext.alloc u9 (.cells #[.string .empty, .string .empty] 46)))
  have C9 : Hid (Blk (u9.alloc (.cells #[.string .empty, .string .empty] 46)) u9.heap.size [.string .empty, .string .empty]) := Blk.new' 46 rfl rfl
  generalize u9.alloc (.cells #[.string .empty, .string .empty] 46) = W9 at *
  generalize u9.heap.size = gC9 at *
  refine ro_seq 10 [none, some (.tab [qL [⟨#[49]⟩]]), some (.tab [qL [⟨#[49]⟩]]), none, none, none, some (.val (.tuple #[frV (.empty, .empty), .int .i64 20])), none, none, none] ?_
  go_simp
  refine ro_want (u := x3_4) (by rfl) (fun u hE hd => ?_) ?_
  · go_simp
  go_simp
  apply ro_runw (by rfl)
  · intro u hE hd
    have h0 : IsFracs u x3_4 (qL [⟨#[49]⟩]) := (Fact.fracs (qL [⟨#[49]⟩])).st _ _ _ hE K1.out
    obtain ⟨A0, c0, e0, _⟩ := id h0
    subst e0
    go_simp
    exact ⟨_, _, ⟨rfl, rfl⟩, Ext.alloc _ _, IsTab.one (Blk.new' _ rfl rfl) (h0.mono (Ext.alloc _ _))⟩
  intro x10_1
  go_simp
  apply ro_callw (by rfl) (fun w => by go_simp; exact ⟨rfl, rfl⟩)
  · intro u hE hd
    have h0 : IsTab u x10_1 [qL [⟨#[49]⟩]] := hd ⟨1, .data⟩ (by simp) rfl
    exact rows_any _ _ u h0
  intro x10_2
  go_simp
  refine ro_want (u := x3_4) (by rfl) (fun u hE hd => ?_) ?_
  · go_simp
  go_simp
  refine ro_want (u := x3_4) (by rfl) (fun u hE hd => ?_) ?_
  · go_simp
  go_simp
  refine ro_want (u := x3_5) (by rfl) (fun u hE hd => ?_) ?_
  · go_simp
  go_simp
  apply ro_callw (by rfl) (fun w => by go_simp; exact ⟨rfl, rfl⟩)
  · intro u hE hd
    have h0 : IsTab u x10_2 [qL [⟨#[49]⟩]] := hd ⟨2, .data⟩ (by simp) rfl
    have h1 : IsFracs u x3_4 (qL [⟨#[49]⟩]) := (Fact.fracs (qL [⟨#[49]⟩])).st _ _ _ hE K1.out
    have h2 : IsFracs u x3_4 (qL [⟨#[49]⟩]) := (Fact.fracs (qL [⟨#[49]⟩])).st _ _ _ hE K1.out
    have h3 : IsFracs u x3_5 ([(⟨#[]⟩, ⟨#[]⟩)]) := (Fact.fracs ([(⟨#[]⟩, ⟨#[]⟩)])).st _ _ _ hE K2.out
    exact lmeasure_ret _ _ _ _ _ _ _ _ _ u h0 h1 h2 h3 (HENV.out.mono (Ext.trans _ _ _ HB.out hE)).tab kx13
  intro x10_6
  go_simp
  refine ro_want (u := .tuple #[frV (.empty, .empty), .int .i64 20]) (by rfl) (fun u hE hd => ?_) ?_
  · have h0 : (x10_6 : Value) = .tuple #[frV (.empty, .empty), .int .i64 20] := hd ⟨6, .data⟩ (by simp) rfl
    subst h0
    go_simp
  go_simp
  refine ro_want (u := frV (.empty, .empty)) (by rfl) (fun u hE hd => ?_) ?_
  · go_simp
  go_simp
  refine ro_want (u := .int .i64 20) (by rfl) (fun u hE hd => ?_) ?_
  · go_simp
  go_simp
  refine ro_done (fun u10 hE hf => ?_)
  replace K1 := Lib.hid ((Fact.fracs (qL [⟨#[49]⟩])).st _ _ _ hE K1.out)
  replace K2 := Lib.hid ((Fact.fracs ([(⟨#[]⟩, ⟨#[]⟩)])).st _ _ _ hE K2.out)
  replace K3 := Lib.hid ((Fact.fracs (qL [⟨#[49]⟩, ⟨#[48]⟩, ⟨#[48]⟩, ⟨#[48]⟩, ⟨#[48]⟩, ⟨#[48]⟩, ⟨#[48]⟩, ⟨#[48]⟩, ⟨#[48]⟩, ⟨#[48]⟩])).st _ _ _ hE K3.out)
  replace K4 := Lib.hid ((Fact.tab (List.replicate 40 (qL [⟨#[49]⟩]))).st _ _ _ hE K4.out)
  replace K5 := Lib.hid ((Fact.fracs (List.replicate 40 (⟨#[49]⟩, ⟨#[49]⟩))).st _ _ _ hE K5.out)
  replace C9 := Lib.hid (C9.out.ext hE)
  replace HB := Lib.hid (Ext.trans _ _ _ HB.out hE)
  clear hf hE
  unfold frV
  go_upto_region 11 with fail
  replace K1 := Lib.hid ((Fact.fracs (qL [⟨#[49]⟩])).st _ _ _ (Ext.alloc u10 (.cells #[.string .empty, .string .empty] 46)) K1.out)
  replace K2 := Lib.hid ((Fact.fracs ([(⟨#[]⟩, ⟨#[]⟩)])).st _ _ _ (Ext.alloc u10 (.cells #[.string .empty, .string .empty] 46)) K2.out)
  replace K3 := Lib.hid ((Fact.fracs (qL [⟨#[49]⟩, ⟨#[48]⟩, ⟨#[48]⟩, ⟨#[48]⟩, ⟨#[48]⟩, ⟨#[48]⟩, ⟨#[48]⟩, ⟨#[48]⟩, ⟨#[48]⟩, ⟨#[48]⟩])).st _ _ _ (Ext.alloc u10 (.cells #[.string .empty, .string .empty] 46)) K3.out)
  replace K4 := Lib.hid ((Fact.tab (List.replicate 40 (qL [⟨#[49]⟩]))).st _ _ _ (Ext.alloc u10 (.cells #[.string .empty, .string .empty] 46)) K4.out)
  replace K5 := Lib.hid ((Fact.fracs (List.replicate 40 (⟨#[49]⟩, ⟨#[49]⟩))).st _ _ _ (Ext.alloc u10 (.cells #[.string .empty, .string .empty] 46)) K5.out)
  replace C9 := Lib.hid (C9.out.ext (Ext.alloc u10 (.cells #[.string .empty, .string .empty] 46)))
  replace HB := Lib.hid (Ext.trans _ _ _ HB.out (Ext.alloc u10 (.cells #[.string .empty, .string .empty] 46)))
  have C10 : Hid (Blk (u10.alloc (.cells #[.string .empty, .string .empty] 46)) u10.heap.size [.string .empty, .string .empty]) := Blk.new' 46 rfl rfl
  generalize u10.alloc (.cells #[.string .empty, .string .empty] 46) = W10 at *
  generalize u10.heap.size = gC10 at *
  refine ro_seq 10 [none, some (.tab [qL [⟨#[49]⟩]]), some (.tab [qL [⟨#[49]⟩]]), none, some (.strs [⟨#[45, 49]⟩]), some (.fracs (qL [⟨#[45, 49]⟩])), some (.val (.tuple #[frV (.empty, .empty), .int .i64 2])), none, none, none] ?_
  go_simp
  refine ro_want (u := x3_4) (by rfl) (fun u hE hd => ?_) ?_
  · go_simp
  go_simp
  apply ro_runw (by rfl)
  · intro u hE hd
    have h0 : IsFracs u x3_4 (qL [⟨#[49]⟩]) := (Fact.fracs (qL [⟨#[49]⟩])).st _ _ _ hE K1.out
    obtain ⟨A0, c0, e0, _⟩ := id h0
    subst e0
    go_simp
    exact ⟨_, _, ⟨rfl, rfl⟩, Ext.alloc _ _, IsTab.one (Blk.new' _ rfl rfl) (h0.mono (Ext.alloc _ _))⟩
  intro x11_1
  go_simp
  apply ro_callw (by rfl) (fun w => by go_simp; exact ⟨rfl, rfl⟩)
  · intro u hE hd
    have h0 : IsTab u x11_1 [qL [⟨#[49]⟩]] := hd ⟨1, .data⟩ (by simp) rfl
    exact rows_any _ _ u h0
  intro x11_2
  go_simp
  refine ro_want (u := x3_4) (by rfl) (fun u hE hd => ?_) ?_
  · go_simp
  go_simp
  apply ro_runw (by rfl)
  · intro u hE hd
    go_simp
    exact ⟨_, _, ⟨rfl, rfl⟩, Ext.alloc _ _, IsStrs.new (l := [⟨#[45, 49]⟩]) (Blk.new' _ rfl rfl) (by decide)⟩
  intro x11_4
  go_simp
  apply ro_callw (by rfl) (fun w => by go_simp; exact ⟨rfl, rfl⟩)
  · intro u hE hd
    have h0 : IsStrs u x11_4 [⟨#[45, 49]⟩] := hd ⟨4, .data⟩ (by simp) rfl
    exact q_ret _ _ u h0 (HENV.out.mono (Ext.trans _ _ _ HB.out hE)) (by decide) (by decide)
  intro x11_5
  go_simp
  apply ro_callw (by rfl) (fun w => by go_simp; exact ⟨rfl, rfl⟩)
  · intro u hE hd
    have h0 : IsTab u x11_2 [qL [⟨#[49]⟩]] := hd ⟨2, .data⟩ (by simp) rfl
    have h1 : IsFracs u x3_4 (qL [⟨#[49]⟩]) := (Fact.fracs (qL [⟨#[49]⟩])).st _ _ _ hE K1.out
    have h2 : IsFracs u x11_5 (qL [⟨#[45, 49]⟩]) := hd ⟨5, .data⟩ (by simp) rfl
    have h3 : IsFracs u (.slice none 0 0) [] := ⟨none, 0, rfl, Nat.le_refl _, Nat.zero_le _, .inl rfl⟩
    exact lmeasure_ret _ _ _ _ _ _ _ _ _ u h0 h1 h2 h3 (HENV.out.mono (Ext.trans _ _ _ HB.out hE)).tab kx14
  intro x11_6
  go_simp
  refine ro_want (u := .tuple #[frV (.empty, .empty), .int .i64 2]) (by rfl) (fun u hE hd => ?_) ?_
  · have h0 : (x11_6 : Value) = .tuple #[frV (.empty, .empty), .int .i64 2] := hd ⟨6, .data⟩ (by simp) rfl
    subst h0
    go_simp
  go_simp
  refine ro_want (u := frV (.empty, .empty)) (by rfl) (fun u hE hd => ?_) ?_
  · go_simp
  go_simp
  refine ro_want (u := .int .i64 2) (by rfl) (fun u hE hd => ?_) ?_
  · go_simp
  go_simp
  refine ro_done (fun u11 hE hf => ?_)
  replace K1 := Lib.hid ((Fact.fracs (qL [⟨#[49]⟩])).st _ _ _ hE K1.out)
  replace K2 := Lib.hid ((Fact.fracs ([(⟨#[]⟩, ⟨#[]⟩)])).st _ _ _ hE K2.out)
  replace K3 := Lib.hid ((Fact.fracs (qL [⟨#[49]⟩, ⟨#[48]⟩, ⟨#[48]⟩, ⟨#[48]⟩, ⟨#[48]⟩, ⟨#[48]⟩, ⟨#[48]⟩, ⟨#[48]⟩, ⟨#[48]⟩, ⟨#[48]⟩])).st _ _ _ hE K3.out)
  replace K4 := Lib.hid ((Fact.tab (List.replicate 40 (qL [⟨#[49]⟩]))).st _ _ _ hE K4.out)
  replace K5 := Lib.hid ((Fact.fracs (List.replicate 40 (⟨#[49]⟩, ⟨#[49]⟩))).st _ _ _ hE K5.out)
  replace C9 := Lib.hid (C9.out.ext hE)
  replace C10 := Lib.hid (C10.out.ext hE)
  replace HB := Lib.hid (Ext.trans _ _ _ HB.out hE)
  clear hf hE
  unfold frV
  go_upto_region 12 with fail
  replace K1 := Lib.hid ((Fact.fracs (qL [⟨#[49]⟩])).st _ _ _ (Ext.alloc u11 (.cells #[.string .empty, .string .empty] 46)) K1.out)
  replace K2 := Lib.hid ((Fact.fracs ([(⟨#[]⟩, ⟨#[]⟩)])).st _ _ _ (Ext.alloc u11 (.cells #[.string .empty, .string .empty] 46)) K2.out)
  replace K3 := Lib.hid ((Fact.fracs (qL [⟨#[49]⟩, ⟨#[48]⟩, ⟨#[48]⟩, ⟨#[48]⟩, ⟨#[48]⟩, ⟨#[48]⟩, ⟨#[48]⟩, ⟨#[48]⟩, ⟨#[48]⟩, ⟨#[48]⟩])).st _ _ _ (Ext.alloc u11 (.cells #[.string .empty, .string .empty] 46)) K3.out)
  replace K4 := Lib.hid ((Fact.tab (List.replicate 40 (qL [⟨#[49]⟩]))).st _ _ _ (Ext.alloc u11 (.cells #[.string .empty, .string .empty] 46)) K4.out)
  replace K5 := Lib.hid ((Fact.fracs (List.replicate 40 (⟨#[49]⟩, ⟨#[49]⟩))).st _ _ _ (Ext.alloc u11 (.cells #[.string .empty, .string .empty] 46)) K5.out)
  replace C9 := Lib.hid (C9.out.ext (Ext.alloc u11 (.cells #[.string .empty, .string .empty] 46)))
  replace C10 := Lib.hid (C10.out.ext (Ext.alloc u11 (.cells #[.string .empty, .string .empty] 46)))
  replace HB := Lib.hid (Ext.trans _ _ _ HB.out (Ext.alloc u11 (.cells #[.string .empty, .string .empty] 46)))
  have C11 : Hid (Blk (u11.alloc (.cells #[.string .empty, .string .empty] 46)) u11.heap.size [.string .empty, .string .empty]) := Blk.new' 46 rfl rfl
  generalize u11.alloc (.cells #[.string .empty, .string .empty] 46) = W11 at *
  generalize u11.heap.size = gC11 at *
  refine ro_seq 10 [none, some (.tab [[(⟨#[]⟩, ⟨#[]⟩)]]), some (.tab [[(⟨#[]⟩, ⟨#[]⟩)]]), none, none, none, some (.val (.tuple #[frV (.empty, .empty), .int .i64 60])), none, none, none] ?_
  go_simp
  refine ro_want (u := x3_5) (by rfl) (fun u hE hd => ?_) ?_
  · go_simp
  go_simp
  apply ro_runw (by rfl)
  · intro u hE hd
    have h0 : IsFracs u x3_5 ([(⟨#[]⟩, ⟨#[]⟩)]) := (Fact.fracs ([(⟨#[]⟩, ⟨#[]⟩)])).st _ _ _ hE K2.out
    obtain ⟨A0, c0, e0, _⟩ := id h0
    subst e0
    go_simp
    exact ⟨_, _, ⟨rfl, rfl⟩, Ext.alloc _ _, IsTab.one (Blk.new' _ rfl rfl) (h0.mono (Ext.alloc _ _))⟩
  intro x12_1
  go_simp
  apply ro_callw (by rfl) (fun w => by go_simp; exact ⟨rfl, rfl⟩)
  · intro u hE hd
    have h0 : IsTab u x12_1 [[(⟨#[]⟩, ⟨#[]⟩)]] := hd ⟨1, .data⟩ (by simp) rfl
    exact rows_any _ _ u h0
  intro x12_2
  go_simp
  refine ro_want (u := x3_5) (by rfl) (fun u hE hd => ?_) ?_
  · go_simp
  go_simp
  refine ro_want (u := x3_5) (by rfl) (fun u hE hd => ?_) ?_
  · go_simp
  go_simp
  refine ro_want (u := x3_5) (by rfl) (fun u hE hd => ?_) ?_
  · go_simp
  go_simp
  apply ro_callw (by rfl) (fun w => by go_simp; exact ⟨rfl, rfl⟩)
  · intro u hE hd
    have h0 : IsTab u x12_2 [[(⟨#[]⟩, ⟨#[]⟩)]] := hd ⟨2, .data⟩ (by simp) rfl
    have h1 : IsFracs u x3_5 ([(⟨#[]⟩, ⟨#[]⟩)]) := (Fact.fracs ([(⟨#[]⟩, ⟨#[]⟩)])).st _ _ _ hE K2.out
    have h2 : IsFracs u x3_5 ([(⟨#[]⟩, ⟨#[]⟩)]) := (Fact.fracs ([(⟨#[]⟩, ⟨#[]⟩)])).st _ _ _ hE K2.out
    have h3 : IsFracs u x3_5 ([(⟨#[]⟩, ⟨#[]⟩)]) := (Fact.fracs ([(⟨#[]⟩, ⟨#[]⟩)])).st _ _ _ hE K2.out
    exact lmeasure_ret _ _ _ _ _ _ _ _ _ u h0 h1 h2 h3 (HENV.out.mono (Ext.trans _ _ _ HB.out hE)).tab kx15
  intro x12_6
  go_simp
  refine ro_want (u := .tuple #[frV (.empty, .empty), .int .i64 60]) (by rfl) (fun u hE hd => ?_) ?_
  · have h0 : (x12_6 : Value) = .tuple #[frV (.empty, .empty), .int .i64 60] := hd ⟨6, .data⟩ (by simp) rfl
    subst h0
    go_simp
  go_simp
  refine ro_want (u := frV (.empty, .empty)) (by rfl) (fun u hE hd => ?_) ?_
  · go_simp
  go_simp
  refine ro_want (u := .int .i64 60) (by rfl) (fun u hE hd => ?_) ?_
  · go_simp
  go_simp
  refine ro_done (fun u12 hE hf => ?_)
  replace K1 := Lib.hid ((Fact.fracs (qL [⟨#[49]⟩])).st _ _ _ hE K1.out)
  replace K2 := Lib.hid ((Fact.fracs ([(⟨#[]⟩, ⟨#[]⟩)])).st _ _ _ hE K2.out)
  replace K3 := Lib.hid ((Fact.fracs (qL [⟨#[49]⟩, ⟨#[48]⟩, ⟨#[48]⟩, ⟨#[48]⟩, ⟨#[48]⟩, ⟨#[48]⟩, ⟨#[48]⟩, ⟨#[48]⟩, ⟨#[48]⟩, ⟨#[48]⟩])).st _ _ _ hE K3.out)
  replace K4 := Lib.hid ((Fact.tab (List.replicate 40 (qL [⟨#[49]⟩]))).st _ _ _ hE K4.out)
  replace K5 := Lib.hid ((Fact.fracs (List.replicate 40 (⟨#[49]⟩, ⟨#[49]⟩))).st _ _ _ hE K5.out)
  replace C9 := Lib.hid (C9.out.ext hE)
  replace C10 := Lib.hid (C10.out.ext hE)
  replace C11 := Lib.hid (C11.out.ext hE)
  replace HB := Lib.hid (Ext.trans _ _ _ HB.out hE)
  clear hf hE
  unfold frV
  go_upto_region 13 with fail
  replace K1 := Lib.hid ((Fact.fracs (qL [⟨#[49]⟩])).st _ _ _ (Ext.alloc u12 (.cells #[.string .empty, .string .empty] 46)) K1.out)
  replace K2 := Lib.hid ((Fact.fracs ([(⟨#[]⟩, ⟨#[]⟩)])).st _ _ _ (Ext.alloc u12 (.cells #[.string .empty, .string .empty] 46)) K2.out)
  replace K3 := Lib.hid ((Fact.fracs (qL [⟨#[49]⟩, ⟨#[48]⟩, ⟨#[48]⟩, ⟨#[48]⟩, ⟨#[48]⟩, ⟨#[48]⟩, ⟨#[48]⟩, ⟨#[48]⟩, ⟨#[48]⟩, ⟨#[48]⟩])).st _ _ _ (Ext.alloc u12 (.cells #[.string .empty, .string .empty] 46)) K3.out)
  replace K4 := Lib.hid ((Fact.tab (List.replicate 40 (qL [⟨#[49]⟩]))).st _ _ _ (Ext.alloc u12 (.cells #[.string .empty, .string .empty] 46)) K4.out)
  replace K5 := Lib.hid ((Fact.fracs (List.replicate 40 (⟨#[49]⟩, ⟨#[49]⟩))).st _ _ _ (Ext.alloc u12 (.cells #[.string .empty, .string .empty] 46)) K5.out)
  replace C9 := Lib.hid (C9.out.ext (Ext.alloc u12 (.cells #[.string .empty, .string .empty] 46)))
  replace C10 := Lib.hid (C10.out.ext (Ext.alloc u12 (.cells #[.string .empty, .string .empty] 46)))
  replace C11 := Lib.hid (C11.out.ext (Ext.alloc u12 (.cells #[.string .empty, .string .empty] 46)))
  replace HB := Lib.hid (Ext.trans _ _ _ HB.out (Ext.alloc u12 (.cells #[.string .empty, .string .empty] 46)))
  have C12 : Hid (Blk (u12.alloc (.cells #[.string .empty, .string .empty] 46)) u12.heap.size [.string .empty, .string .empty]) := Blk.new' 46 rfl rfl
  generalize u12.alloc (.cells #[.string .empty, .string .empty] 46) = W12 at *
  generalize u12.heap.size = gC12 at *
  refine ro_seq 12 [none, some (.tab [qL [⟨#[49]⟩]]), some (.tab [qL [⟨#[49]⟩]]), none, some (.strs [⟨#[48]⟩]), some (.fracs (qL [⟨#[48]⟩])), some (.strs [⟨#[53]⟩]), some (.fracs (qL [⟨#[53]⟩])), some (.val (.tuple #[frV (⟨#[48]⟩, ⟨#[49]⟩), .int .i64 0])), none, none, none] ?_
  go_simp
  refine ro_want (u := x3_4) (by rfl) (fun u hE hd => ?_) ?_
  · go_simp
  go_simp
  apply ro_runw (by rfl)
  · intro u hE hd
    have h0 : IsFracs u x3_4 (qL [⟨#[49]⟩]) := (Fact.fracs (qL [⟨#[49]⟩])).st _ _ _ hE K1.out
    obtain ⟨A0, c0, e0, _⟩ := id h0
    subst e0
    go_simp
    exact ⟨_, _, ⟨rfl, rfl⟩, Ext.alloc _ _, IsTab.one (Blk.new' _ rfl rfl) (h0.mono (Ext.alloc _ _))⟩
  intro x13_1
  go_simp
  apply ro_callw (by rfl) (fun w => by go_simp; exact ⟨rfl, rfl⟩)
  · intro u hE hd
    have h0 : IsTab u x13_1 [qL [⟨#[49]⟩]] := hd ⟨1, .data⟩ (by simp) rfl
    exact rows_any _ _ u h0
  intro x13_2
  go_simp
  refine ro_want (u := x3_4) (by rfl) (fun u hE hd => ?_) ?_
  · go_simp
  go_simp
  apply ro_runw (by rfl)
  · intro u hE hd
    go_simp
    exact ⟨_, _, ⟨rfl, rfl⟩, Ext.alloc _ _, IsStrs.new (l := [⟨#[48]⟩]) (Blk.new' _ rfl rfl) (by decide)⟩
  intro x13_4
  go_simp
  apply ro_callw (by rfl) (fun w => by go_simp; exact ⟨rfl, rfl⟩)
  · intro u hE hd
    have h0 : IsStrs u x13_4 [⟨#[48]⟩] := hd ⟨4, .data⟩ (by simp) rfl
    exact q_ret _ _ u h0 (HENV.out.mono (Ext.trans _ _ _ HB.out hE)) (by decide) (by decide)
  intro x13_5
  go_simp
  apply ro_runw (by rfl)
  · intro u hE hd
    go_simp
    exact ⟨_, _, ⟨rfl, rfl⟩, Ext.alloc _ _, IsStrs.new (l := [⟨#[53]⟩]) (Blk.new' _ rfl rfl) (by decide)⟩
  intro x13_6
  go_simp
  apply ro_callw (by rfl) (fun w => by go_simp; exact ⟨rfl, rfl⟩)
  · intro u hE hd
    have h0 : IsStrs u x13_6 [⟨#[53]⟩] := hd ⟨6, .data⟩ (by simp) rfl
    exact q_ret _ _ u h0 (HENV.out.mono (Ext.trans _ _ _ HB.out hE)) (by decide) (by decide)
  intro x13_7
  go_simp
  apply ro_callw (by rfl) (fun w => by go_simp; exact ⟨rfl, rfl⟩)
  · intro u hE hd
    have h0 : IsTab u x13_2 [qL [⟨#[49]⟩]] := hd ⟨2, .data⟩ (by simp) rfl
    have h1 : IsFracs u x3_4 (qL [⟨#[49]⟩]) := (Fact.fracs (qL [⟨#[49]⟩])).st _ _ _ hE K1.out
    have h2 : IsFracs u x13_5 (qL [⟨#[48]⟩]) := hd ⟨5, .data⟩ (by simp) rfl
    have h3 : IsFracs u x13_7 (qL [⟨#[53]⟩]) := hd ⟨7, .data⟩ (by simp) rfl
    exact lmeasure_ret _ _ _ _ _ _ _ _ _ u h0 h1 h2 h3 (HENV.out.mono (Ext.trans _ _ _ HB.out hE)).tab kx16
  intro x13_8
  go_simp
  refine ro_want (u := .tuple #[frV (⟨#[48]⟩, ⟨#[49]⟩), .int .i64 0]) (by rfl) (fun u hE hd => ?_) ?_
  · have h0 : (x13_8 : Value) = .tuple #[frV (⟨#[48]⟩, ⟨#[49]⟩), .int .i64 0] := hd ⟨8, .data⟩ (by simp) rfl
    subst h0
    go_simp
  go_simp
  refine ro_want (u := frV (⟨#[48]⟩, ⟨#[49]⟩)) (by rfl) (fun u hE hd => ?_) ?_
  · go_simp
  go_simp
  refine ro_want (u := .int .i64 0) (by rfl) (fun u hE hd => ?_) ?_
  · go_simp
  go_simp
  refine ro_done (fun u13 hE hf => ?_)
  replace K1 := Lib.hid ((Fact.fracs (qL [⟨#[49]⟩])).st _ _ _ hE K1.out)
  replace K2 := Lib.hid ((Fact.fracs ([(⟨#[]⟩, ⟨#[]⟩)])).st _ _ _ hE K2.out)
  replace K3 := Lib.hid ((Fact.fracs (qL [⟨#[49]⟩, ⟨#[48]⟩, ⟨#[48]⟩, ⟨#[48]⟩, ⟨#[48]⟩, ⟨#[48]⟩, ⟨#[48]⟩, ⟨#[48]⟩, ⟨#[48]⟩, ⟨#[48]⟩])).st _ _ _ hE K3.out)
  replace K4 := Lib.hid ((Fact.tab (List.replicate 40 (qL [⟨#[49]⟩]))).st _ _ _ hE K4.out)
  replace K5 := Lib.hid ((Fact.fracs (List.replicate 40 (⟨#[49]⟩, ⟨#[49]⟩))).st _ _ _ hE K5.out)
  replace C9 := Lib.hid (C9.out.ext hE)
  replace C10 := Lib.hid (C10.out.ext hE)
  replace C11 := Lib.hid (C11.out.ext hE)
  replace C12 := Lib.hid (C12.out.ext hE)
  replace HB := Lib.hid (Ext.trans _ _ _ HB.out hE)
  clear hf hE
  unfold frV
  go_upto_region 14 with fail
  replace K1 := Lib.hid ((Fact.fracs (qL [⟨#[49]⟩])).st _ _ _ (Ext.alloc u13 (.cells #[.string ⟨#[48]⟩, .string ⟨#[49]⟩] 46)) K1.out)
  replace K2 := Lib.hid ((Fact.fracs ([(⟨#[]⟩, ⟨#[]⟩)])).st _ _ _ (Ext.alloc u13 (.cells #[.string ⟨#[48]⟩, .string ⟨#[49]⟩] 46)) K2.out)
  replace K3 := Lib.hid ((Fact.fracs (qL [⟨#[49]⟩, ⟨#[48]⟩, ⟨#[48]⟩, ⟨#[48]⟩, ⟨#[48]⟩, ⟨#[48]⟩, ⟨#[48]⟩, ⟨#[48]⟩, ⟨#[48]⟩, ⟨#[48]⟩])).st _ _ _ (Ext.alloc u13 (.cells #[.string ⟨#[48]⟩, .string ⟨#[49]⟩] 46)) K3.out)
  replace K4 := Lib.hid ((Fact.tab (List.replicate 40 (qL [⟨#[49]⟩]))).st _ _ _ (Ext.alloc u13 (.cells #[.string ⟨#[48]⟩, .string ⟨#[49]⟩] 46)) K4.out)
  replace K5 := Lib.hid ((Fact.fracs (List.replicate 40 (⟨#[49]⟩, ⟨#[49]⟩))).st _ _ _ (Ext.alloc u13 (.cells #[.string ⟨#[48]⟩, .string ⟨#[49]⟩] 46)) K5.out)
  replace C9 := Lib.hid (C9.out.ext (Ext.alloc u13 (.cells #[.string ⟨#[48]⟩, .string ⟨#[49]⟩] 46)))
  replace C10 := Lib.hid (C10.out.ext (Ext.alloc u13 (.cells #[.string ⟨#[48]⟩, .string ⟨#[49]⟩] 46)))
  replace C11 := Lib.hid (C11.out.ext (Ext.alloc u13 (.cells #[.string ⟨#[48]⟩, .string ⟨#[49]⟩] 46)))
  replace C12 := Lib.hid (C12.out.ext (Ext.alloc u13 (.cells #[.string ⟨#[48]⟩, .string ⟨#[49]⟩] 46)))
  replace HB := Lib.hid (Ext.trans _ _ _ HB.out (Ext.alloc u13 (.cells #[.string ⟨#[48]⟩, .string ⟨#[49]⟩] 46)))
  have C13 : Hid (Blk (u13.alloc (.cells #[.string ⟨#[48]⟩, .string ⟨#[49]⟩] 46)) u13.heap.size [.string ⟨#[48]⟩, .string ⟨#[49]⟩]) := Blk.new' 46 rfl rfl
  generalize u13.alloc (.cells #[.string ⟨#[48]⟩, .string ⟨#[49]⟩] 46) = W13 at *
  generalize u13.heap.size = gC13 at *
  have X17 : Hid (∀ u, Ext W13 u → u.cell? ⟨gC13, 0, none⟩ = some (.string ⟨#[48]⟩) ∧ u.cell? ⟨gC13, 1, none⟩ = some (.string ⟨#[49]⟩)) := fun u hE => ⟨(C13.out.ext hE).cell 0, (C13.out.ext hE).cell 1⟩
  refine swap_ops (ops' := ops14.1) (by kernel_rfl) ?_
  refine kn14 w W13 x3_4 x3_5 x4_2 x5_4 x6_2 x3_0 x3_1 x3_3 x4_0 x4_1 x5_1 x5_2 x5_3 x6_1 x7_1 x7_2 x7_3 x7_7 x7_9 x7_10 x7_11 x7_12 x7_17 x7_22 x7_24 x7_25 x7_26 x7_30 x7_31 x7_32 x7_37 x7_38 x7_39 x7_43 x7_44 x7_48 x7_49 x7_51 x7_54 x7_56 x7_59 x7_62 x7_64 x7_65 x7_66 x7_69 x8_1 x8_2 x8_3 x9_1 x9_2 x9_5 x10_1 x10_2 x10_6 x11_1 x11_2 x11_4 x11_5 x11_6 x12_1 x12_2 x12_6 x13_1 x13_2 x13_4 x13_5 x13_6 x13_7 x13_8 gC9 gC10 gC11 gC12 gC13 HENV HB K1 K2 K3 K4 K5 X17 _ (Lib.hid ?_)
  intro u14 x14_23 x14_24 x14_25 x14_34 x14_36 x14_37 x14_39 x14_42 x14_44 x14_45 x14_47 x14_48 x14_50 x14_53 x14_55 x14_56 x14_57 x14_58 x14_60 x14_63 x14_66 x14_67 x14_68 x14_69 x14_70 x14_71 x14_73 x14_76 x14_77 x14_78 x14_79 x14_80 x14_81 x14_82 x14_83 x14_84 x14_86 x14_89 x14_90 x14_91 x14_92 x14_93 x14_94 x14_95 x14_96 x14_97 x14_98 x14_100 x14_103 x14_104 x14_105 x14_106 x14_107 x14_108 x14_109 x14_110 x14_111 x14_112 x14_113 x14_114 x14_116 hE
  clear X17
  replace K1 := Lib.hid ((Fact.fracs (qL [⟨#[49]⟩])).st _ _ _ hE K1.out)
  replace K2 := Lib.hid ((Fact.fracs ([(⟨#[]⟩, ⟨#[]⟩)])).st _ _ _ hE K2.out)
  replace K3 := Lib.hid ((Fact.fracs (qL [⟨#[49]⟩, ⟨#[48]⟩, ⟨#[48]⟩, ⟨#[48]⟩, ⟨#[48]⟩, ⟨#[48]⟩, ⟨#[48]⟩, ⟨#[48]⟩, ⟨#[48]⟩, ⟨#[48]⟩])).st _ _ _ hE K3.out)
  replace K4 := Lib.hid ((Fact.tab (List.replicate 40 (qL [⟨#[49]⟩]))).st _ _ _ hE K4.out)
  replace K5 := Lib.hid ((Fact.fracs (List.replicate 40 (⟨#[49]⟩, ⟨#[49]⟩))).st _ _ _ hE K5.out)
  replace C9 := Lib.hid (C9.out.ext hE)
  replace C10 := Lib.hid (C10.out.ext hE)
  replace C11 := Lib.hid (C11.out.ext hE)
  replace C12 := Lib.hid (C12.out.ext hE)
  replace C13 := Lib.hid (C13.out.ext hE)
  replace HB := Lib.hid (Ext.trans _ _ _ HB.out hE)
  clear hE
  go_upto_region 15 with fail
  refine swap_ops (ops' := ops15.1) (by kernel_rfl) ?_
  refine kn15 w u14 x3_4 x3_5 x4_2 x5_4 x6_2 x3_0 x3_1 x3_3 x4_0 x4_1 x5_1 x5_2 x5_3 x6_1 x7_1 x7_2 x7_3 x7_7 x7_9 x7_10 x7_11 x7_12 x7_17 x7_22 x7_24 x7_25 x7_26 x7_30 x7_31 x7_32 x7_37 x7_38 x7_39 x7_43 x7_44 x7_48 x7_49 x7_51 x7_54 x7_56 x7_59 x7_62 x7_64 x7_65 x7_66 x7_69 x8_1 x8_2 x8_3 x9_1 x9_2 x9_5 x10_1 x10_2 x10_6 x11_1 x11_2 x11_4 x11_5 x11_6 x12_1 x12_2 x12_6 x13_1 x13_2 x13_4 x13_5 x13_6 x13_7 x13_8 x14_23 x14_24 x14_25 x14_34 x14_36 x14_37 x14_39 x14_42 x14_44 x14_45 x14_47 x14_48 x14_50 x14_53 x14_55 x14_56 x14_57 x14_58 x14_60 x14_63 x14_66 x14_67 x14_68 x14_69 x14_70 x14_71 x14_73 x14_76 x14_77 x14_78 x14_79 x14_80 x14_81 x14_82 x14_83 x14_84 x14_86 x14_89 x14_90 x14_91 x14_92 x14_93 x14_94 x14_95 x14_96 x14_97 x14_98 x14_100 x14_103 x14_104 x14_105 x14_106 x14_107 x14_108 x14_109 x14_110 x14_111 x14_112 x14_113 x14_114 x14_116 gC9 gC10 gC11 gC12 gC13 HENV HB K1 K2 K3 K4 K5 _ (Lib.hid ?_)
  intro u15 x15_2 x15_4 x15_5 x15_7 x15_8 x15_9 x15_10 x15_12 x15_15 x15_17 x15_18 x15_20 x15_21 x15_22 x15_23 x15_25 x15_28 x15_30 x15_31 x15_32 x15_33 x15_35 x15_36 x15_38 x15_41 x15_43 x15_44 x15_46 x15_47 x15_49 x15_52 x15_54 x15_55 x15_58 x15_59 x15_61 x15_64 x15_66 x15_67 x15_69 x15_70 x15_72 hE
  replace K1 := Lib.hid ((Fact.fracs (qL [⟨#[49]⟩])).st _ _ _ hE K1.out)
  replace K2 := Lib.hid ((Fact.fracs ([(⟨#[]⟩, ⟨#[]⟩)])).st _ _ _ hE K2.out)
  replace K3 := Lib.hid ((Fact.fracs (qL [⟨#[49]⟩, ⟨#[48]⟩, ⟨#[48]⟩, ⟨#[48]⟩, ⟨#[48]⟩, ⟨#[48]⟩, ⟨#[48]⟩, ⟨#[48]⟩, ⟨#[48]⟩, ⟨#[48]⟩])).st _ _ _ hE K3.out)
  replace K4 := Lib.hid ((Fact.tab (List.replicate 40 (qL [⟨#[49]⟩]))).st _ _ _ hE K4.out)
  replace K5 := Lib.hid ((Fact.fracs (List.replicate 40 (⟨#[49]⟩, ⟨#[49]⟩))).st _ _ _ hE K5.out)
  replace C9 := Lib.hid (C9.out.ext hE)
  replace C10 := Lib.hid (C10.out.ext hE)
  replace C11 := Lib.hid (C11.out.ext hE)
  replace C12 := Lib.hid (C12.out.ext hE)
  replace C13 := Lib.hid (C13.out.ext hE)
  replace HB := Lib.hid (Ext.trans _ _ _ HB.out hE)
  clear hE
  go_upto_region 16 with fail
  refine ro_seq 2 [some (.val (.string nines)), none] ?_
  go_simp
  apply ro_callw (by rfl) (fun w => by go_simp; exact ⟨rfl, rfl⟩)
  · intro u hE hd
    exact nines_ret u
  intro x16_0
  go_simp
  refine ro_want (u := frV (nines, ⟨#[49]⟩)) (by rfl) (fun u hE hd => ?_) ?_
  · have h0 : (x16_0 : Value) = .string nines := hd ⟨0, .data⟩ (by simp) rfl
    subst h0
    unfold frV; go_simp
  go_simp
  refine ro_done (fun u16 hE hf => ?_)
  replace K1 := Lib.hid ((Fact.fracs (qL [⟨#[49]⟩])).st _ _ _ hE K1.out)
  replace K2 := Lib.hid ((Fact.fracs ([(⟨#[]⟩, ⟨#[]⟩)])).st _ _ _ hE K2.out)
  replace K3 := Lib.hid ((Fact.fracs (qL [⟨#[49]⟩, ⟨#[48]⟩, ⟨#[48]⟩, ⟨#[48]⟩, ⟨#[48]⟩, ⟨#[48]⟩, ⟨#[48]⟩, ⟨#[48]⟩, ⟨#[48]⟩, ⟨#[48]⟩])).st _ _ _ hE K3.out)
  replace K4 := Lib.hid ((Fact.tab (List.replicate 40 (qL [⟨#[49]⟩]))).st _ _ _ hE K4.out)
  replace K5 := Lib.hid ((Fact.fracs (List.replicate 40 (⟨#[49]⟩, ⟨#[49]⟩))).st _ _ _ hE K5.out)
  replace C9 := Lib.hid (C9.out.ext hE)
  replace C10 := Lib.hid (C10.out.ext hE)
  replace C11 := Lib.hid (C11.out.ext hE)
  replace C12 := Lib.hid (C12.out.ext hE)
  replace C13 := Lib.hid (C13.out.ext hE)
  replace HB := Lib.hid (Ext.trans _ _ _ HB.out hE)
  clear hf hE
  unfold frV
  go_upto_region 17 with fail
  replace K1 := Lib.hid ((Fact.fracs (qL [⟨#[49]⟩])).st _ _ _ (Ext.alloc u16 (.cells #[.string nines, .string ⟨#[49]⟩] 46)) K1.out)
  replace K2 := Lib.hid ((Fact.fracs ([(⟨#[]⟩, ⟨#[]⟩)])).st _ _ _ (Ext.alloc u16 (.cells #[.string nines, .string ⟨#[49]⟩] 46)) K2.out)
  replace K3 := Lib.hid ((Fact.fracs (qL [⟨#[49]⟩, ⟨#[48]⟩, ⟨#[48]⟩, ⟨#[48]⟩, ⟨#[48]⟩, ⟨#[48]⟩, ⟨#[48]⟩, ⟨#[48]⟩, ⟨#[48]⟩, ⟨#[48]⟩])).st _ _ _ (Ext.alloc u16 (.cells #[.string nines, .string ⟨#[49]⟩] 46)) K3.out)
  replace K4 := Lib.hid ((Fact.tab (List.replicate 40 (qL [⟨#[49]⟩]))).st _ _ _ (Ext.alloc u16 (.cells #[.string nines, .string ⟨#[49]⟩] 46)) K4.out)
  replace K5 := Lib.hid ((Fact.fracs (List.replicate 40 (⟨#[49]⟩, ⟨#[49]⟩))).st _ _ _ (Ext.alloc u16 (.cells #[.string nines, .string ⟨#[49]⟩] 46)) K5.out)
  replace C9 := Lib.hid (C9.out.ext (Ext.alloc u16 (.cells #[.string nines, .string ⟨#[49]⟩] 46)))
  replace C10 := Lib.hid (C10.out.ext (Ext.alloc u16 (.cells #[.string nines, .string ⟨#[49]⟩] 46)))
  replace C11 := Lib.hid (C11.out.ext (Ext.alloc u16 (.cells #[.string nines, .string ⟨#[49]⟩] 46)))
  replace C12 := Lib.hid (C12.out.ext (Ext.alloc u16 (.cells #[.string nines, .string ⟨#[49]⟩] 46)))
  replace C13 := Lib.hid (C13.out.ext (Ext.alloc u16 (.cells #[.string nines, .string ⟨#[49]⟩] 46)))
  replace HB := Lib.hid (Ext.trans _ _ _ HB.out (Ext.alloc u16 (.cells #[.string nines, .string ⟨#[49]⟩] 46)))
  have C16 : Hid (Blk (u16.alloc (.cells #[.string nines, .string ⟨#[49]⟩] 46)) u16.heap.size [.string nines, .string ⟨#[49]⟩]) := Blk.new' 46 rfl rfl
  generalize u16.alloc (.cells #[.string nines, .string ⟨#[49]⟩] 46) = W16 at *
  generalize u16.heap.size = gC16 at *
  have c17 := C16.out.cell 0
  have d17 := C16.out.cell 1
  simp only [List.getElem?_cons_zero, List.getElem?_cons_succ] at c17 d17
  go_upto_region 18 with fail
  replace K1 := Lib.hid ((Fact.fracs (qL [⟨#[49]⟩])).st _ _ _ (Ext.alloc W16 (.cells #[.string ⟨#[49]⟩, .string nines] 46)) K1.out)
  replace K2 := Lib.hid ((Fact.fracs ([(⟨#[]⟩, ⟨#[]⟩)])).st _ _ _ (Ext.alloc W16 (.cells #[.string ⟨#[49]⟩, .string nines] 46)) K2.out)
  replace K3 := Lib.hid ((Fact.fracs (qL [⟨#[49]⟩, ⟨#[48]⟩, ⟨#[48]⟩, ⟨#[48]⟩, ⟨#[48]⟩, ⟨#[48]⟩, ⟨#[48]⟩, ⟨#[48]⟩, ⟨#[48]⟩, ⟨#[48]⟩])).st _ _ _ (Ext.alloc W16 (.cells #[.string ⟨#[49]⟩, .string nines] 46)) K3.out)
  replace K4 := Lib.hid ((Fact.tab (List.replicate 40 (qL [⟨#[49]⟩]))).st _ _ _ (Ext.alloc W16 (.cells #[.string ⟨#[49]⟩, .string nines] 46)) K4.out)
  replace K5 := Lib.hid ((Fact.fracs (List.replicate 40 (⟨#[49]⟩, ⟨#[49]⟩))).st _ _ _ (Ext.alloc W16 (.cells #[.string ⟨#[49]⟩, .string nines] 46)) K5.out)
  replace C9 := Lib.hid (C9.out.ext (Ext.alloc W16 (.cells #[.string ⟨#[49]⟩, .string nines] 46)))
  replace C10 := Lib.hid (C10.out.ext (Ext.alloc W16 (.cells #[.string ⟨#[49]⟩, .string nines] 46)))
  replace C11 := Lib.hid (C11.out.ext (Ext.alloc W16 (.cells #[.string ⟨#[49]⟩, .string nines] 46)))
  replace C12 := Lib.hid (C12.out.ext (Ext.alloc W16 (.cells #[.string ⟨#[49]⟩, .string nines] 46)))
  replace C13 := Lib.hid (C13.out.ext (Ext.alloc W16 (.cells #[.string ⟨#[49]⟩, .string nines] 46)))
  replace C16 := Lib.hid (C16.out.ext (Ext.alloc W16 (.cells #[.string ⟨#[49]⟩, .string nines] 46)))
  replace HB := Lib.hid (Ext.trans _ _ _ HB.out (Ext.alloc W16 (.cells #[.string ⟨#[49]⟩, .string nines] 46)))
  have C17 : Hid (Blk (W16.alloc (.cells #[.string ⟨#[49]⟩, .string nines] 46)) W16.heap.size [.string ⟨#[49]⟩, .string nines]) := Blk.new' 46 rfl rfl
  generalize W16.alloc (.cells #[.string ⟨#[49]⟩, .string nines] 46) = W17 at *
  generalize W16.heap.size = gC17 at *
  clear c17 d17
  have X19 : Hid (∀ u, Ext W17 u → u.cell? ⟨gC16, 0, none⟩ = some (.string nines) ∧ u.cell? ⟨gC16, 1, none⟩ = some (.string ⟨#[49]⟩)) := fun u hE => ⟨(C16.out.ext hE).cell 0, (C16.out.ext hE).cell 1⟩
  refine ro_seq 12 [none, some (.fracs ([(nines, ⟨#[49]⟩)])), some (.tab [[(nines, ⟨#[49]⟩)]]), some (.tab [[(nines, ⟨#[49]⟩)]]), none, none, some (.strs [⟨#[50]⟩]), some (.fracs (qL [⟨#[50]⟩])), some (.val (.tuple #[frV (.empty, .empty), .int .i64 6])), none, none, none] ?_
  go_simp
  refine ro_want (u := frV (nines, ⟨#[49]⟩)) (by rfl) (fun u hE hd => ?_) ?_
  · have hX := X19.out _ hE
    unfold frV
    go_simp
  go_simp
  apply ro_runw (by rfl)
  · intro u hE hd
    unfold frV
    go_simp
    exact ⟨_, _, ⟨rfl, rfl⟩, Ext.alloc _ _, IsFracs.one (x := (nines, ⟨#[49]⟩)) (Blk.new' _ rfl rfl)⟩
  intro x18_1
  go_simp
  apply ro_runw (by rfl)
  · intro u hE hd
    have h0 : IsFracs u x18_1 ([(nines, ⟨#[49]⟩)]) := hd ⟨1, .data⟩ (by simp) rfl
    obtain ⟨A0, c0, e0, _⟩ := id h0
    subst e0
    go_simp
    exact ⟨_, _, ⟨rfl, rfl⟩, Ext.alloc _ _, IsTab.one (Blk.new' _ rfl rfl) (h0.mono (Ext.alloc _ _))⟩
  intro x18_2
  go_simp
  apply ro_callw (by rfl) (fun w => by go_simp; exact ⟨rfl, rfl⟩)
  · intro u hE hd
    have h0 : IsTab u x18_2 [[(nines, ⟨#[49]⟩)]] := hd ⟨2, .data⟩ (by simp) rfl
    exact rows_any _ _ u h0
  intro x18_3
  go_simp
  refine ro_want (u := x3_4) (by rfl) (fun u hE hd => ?_) ?_
  · go_simp
  go_simp
  refine ro_want (u := x3_4) (by rfl) (fun u hE hd => ?_) ?_
  · go_simp
  go_simp
  apply ro_runw (by rfl)
  · intro u hE hd
    go_simp
    exact ⟨_, _, ⟨rfl, rfl⟩, Ext.alloc _ _, IsStrs.new (l := [⟨#[50]⟩]) (Blk.new' _ rfl rfl) (by decide)⟩
  intro x18_6
  go_simp
  apply ro_callw (by rfl) (fun w => by go_simp; exact ⟨rfl, rfl⟩)
  · intro u hE hd
    have h0 : IsStrs u x18_6 [⟨#[50]⟩] := hd ⟨6, .data⟩ (by simp) rfl
    exact q_ret _ _ u h0 (HENV.out.mono (Ext.trans _ _ _ HB.out hE)) (by decide) (by decide)
  intro x18_7
  go_simp
  apply ro_callw (by rfl) (fun w => by go_simp; exact ⟨rfl, rfl⟩)
  · intro u hE hd
    have h0 : IsTab u x18_3 [[(nines, ⟨#[49]⟩)]] := hd ⟨3, .data⟩ (by simp) rfl
    have h1 : IsFracs u x3_4 (qL [⟨#[49]⟩]) := (Fact.fracs (qL [⟨#[49]⟩])).st _ _ _ hE K1.out
    have h2 : IsFracs u x3_4 (qL [⟨#[49]⟩]) := (Fact.fracs (qL [⟨#[49]⟩])).st _ _ _ hE K1.out
    have h3 : IsFracs u x18_7 (qL [⟨#[50]⟩]) := hd ⟨7, .data⟩ (by simp) rfl
    exact lmeasure_ret _ _ _ _ _ _ _ _ _ u h0 h1 h2 h3 (HENV.out.mono (Ext.trans _ _ _ HB.out hE)).tab kx36
  intro x18_8
  go_simp
  refine ro_want (u := .tuple #[frV (.empty, .empty), .int .i64 6]) (by rfl) (fun u hE hd => ?_) ?_
  · have h0 : (x18_8 : Value) = .tuple #[frV (.empty, .empty), .int .i64 6] := hd ⟨8, .data⟩ (by simp) rfl
    subst h0
    go_simp
  go_simp
  refine ro_want (u := frV (.empty, .empty)) (by rfl) (fun u hE hd => ?_) ?_
  · go_simp
  go_simp
  refine ro_want (u := .int .i64 6) (by rfl) (fun u hE hd => ?_) ?_
  · go_simp
  go_simp
  refine ro_done (fun u18 hE hf => ?_)
  replace K1 := Lib.hid ((Fact.fracs (qL [⟨#[49]⟩])).st _ _ _ hE K1.out)
  replace K2 := Lib.hid ((Fact.fracs ([(⟨#[]⟩, ⟨#[]⟩)])).st _ _ _ hE K2.out)
  replace K3 := Lib.hid ((Fact.fracs (qL [⟨#[49]⟩, ⟨#[48]⟩, ⟨#[48]⟩, ⟨#[48]⟩, ⟨#[48]⟩, ⟨#[48]⟩, ⟨#[48]⟩, ⟨#[48]⟩, ⟨#[48]⟩, ⟨#[48]⟩])).st _ _ _ hE K3.out)
  replace K4 := Lib.hid ((Fact.tab (List.replicate 40 (qL [⟨#[49]⟩]))).st _ _ _ hE K4.out)
  replace K5 := Lib.hid ((Fact.fracs (List.replicate 40 (⟨#[49]⟩, ⟨#[49]⟩))).st _ _ _ hE K5.out)
  replace C9 := Lib.hid (C9.out.ext hE)
  replace C10 := Lib.hid (C10.out.ext hE)
  replace C11 := Lib.hid (C11.out.ext hE)
  replace C12 := Lib.hid (C12.out.ext hE)
  replace C13 := Lib.hid (C13.out.ext hE)
  replace C16 := Lib.hid (C16.out.ext hE)
  replace C17 := Lib.hid (C17.out.ext hE)
  replace HB := Lib.hid (Ext.trans _ _ _ HB.out hE)
  clear hf hE
  clear X19
  unfold frV
  go_upto_region 19 with fail
  replace K1 := Lib.hid ((Fact.fracs (qL [⟨#[49]⟩])).st _ _ _ (Ext.alloc u18 (.cells #[.string .empty, .string .empty] 46)) K1.out)
  replace K2 := Lib.hid ((Fact.fracs ([(⟨#[]⟩, ⟨#[]⟩)])).st _ _ _ (Ext.alloc u18 (.cells #[.string .empty, .string .empty] 46)) K2.out)
  replace K3 := Lib.hid ((Fact.fracs (qL [⟨#[49]⟩, ⟨#[48]⟩, ⟨#[48]⟩, ⟨#[48]⟩, ⟨#[48]⟩, ⟨#[48]⟩, ⟨#[48]⟩, ⟨#[48]⟩, ⟨#[48]⟩, ⟨#[48]⟩])).st _ _ _ (Ext.alloc u18 (.cells #[.string .empty, .string .empty] 46)) K3.out)
  replace K4 := Lib.hid ((Fact.tab (List.replicate 40 (qL [⟨#[49]⟩]))).st _ _ _ (Ext.alloc u18 (.cells #[.string .empty, .string .empty] 46)) K4.out)
  replace K5 := Lib.hid ((Fact.fracs (List.replicate 40 (⟨#[49]⟩, ⟨#[49]⟩))).st _ _ _ (Ext.alloc u18 (.cells #[.string .empty, .string .empty] 46)) K5.out)
  replace C9 := Lib.hid (C9.out.ext (Ext.alloc u18 (.cells #[.string .empty, .string .empty] 46)))
  replace C10 := Lib.hid (C10.out.ext (Ext.alloc u18 (.cells #[.string .empty, .string .empty] 46)))
  replace C11 := Lib.hid (C11.out.ext (Ext.alloc u18 (.cells #[.string .empty, .string .empty] 46)))
  replace C12 := Lib.hid (C12.out.ext (Ext.alloc u18 (.cells #[.string .empty, .string .empty] 46)))
  replace C13 := Lib.hid (C13.out.ext (Ext.alloc u18 (.cells #[.string .empty, .string .empty] 46)))
  replace C16 := Lib.hid (C16.out.ext (Ext.alloc u18 (.cells #[.string .empty, .string .empty] 46)))
  replace C17 := Lib.hid (C17.out.ext (Ext.alloc u18 (.cells #[.string .empty, .string .empty] 46)))
  replace HB := Lib.hid (Ext.trans _ _ _ HB.out (Ext.alloc u18 (.cells #[.string .empty, .string .empty] 46)))
  have C18 : Hid (Blk (u18.alloc (.cells #[.string .empty, .string .empty] 46)) u18.heap.size [.string .empty, .string .empty]) := Blk.new' 46 rfl rfl
  generalize u18.alloc (.cells #[.string .empty, .string .empty] 46) = W18 at *
  generalize u18.heap.size = gC18 at *
  have X19 : Hid (∀ u, Ext W18 u → u.cell? ⟨gC16, 0, none⟩ = some (.string nines) ∧ u.cell? ⟨gC16, 1, none⟩ = some (.string ⟨#[49]⟩)) := fun u hE => ⟨(C16.out.ext hE).cell 0, (C16.out.ext hE).cell 1⟩
  have X20 : Hid (∀ u, Ext W18 u → u.cell? ⟨gC17, 0, none⟩ = some (.string ⟨#[49]⟩) ∧ u.cell? ⟨gC17, 1, none⟩ = some (.string nines)) := fun u hE => ⟨(C17.out.ext hE).cell 0, (C17.out.ext hE).cell 1⟩
  refine swap_ops (ops' := ops19.1) (by kernel_rfl) ?_
  refine kn19 w W18 x3_4 x3_5 x4_2 x5_4 x6_2 x3_0 x3_1 x3_3 x4_0 x4_1 x5_1 x5_2 x5_3 x6_1 x7_1 x7_2 x7_3 x7_7 x7_9 x7_10 x7_11 x7_12 x7_17 x7_22 x7_24 x7_25 x7_26 x7_30 x7_31 x7_32 x7_37 x7_38 x7_39 x7_43 x7_44 x7_48 x7_49 x7_51 x7_54 x7_56 x7_59 x7_62 x7_64 x7_65 x7_66 x7_69 x8_1 x8_2 x8_3 x9_1 x9_2 x9_5 x10_1 x10_2 x10_6 x11_1 x11_2 x11_4 x11_5 x11_6 x12_1 x12_2 x12_6 x13_1 x13_2 x13_4 x13_5 x13_6 x13_7 x13_8 x14_23 x14_24 x14_25 x14_34 x14_36 x14_37 x14_39 x14_42 x14_44 x14_45 x14_47 x14_48 x14_50 x14_53 x14_55 x14_56 x14_57 x14_58 x14_60 x14_63 x14_66 x14_67 x14_68 x14_69 x14_70 x14_71 x14_73 x14_76 x14_77 x14_78 x14_79 x14_80 x14_81 x14_82 x14_83 x14_84 x14_86 x14_89 x14_90 x14_91 x14_92 x14_93 x14_94 x14_95 x14_96 x14_97 x14_98 x14_100 x14_103 x14_104 x14_105 x14_106 x14_107 x14_108 x14_109 x14_110 x14_111 x14_112 x14_113 x14_114 x14_116 x15_2 x15_4 x15_5 x15_7 x15_8 x15_9 x15_10 x15_12 x15_15 x15_17 x15_18 x15_20 x15_21 x15_22 x15_23 x15_25 x15_28 x15_30 x15_31 x15_32 x15_33 x15_35 x15_36 x15_38 x15_41 x15_43 x15_44 x15_46 x15_47 x15_49 x15_52 x15_54 x15_55 x15_58 x15_59 x15_61 x15_64 x15_66 x15_67 x15_69 x15_70 x15_72 x16_0 x18_1 x18_2 x18_3 x18_6 x18_7 x18_8 gC9 gC10 gC11 gC12 gC13 gC16 gC17 gC18 HENV HB K1 K2 K3 K4 K5 X19 X20 _ (Lib.hid ?_)
  intro u19 x19_1 x19_7 x19_9 x19_10 x19_11 x19_12 x19_13 x19_14 x19_15 x19_17 x19_20 x19_21 x19_23 x19_24 x19_25 x19_27 x19_29 x19_30 x19_32 x19_39 x19_40 x19_41 x19_42 x19_43 x19_44 x19_45 x19_46 x19_47 x19_48 x19_49 x19_50 x19_53 hE
  clear X19
  clear X20
  replace K1 := Lib.hid ((Fact.fracs (qL [⟨#[49]⟩])).st _ _ _ hE K1.out)
  replace K2 := Lib.hid ((Fact.fracs ([(⟨#[]⟩, ⟨#[]⟩)])).st _ _ _ hE K2.out)
  replace K3 := Lib.hid ((Fact.fracs (qL [⟨#[49]⟩, ⟨#[48]⟩, ⟨#[48]⟩, ⟨#[48]⟩, ⟨#[48]⟩, ⟨#[48]⟩, ⟨#[48]⟩, ⟨#[48]⟩, ⟨#[48]⟩, ⟨#[48]⟩])).st _ _ _ hE K3.out)
  replace K4 := Lib.hid ((Fact.tab (List.replicate 40 (qL [⟨#[49]⟩]))).st _ _ _ hE K4.out)
  replace K5 := Lib.hid ((Fact.fracs (List.replicate 40 (⟨#[49]⟩, ⟨#[49]⟩))).st _ _ _ hE K5.out)
  replace C9 := Lib.hid (C9.out.ext hE)
  replace C10 := Lib.hid (C10.out.ext hE)
  replace C11 := Lib.hid (C11.out.ext hE)
  replace C12 := Lib.hid (C12.out.ext hE)
  replace C13 := Lib.hid (C13.out.ext hE)
  replace C16 := Lib.hid (C16.out.ext hE)
  replace C17 := Lib.hid (C17.out.ext hE)
  replace C18 := Lib.hid (C18.out.ext hE)
  replace HB := Lib.hid (Ext.trans _ _ _ HB.out hE)
  clear hE
  go_wp2
  go_ret
  exact ⟨rfl, HB.out⟩
end Go.Proofs.Xx
end
