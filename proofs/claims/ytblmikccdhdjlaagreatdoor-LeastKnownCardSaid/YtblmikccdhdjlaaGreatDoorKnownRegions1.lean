/- A part of the proof: the texts W80a. -/
import Derived.Test.YtblmikccdhdjlaaGreatDoorKnownBase
set_option linter.unusedVariables false
set_option linter.unusedSimpArgs false
section
namespace Go.Proofs.Xx
open Go.RowKit Go.V Go.Grow Lin Go.Txt
set_option maxRecDepth 100000
noncomputable def ops7 : {l : Array Oper // opsIn 7 (bodyOf Tryz.f7) = some l} := by
  have h : opsIn 7 (bodyOf Tryz.f7) = opsIn 7 (bodyOf Tryz.f7) := rfl
  conv at h => rhs; whnf
  exact ⟨_, h⟩
set_option maxHeartbeats 64000000 in
set_option maxRecDepth 100000 in
theorem kn7 (w u6 : World) (x3_4 x3_5 x4_2 x5_4 x6_2 x3_0 x3_1 x3_3 x4_0 x4_1 x5_1 x5_2 x5_3 x6_1 : Value)  (HENV : Hid (Env w)) (HB : Hid (Ext w u6)) (K1 : Hid ((Fact.fracs (qL [⟨#[49]⟩])).S x3_4 u6)) (K2 : Hid ((Fact.fracs ([(⟨#[]⟩, ⟨#[]⟩)])).S x3_5 u6)) (K3 : Hid ((Fact.fracs (qL [⟨#[49]⟩, ⟨#[48]⟩, ⟨#[48]⟩, ⟨#[48]⟩, ⟨#[48]⟩, ⟨#[48]⟩, ⟨#[48]⟩, ⟨#[48]⟩, ⟨#[48]⟩, ⟨#[48]⟩])).S x4_2 u6)) (K4 : Hid ((Fact.tab (List.replicate 40 (qL [⟨#[49]⟩]))).S x5_4 u6)) (K5 : Hid ((Fact.fracs (List.replicate 40 (⟨#[49]⟩, ⟨#[49]⟩))).S x6_2 u6)) (Q : Exit → Act → World → Prop) (hK : Hid (∀ (u7 : World) (x7_1 x7_2 x7_3 x7_7 x7_9 x7_10 x7_11 x7_12 x7_17 x7_22 x7_24 x7_25 x7_26 x7_30 x7_31 x7_32 x7_37 x7_38 x7_39 x7_43 x7_44 x7_48 x7_49 x7_51 x7_54 x7_56 x7_59 x7_62 x7_64 x7_65 x7_66 x7_69 : Value), Ext u6 u7 → Q .normal ⟨#[Value.bool false, x3_4, x3_5, x4_2, x5_4, x6_2, .bool true, undef, undef, undef, undef, undef, undef, undef, undef, undef, undef, undef, undef, undef, undef, undef, undef, Value.bool true, Value.bool false, x3_0, x3_1, frV ({ data := #[] }, { data := #[] }), x3_3, x4_0, x4_1, x3_4, x5_1, x5_2, x5_3, x3_4, x6_1, x4_2, x7_1, x7_2, x7_3, .bool true, .bool true, x4_2, x7_7, x3_4, x7_9, x7_10, x7_11, x7_12, .bool true, .bool true, .bool true, x5_4, x7_17, .bool true, .bool true, .bool true, x5_4, x7_22, x3_4, x7_24, x7_25, x7_26, .bool true, .bool true, .bool true, x7_30, x7_31, x7_32, .bool true, .bool true, .bool true, x3_5, x7_37, x7_38, x7_39, .bool true, .bool true, .bool true, x7_43, x7_44, x5_4, x6_2, x6_2, x7_48, x7_49, .int .i64 0, x7_51, .bool true, .bool true, x7_54, x5_4, x7_56, .int .i64 1, .int .i64 0, x7_59, .bool true, .bool true, x7_62, x4_2, x7_64, x7_65, x7_66, .int .i64 1, .int .i64 0, x7_69, .bool true, undef, undef, undef, undef, undef, undef, undef, undef, undef, undef, undef, undef, undef, undef, undef, undef, undef, undef, undef, undef, undef, undef, undef, undef, undef, undef, undef, undef, undef, undef, undef, undef, undef, undef, undef, undef, undef, undef, undef, undef, undef, undef, undef, undef, undef, undef, undef, undef, undef, undef, undef, undef, undef, undef, undef, undef, undef, undef, undef, undef, undef, undef, undef, undef, undef, undef, undef, undef, undef, undef, undef, undef, undef, undef, undef, undef, undef, undef, undef, undef, undef, undef, undef, undef, undef, undef, undef, undef, undef, undef, undef, undef, undef, undef, undef, undef, undef, undef, undef, undef, undef, undef, undef, undef, undef, undef, undef, undef, undef, undef, undef, undef, undef, undef, undef, undef, undef, undef, undef, undef, undef, undef, undef, undef, undef, undef, undef, undef, undef, undef, undef, undef, undef, undef, undef, undef, undef, undef, undef, undef, undef, undef, undef, undef, undef, undef, undef, undef, undef, undef, undef, undef, undef, undef, undef, undef, undef, undef, undef, undef, undef, undef, undef, undef, undef, undef, undef, undef, undef, undef, undef, undef, undef, undef, undef, undef, undef, undef, undef, undef, undef, undef, undef, undef, undef, undef, undef, undef, undef, undef, undef, undef, undef, undef, undef, undef, undef, undef, undef, undef, undef, undef, undef, undef, undef, undef, undef, undef, undef, undef, undef, undef, undef, undef, undef, undef, undef, undef, undef, undef, undef, undef, undef, undef, undef, undef, undef, undef, undef, undef, undef, undef, undef, undef, undef, undef, undef, undef, undef, undef, undef, undef, undef, undef, undef, undef, undef, undef, undef, undef, undef, undef, undef, undef, undef, undef, undef, undef, undef, undef, undef, undef, undef, undef, undef, undef, undef, undef, undef, undef, undef, undef, undef, undef, undef, undef, undef, undef, undef, undef, undef, undef, undef, undef, undef, undef, undef, undef, undef, undef, undef, undef, undef, undef, undef, undef, undef, undef, undef, undef, undef, undef, undef, undef, undef, undef, undef, undef, undef, undef, undef, undef, undef, undef, undef, undef, undef, undef, undef, undef, undef, undef], []⟩ u7)) :
    (Code.region 7 ops7.1 false).wp Tryz.prog Q ⟨#[Value.bool false, x3_4, x3_5, x4_2, x5_4, x6_2, undef, undef, undef, undef, undef, undef, undef, undef, undef, undef, undef, undef, undef, undef, undef, undef, undef, Value.bool true, Value.bool false, x3_0, x3_1, frV ({ data := #[] }, { data := #[] }), x3_3, x4_0, x4_1, x3_4, x5_1, x5_2, x5_3, x3_4, x6_1, undef, undef, undef, undef, undef, undef, undef, undef, undef, undef, undef, undef, undef, undef, undef, undef, undef, undef, undef, undef, undef, undef, undef, undef, undef, undef, undef, undef, undef, undef, undef, undef, undef, undef, undef, undef, undef, undef, undef, undef, undef, undef, undef, undef, undef, undef, undef, undef, undef, undef, undef, undef, undef, undef, undef, undef, undef, undef, undef, undef, undef, undef, undef, undef, undef, undef, undef, undef, undef, undef, undef, undef, undef, undef, undef, undef, undef, undef, undef, undef, undef, undef, undef, undef, undef, undef, undef, undef, undef, undef, undef, undef, undef, undef, undef, undef, undef, undef, undef, undef, undef, undef, undef, undef, undef, undef, undef, undef, undef, undef, undef, undef, undef, undef, undef, undef, undef, undef, undef, undef, undef, undef, undef, undef, undef, undef, undef, undef, undef, undef, undef, undef, undef, undef, undef, undef, undef, undef, undef, undef, undef, undef, undef, undef, undef, undef, undef, undef, undef, undef, undef, undef, undef, undef, undef, undef, undef, undef, undef, undef, undef, undef, undef, undef, undef, undef, undef, undef, undef, undef, undef, undef, undef, undef, undef, undef, undef, undef, undef, undef, undef, undef, undef, undef, undef, undef, undef, undef, undef, undef, undef, undef, undef, undef, undef, undef, undef, undef, undef, undef, undef, undef, undef, undef, undef, undef, undef, undef, undef, undef, undef, undef, undef, undef, undef, undef, undef, undef, undef, undef, undef, undef, undef, undef, undef, undef, undef, undef, undef, undef, undef, undef, undef, undef, undef, undef, undef, undef, undef, undef, undef, undef, undef, undef, undef, undef, undef, undef, undef, undef, undef, undef, undef, undef, undef, undef, undef, undef, undef, undef, undef, undef, undef, undef, undef, undef, undef, undef, undef, undef, undef, undef, undef, undef, undef, undef, undef, undef, undef, undef, undef, undef, undef, undef, undef, undef, undef, undef, undef, undef, undef, undef, undef, undef, undef, undef, undef, undef, undef, undef, undef, undef, undef, undef, undef, undef, undef, undef, undef, undef, undef, undef, undef, undef, undef, undef, undef, undef, undef, undef, undef, undef, undef, undef, undef, undef, undef, undef, undef, undef, undef, undef, undef, undef, undef, undef, undef, undef, undef, undef, undef, undef, undef, undef, undef, undef, undef, undef, undef, undef, undef, undef, undef, undef, undef, undef, undef, undef, undef, undef, undef, undef, undef, undef, undef, undef, undef, undef, undef, undef, undef, undef, undef, undef, undef, undef, undef, undef, undef, undef, undef, undef, undef, undef, undef, undef, undef, undef, undef, undef, undef, undef, undef], []⟩ u6 := by
  unfold ops7
  dsimp only
  refine ro_seq 71 [none, some (.tab [qL [⟨#[49]⟩, ⟨#[48]⟩, ⟨#[48]⟩, ⟨#[48]⟩, ⟨#[48]⟩, ⟨#[48]⟩, ⟨#[48]⟩, ⟨#[48]⟩, ⟨#[48]⟩, ⟨#[48]⟩]]), some (.tab [qL [⟨#[49]⟩, ⟨#[48]⟩, ⟨#[48]⟩, ⟨#[48]⟩, ⟨#[48]⟩, ⟨#[48]⟩, ⟨#[48]⟩, ⟨#[48]⟩, ⟨#[48]⟩, ⟨#[48]⟩]]), some (.val (.int .i64 0)), none, none, none, some (.full (Fact.fracs (qL [⟨#[49]⟩, ⟨#[48]⟩, ⟨#[48]⟩, ⟨#[48]⟩, ⟨#[48]⟩, ⟨#[48]⟩, ⟨#[48]⟩, ⟨#[48]⟩, ⟨#[48]⟩, ⟨#[48]⟩])) 10), none, some (.fracs (qL [⟨#[49]⟩, ⟨#[48]⟩, ⟨#[48]⟩, ⟨#[48]⟩, ⟨#[48]⟩, ⟨#[48]⟩, ⟨#[48]⟩, ⟨#[48]⟩, ⟨#[48]⟩, ⟨#[48]⟩] ++ qL [⟨#[49]⟩])), some (.tab [qL [⟨#[49]⟩, ⟨#[48]⟩, ⟨#[48]⟩, ⟨#[48]⟩, ⟨#[48]⟩, ⟨#[48]⟩, ⟨#[48]⟩, ⟨#[48]⟩, ⟨#[48]⟩, ⟨#[48]⟩] ++ qL [⟨#[49]⟩]]), some (.tab [qL [⟨#[49]⟩, ⟨#[48]⟩, ⟨#[48]⟩, ⟨#[48]⟩, ⟨#[48]⟩, ⟨#[48]⟩, ⟨#[48]⟩, ⟨#[48]⟩, ⟨#[48]⟩, ⟨#[48]⟩] ++ qL [⟨#[49]⟩]]), some (.val (.int .i64 60)), none, none, none, none, some (.val (.int .i64 0)), none, none, none, none, some (.full (Fact.tab (List.replicate 40 (qL [⟨#[49]⟩]))) 40), none, some (.tab [qL [⟨#[49]⟩]]), some (.tab ((List.replicate 40 (qL [⟨#[49]⟩])) ++ [qL [⟨#[49]⟩]])), some (.val (.int .i64 60)), none, none, none, some (.tab [[]]), some (.tab [[]]), some (.val (.int .i64 60)), none, none, none, none, some (.tab [[(⟨#[]⟩, ⟨#[]⟩)]]), some (.tab [[(⟨#[]⟩, ⟨#[]⟩)]]), some (.val (.int .i64 60)), none, none, none, some (.strs [⟨#[49]⟩]), some (.isF 99 [⟨#[49]⟩]), none, none, none, some (.fracsE (qL [⟨#[49]⟩], 0)), some (.fracs (qL [⟨#[49]⟩])), none, some (.val (.bool true)), none, none, some (.boxF 100 (.int .i64 1)), none, some (.val (.tuple #[.int .i64 1, .int .i64 0])), none, none, some (.val (.bool true)), none, none, some (.boxF 100 (.int .i64 1)), none, some (.tab [qL [⟨#[49]⟩, ⟨#[48]⟩, ⟨#[48]⟩, ⟨#[48]⟩, ⟨#[48]⟩, ⟨#[48]⟩, ⟨#[48]⟩, ⟨#[48]⟩, ⟨#[48]⟩, ⟨#[48]⟩]]), some (.tab [qL [⟨#[49]⟩, ⟨#[48]⟩, ⟨#[48]⟩, ⟨#[48]⟩, ⟨#[48]⟩, ⟨#[48]⟩, ⟨#[48]⟩, ⟨#[48]⟩, ⟨#[48]⟩, ⟨#[48]⟩]]), some (.val (.tuple #[.int .i64 1, .int .i64 0])), none, none, some (.val (.bool true)), none] ?_
  go_simp
  refine ro_want (u := x4_2) (by rfl) (fun u hE hd => ?_) ?_
  · go_simp
  go_simp
  apply ro_runw (by rfl)
  · intro u hE hd
    have h0 : IsFracs u x4_2 (qL [⟨#[49]⟩, ⟨#[48]⟩, ⟨#[48]⟩, ⟨#[48]⟩, ⟨#[48]⟩, ⟨#[48]⟩, ⟨#[48]⟩, ⟨#[48]⟩, ⟨#[48]⟩, ⟨#[48]⟩]) := (Fact.fracs (qL [⟨#[49]⟩, ⟨#[48]⟩, ⟨#[48]⟩, ⟨#[48]⟩, ⟨#[48]⟩, ⟨#[48]⟩, ⟨#[48]⟩, ⟨#[48]⟩, ⟨#[48]⟩, ⟨#[48]⟩])).st _ _ _ hE K3.out
    obtain ⟨A0, c0, e0, _⟩ := id h0
    subst e0
    go_simp
    exact ⟨_, _, ⟨rfl, rfl⟩, Ext.alloc _ _, IsTab.one (Blk.new' _ rfl rfl) (h0.mono (Ext.alloc _ _))⟩
  intro x7_1
  go_simp
  apply ro_callw (by rfl) (fun w => by go_simp; exact ⟨rfl, rfl⟩)
  · intro u hE hd
    have h0 : IsTab u x7_1 [qL [⟨#[49]⟩, ⟨#[48]⟩, ⟨#[48]⟩, ⟨#[48]⟩, ⟨#[48]⟩, ⟨#[48]⟩, ⟨#[48]⟩, ⟨#[48]⟩, ⟨#[48]⟩, ⟨#[48]⟩]] := hd ⟨1, .data⟩ (by simp) rfl
    exact rows_any _ _ u h0
  intro x7_2
  go_simp
  apply ro_callw (by rfl) (fun w => by go_simp; exact ⟨rfl, rfl⟩)
  · intro u hE hd
    have h0 : IsTab u x7_2 [qL [⟨#[49]⟩, ⟨#[48]⟩, ⟨#[48]⟩, ⟨#[48]⟩, ⟨#[48]⟩, ⟨#[48]⟩, ⟨#[48]⟩, ⟨#[48]⟩, ⟨#[48]⟩, ⟨#[48]⟩]] := hd ⟨2, .data⟩ (by simp) rfl
    exact lcheck_ret _ _ _ u h0 (HENV.out.mono (Ext.trans _ _ _ HB.out hE)).tab kx0
  intro x7_3
  go_simp
  refine ro_want (u := .bool true) (by rfl) (fun u hE hd => ?_) ?_
  · have h0 : (x7_3 : Value) = .int .i64 0 := hd ⟨3, .data⟩ (by simp) rfl
    subst h0
    go_simp
  go_simp
  refine ro_want (u := .bool true) (by rfl) (fun u hE hd => ?_) ?_
  · go_simp
  go_simp
  refine ro_want (u := x4_2) (by rfl) (fun u hE hd => ?_) ?_
  · go_simp
  go_simp
  apply ro_runw (by rfl)
  · intro u hE hd
    have h0 : IsFracs u x4_2 (qL [⟨#[49]⟩, ⟨#[48]⟩, ⟨#[48]⟩, ⟨#[48]⟩, ⟨#[48]⟩, ⟨#[48]⟩, ⟨#[48]⟩, ⟨#[48]⟩, ⟨#[48]⟩, ⟨#[48]⟩]) := (Fact.fracs (qL [⟨#[49]⟩, ⟨#[48]⟩, ⟨#[48]⟩, ⟨#[48]⟩, ⟨#[48]⟩, ⟨#[48]⟩, ⟨#[48]⟩, ⟨#[48]⟩, ⟨#[48]⟩, ⟨#[48]⟩])).st _ _ _ hE K3.out
    obtain ⟨A0, c0, e0, hc0, hm0, hr0⟩ := id h0
    have hl0 : (qL [⟨#[49]⟩, ⟨#[48]⟩, ⟨#[48]⟩, ⟨#[48]⟩, ⟨#[48]⟩, ⟨#[48]⟩, ⟨#[48]⟩, ⟨#[48]⟩, ⟨#[48]⟩, ⟨#[48]⟩]).length = 10 := by decide
    rw [hl0] at e0 hc0
    subst e0
    have hI : (10 : Int) ≤ (c0 : Int) := by omega
    go_simp
    exact ⟨_, _, ⟨rfl, rfl⟩, Ext.refl _, A0, rfl, IsFracs.full h0⟩
  intro x7_7
  go_simp
  refine ro_want (u := x3_4) (by rfl) (fun u hE hd => ?_) ?_
  · go_simp
  go_simp
  apply ro_runw (by rfl)
  · intro u hE hd
    have h0 : (Fact.full (Fact.fracs (qL [⟨#[49]⟩, ⟨#[48]⟩, ⟨#[48]⟩, ⟨#[48]⟩, ⟨#[48]⟩, ⟨#[48]⟩, ⟨#[48]⟩, ⟨#[48]⟩, ⟨#[48]⟩, ⟨#[48]⟩])) 10).S x7_7 u := hd ⟨7, .data⟩ (by simp) rfl
    have h1 : IsFracs u x3_4 (qL [⟨#[49]⟩]) := (Fact.fracs (qL [⟨#[49]⟩])).st _ _ _ hE K1.out
    obtain ⟨A0, e0, h0⟩ := h0
    subst e0
    obtain ⟨A1, c1, e1, _⟩ := id h1
    subst e1
    obtain ⟨v9, w9, hr, hF, hX⟩ := app_full_fracs h0 h1 (by decide) (by decide) (by decide)
    exact ⟨v9, w9, app_exec (v := .slice A0 10 10) (u := .slice A1 (qL [⟨#[49]⟩]).length c1) _ _ 23 rfl rfl rfl hr, hX, hF⟩
  intro x7_9
  go_simp
  apply ro_runw (by rfl)
  · intro u hE hd
    have h0 : IsFracs u x7_9 (qL [⟨#[49]⟩, ⟨#[48]⟩, ⟨#[48]⟩, ⟨#[48]⟩, ⟨#[48]⟩, ⟨#[48]⟩, ⟨#[48]⟩, ⟨#[48]⟩, ⟨#[48]⟩, ⟨#[48]⟩] ++ qL [⟨#[49]⟩]) := hd ⟨9, .data⟩ (by simp) rfl
    obtain ⟨A0, c0, e0, _⟩ := id h0
    subst e0
    go_simp
    exact ⟨_, _, ⟨rfl, rfl⟩, Ext.alloc _ _, IsTab.one (Blk.new' _ rfl rfl) (h0.mono (Ext.alloc _ _))⟩
  intro x7_10
  go_simp
  apply ro_callw (by rfl) (fun w => by go_simp; exact ⟨rfl, rfl⟩)
  · intro u hE hd
    have h0 : IsTab u x7_10 [qL [⟨#[49]⟩, ⟨#[48]⟩, ⟨#[48]⟩, ⟨#[48]⟩, ⟨#[48]⟩, ⟨#[48]⟩, ⟨#[48]⟩, ⟨#[48]⟩, ⟨#[48]⟩, ⟨#[48]⟩] ++ qL [⟨#[49]⟩]] := hd ⟨10, .data⟩ (by simp) rfl
    exact rows_any _ _ u h0
  intro x7_11
  go_simp
  apply ro_callw (by rfl) (fun w => by go_simp; exact ⟨rfl, rfl⟩)
  · intro u hE hd
    have h0 : IsTab u x7_11 [qL [⟨#[49]⟩, ⟨#[48]⟩, ⟨#[48]⟩, ⟨#[48]⟩, ⟨#[48]⟩, ⟨#[48]⟩, ⟨#[48]⟩, ⟨#[48]⟩, ⟨#[48]⟩, ⟨#[48]⟩] ++ qL [⟨#[49]⟩]] := hd ⟨11, .data⟩ (by simp) rfl
    exact lcheck_ret _ _ _ u h0 (HENV.out.mono (Ext.trans _ _ _ HB.out hE)).tab kx1
  intro x7_12
  go_simp
  refine ro_want (u := .bool true) (by rfl) (fun u hE hd => ?_) ?_
  · have h0 : (x7_12 : Value) = .int .i64 60 := hd ⟨12, .data⟩ (by simp) rfl
    subst h0
    go_simp
  go_simp
  refine ro_want (u := .bool true) (by rfl) (fun u hE hd => ?_) ?_
  · go_simp
  go_simp
  refine ro_want (u := .bool true) (by rfl) (fun u hE hd => ?_) ?_
  · go_simp
  go_simp
  refine ro_want (u := x5_4) (by rfl) (fun u hE hd => ?_) ?_
  · go_simp
  go_simp
  apply ro_callw (by rfl) (fun w => by go_simp; exact ⟨rfl, rfl⟩)
  · intro u hE hd
    have h0 : IsTab u x5_4 (List.replicate 40 (qL [⟨#[49]⟩])) := (Fact.tab (List.replicate 40 (qL [⟨#[49]⟩]))).st _ _ _ hE K4.out
    exact lcheck_ret _ _ _ u h0 (HENV.out.mono (Ext.trans _ _ _ HB.out hE)).tab kx2
  intro x7_17
  go_simp
  refine ro_want (u := .bool true) (by rfl) (fun u hE hd => ?_) ?_
  · have h0 : (x7_17 : Value) = .int .i64 0 := hd ⟨17, .data⟩ (by simp) rfl
    subst h0
    go_simp
  go_simp
  refine ro_want (u := .bool true) (by rfl) (fun u hE hd => ?_) ?_
  · go_simp
  go_simp
  refine ro_want (u := .bool true) (by rfl) (fun u hE hd => ?_) ?_
  · go_simp
  go_simp
  refine ro_want (u := x5_4) (by rfl) (fun u hE hd => ?_) ?_
  · go_simp
  go_simp
  apply ro_runw (by rfl)
  · intro u hE hd
    have h0 : IsTab u x5_4 (List.replicate 40 (qL [⟨#[49]⟩])) := (Fact.tab (List.replicate 40 (qL [⟨#[49]⟩]))).st _ _ _ hE K4.out
    obtain ⟨A0, c0, e0, hc0, hm0, hr0⟩ := id h0
    have hl0 : ((List.replicate 40 (qL [⟨#[49]⟩]))).length = 40 := by decide
    rw [hl0] at e0 hc0
    subst e0
    have hI : (40 : Int) ≤ (c0 : Int) := by omega
    go_simp
    exact ⟨_, _, ⟨rfl, rfl⟩, Ext.refl _, A0, rfl, IsTab.full h0⟩
  intro x7_22
  go_simp
  refine ro_want (u := x3_4) (by rfl) (fun u hE hd => ?_) ?_
  · go_simp
  go_simp
  apply ro_runw (by rfl)
  · intro u hE hd
    have h0 : IsFracs u x3_4 (qL [⟨#[49]⟩]) := (Fact.fracs (qL [⟨#[49]⟩])).st _ _ _ hE K1.out
    obtain ⟨A0, c0, e0, _⟩ := id h0
    subst e0
    go_simp
    exact ⟨_, _, ⟨rfl, rfl⟩, Ext.alloc _ _, IsTab.one (Blk.new' _ rfl rfl) (h0.mono (Ext.alloc _ _))⟩
  intro x7_24
  go_simp
  apply ro_runw (by rfl)
  · intro u hE hd
    have h0 : (Fact.full (Fact.tab ((List.replicate 40 (qL [⟨#[49]⟩])))) 40).S x7_22 u := hd ⟨22, .data⟩ (by simp) rfl
    have h1 : IsTab u x7_24 [qL [⟨#[49]⟩]] := hd ⟨24, .data⟩ (by simp) rfl
    obtain ⟨A0, e0, h0⟩ := h0
    subst e0
    obtain ⟨A1, c1, e1, _⟩ := id h1
    subst e1
    obtain ⟨v9, w9, hr, hF, hX⟩ := app_full_tab h0 h1 (by decide) (by decide) (by decide)
    exact ⟨v9, w9, app_exec (v := .slice A0 40 40) (u := .slice A1 ([qL [⟨#[49]⟩]]).length c1) _ _ 22 rfl rfl rfl hr, hX, hF⟩
  intro x7_25
  go_simp
  apply ro_callw (by rfl) (fun w => by go_simp; exact ⟨rfl, rfl⟩)
  · intro u hE hd
    have h0 : IsTab u x7_25 ((List.replicate 40 (qL [⟨#[49]⟩])) ++ [qL [⟨#[49]⟩]]) := hd ⟨25, .data⟩ (by simp) rfl
    exact lcheck_ret _ _ _ u h0 (HENV.out.mono (Ext.trans _ _ _ HB.out hE)).tab kx3
  intro x7_26
  go_simp
  refine ro_want (u := .bool true) (by rfl) (fun u hE hd => ?_) ?_
  · have h0 : (x7_26 : Value) = .int .i64 60 := hd ⟨26, .data⟩ (by simp) rfl
    subst h0
    go_simp
  go_simp
  refine ro_want (u := .bool true) (by rfl) (fun u hE hd => ?_) ?_
  · go_simp
  go_simp
  refine ro_want (u := .bool true) (by rfl) (fun u hE hd => ?_) ?_
  · go_simp
  go_simp
  apply ro_runw (by rfl)
  · intro u hE hd
    have h0 : IsFracs u (.slice none 0 0) [] := ⟨none, 0, rfl, Nat.le_refl _, Nat.zero_le _, .inl rfl⟩
    go_simp
    exact ⟨_, _, ⟨rfl, rfl⟩, Ext.alloc _ _, IsTab.one (Blk.new' _ rfl rfl) (h0.mono (Ext.alloc _ _))⟩
  intro x7_30
  go_simp
  apply ro_callw (by rfl) (fun w => by go_simp; exact ⟨rfl, rfl⟩)
  · intro u hE hd
    have h0 : IsTab u x7_30 [[]] := hd ⟨30, .data⟩ (by simp) rfl
    exact rows_any _ _ u h0
  intro x7_31
  go_simp
  apply ro_callw (by rfl) (fun w => by go_simp; exact ⟨rfl, rfl⟩)
  · intro u hE hd
    have h0 : IsTab u x7_31 [[]] := hd ⟨31, .data⟩ (by simp) rfl
    exact lcheck_ret _ _ _ u h0 (HENV.out.mono (Ext.trans _ _ _ HB.out hE)).tab kx4
  intro x7_32
  go_simp
  refine ro_want (u := .bool true) (by rfl) (fun u hE hd => ?_) ?_
  · have h0 : (x7_32 : Value) = .int .i64 60 := hd ⟨32, .data⟩ (by simp) rfl
    subst h0
    go_simp
  go_simp
  refine ro_want (u := .bool true) (by rfl) (fun u hE hd => ?_) ?_
  · go_simp
  go_simp
  refine ro_want (u := .bool true) (by rfl) (fun u hE hd => ?_) ?_
  · go_simp
  go_simp
  refine ro_want (u := x3_5) (by rfl) (fun u hE hd => ?_) ?_
  · go_simp
  go_simp
  apply ro_runw (by rfl)
  · intro u hE hd
    have h0 : IsFracs u x3_5 ([(⟨#[]⟩, ⟨#[]⟩)]) := (Fact.fracs ([(⟨#[]⟩, ⟨#[]⟩)])).st _ _ _ hE K2.out
    obtain ⟨A0, c0, e0, _⟩ := id h0
    subst e0
    go_simp
    exact ⟨_, _, ⟨rfl, rfl⟩, Ext.alloc _ _, IsTab.one (Blk.new' _ rfl rfl) (h0.mono (Ext.alloc _ _))⟩
  intro x7_37
  go_simp
  apply ro_callw (by rfl) (fun w => by go_simp; exact ⟨rfl, rfl⟩)
  · intro u hE hd
    have h0 : IsTab u x7_37 [[(⟨#[]⟩, ⟨#[]⟩)]] := hd ⟨37, .data⟩ (by simp) rfl
    exact rows_any _ _ u h0
  intro x7_38
  go_simp
  apply ro_callw (by rfl) (fun w => by go_simp; exact ⟨rfl, rfl⟩)
  · intro u hE hd
    have h0 : IsTab u x7_38 [[(⟨#[]⟩, ⟨#[]⟩)]] := hd ⟨38, .data⟩ (by simp) rfl
    exact lcheck_ret _ _ _ u h0 (HENV.out.mono (Ext.trans _ _ _ HB.out hE)).tab kx5
  intro x7_39
  go_simp
  refine ro_want (u := .bool true) (by rfl) (fun u hE hd => ?_) ?_
  · have h0 : (x7_39 : Value) = .int .i64 60 := hd ⟨39, .data⟩ (by simp) rfl
    subst h0
    go_simp
  go_simp
  refine ro_want (u := .bool true) (by rfl) (fun u hE hd => ?_) ?_
  · go_simp
  go_simp
  refine ro_want (u := .bool true) (by rfl) (fun u hE hd => ?_) ?_
  · go_simp
  go_simp
  apply ro_runw (by rfl)
  · intro u hE hd
    go_simp
    exact ⟨_, _, ⟨rfl, rfl⟩, Ext.alloc _ _, IsStrs.new (l := [⟨#[49]⟩]) (Blk.new' _ rfl rfl) (by decide)⟩
  intro x7_43
  go_simp
  apply ro_callw (by rfl) (fun w => by go_simp; exact ⟨rfl, rfl⟩)
  · intro u hE hd
    have h0 : IsStrs u x7_43 [⟨#[49]⟩] := hd ⟨43, .data⟩ (by simp) rfl
    exact is_any _ _ u h0
  intro x7_44
  go_simp
  refine ro_want (u := x5_4) (by rfl) (fun u hE hd => ?_) ?_
  · go_simp
  go_simp
  refine ro_want (u := x6_2) (by rfl) (fun u hE hd => ?_) ?_
  · go_simp
  go_simp
  refine ro_want (u := x6_2) (by rfl) (fun u hE hd => ?_) ?_
  · go_simp
  go_simp
  apply ro_callw (by rfl) (fun w => by go_simp; exact ⟨rfl, rfl⟩)
  · intro u hE hd
    have h0 : IsTab u x5_4 (List.replicate 40 (qL [⟨#[49]⟩])) := (Fact.tab (List.replicate 40 (qL [⟨#[49]⟩]))).st _ _ _ hE K4.out
    have h1 : IsFracs u x6_2 (List.replicate 40 (⟨#[49]⟩, ⟨#[49]⟩)) := (Fact.fracs (List.replicate 40 (⟨#[49]⟩, ⟨#[49]⟩))).st _ _ _ hE K5.out
    have h2 : IsFracs u x6_2 (List.replicate 40 (⟨#[49]⟩, ⟨#[49]⟩)) := (Fact.fracs (List.replicate 40 (⟨#[49]⟩, ⟨#[49]⟩))).st _ _ _ hE K5.out
    exact lleast_ret _ _ _ _ _ _ _ u h0 h1 h2 (HENV.out.mono (Ext.trans _ _ _ HB.out hE)).tab kx6
  intro x7_48
  go_simp
  apply ro_runw (by rfl)
  · intro u hE hd
    have h0 : (Fact.fracsE (qL [⟨#[49]⟩], 0)).S x7_48 u := hd ⟨48, .data⟩ (by simp) rfl
    obtain ⟨l, e0, hl⟩ := h0
    subst e0
    go_simp
    exact ⟨_, _, ⟨rfl, rfl⟩, Ext.refl _, hl⟩
  intro x7_49
  go_simp
  refine ro_want (u := .int .i64 0) (by rfl) (fun u hE hd => ?_) ?_
  · have h0 : (Fact.fracsE (qL [⟨#[49]⟩], 0)).S x7_48 u := hd ⟨48, .data⟩ (by simp) rfl
    obtain ⟨l, e0, hl⟩ := h0
    subst e0
    go_simp
  go_simp
  apply ro_callD (by rfl)
  · intro u hE hd
    have hf : (Fact.isF 99 [⟨#[49]⟩]).S x7_44 u := hd ⟨44, .data⟩ (by simp) rfl
    have h0 : IsFracs u x7_49 (qL [⟨#[49]⟩]) := hd ⟨49, .data⟩ (by simp) rfl
    obtain ⟨g, vs, e0, hg, hs⟩ := hf
    subst e0
    refine ⟨99, #[x7_49, .int .i64 0, .pointer (some ⟨g, 0, none⟩)], by have eg := enters_of Tryz.func99 (by kernel_rfl) rfl; go_simp, ?_⟩
    refine (is1_any g _ vs _ (qL [⟨#[49]⟩], 0) u hg hs h0 (HENV.out.mono (Ext.trans _ _ _ HB.out hE)) (by decide) (by decide)).mono ?_
    rintro e w' ⟨e1, hE1⟩
    exact ⟨_, e1, congrArg Value.bool kx7, hE1⟩
  intro x7_51
  go_simp
  refine ro_want (u := .bool true) (by rfl) (fun u hE hd => ?_) ?_
  · have h0 : (x7_51 : Value) = .bool true := hd ⟨51, .data⟩ (by simp) rfl
    subst h0
    go_simp
  go_simp
  refine ro_want (u := .bool true) (by rfl) (fun u hE hd => ?_) ?_
  · go_simp
  go_simp
  apply ro_callw (by rfl) (fun w => by go_simp; exact ⟨rfl, rfl⟩)
  · intro u hE hd
    exact says_any _ u
  intro x7_54
  go_simp
  refine ro_want (u := x5_4) (by rfl) (fun u hE hd => ?_) ?_
  · go_simp
  go_simp
  apply ro_callw (by rfl) (fun w => by go_simp; exact ⟨rfl, rfl⟩)
  · intro u hE hd
    have h0 : IsTab u x5_4 (List.replicate 40 (qL [⟨#[49]⟩])) := (Fact.tab (List.replicate 40 (qL [⟨#[49]⟩]))).st _ _ _ hE K4.out
    exact rank_ret _ _ _ u h0 (HENV.out.mono (Ext.trans _ _ _ HB.out hE)).tab kx8
  intro x7_56
  go_simp
  refine ro_want (u := .int .i64 1) (by rfl) (fun u hE hd => ?_) ?_
  · have h0 : (x7_56 : Value) = .tuple #[.int .i64 1, .int .i64 0] := hd ⟨56, .data⟩ (by simp) rfl
    subst h0
    go_simp
  go_simp
  refine ro_want (u := .int .i64 0) (by rfl) (fun u hE hd => ?_) ?_
  · have h0 : (x7_56 : Value) = .tuple #[.int .i64 1, .int .i64 0] := hd ⟨56, .data⟩ (by simp) rfl
    subst h0
    go_simp
  go_simp
  apply ro_callD (by rfl)
  · intro u hE hd
    have hf : (Fact.boxF 100 (.int .i64 1)).S x7_54 u := hd ⟨54, .data⟩ (by simp) rfl
    obtain ⟨g, e0, hg⟩ := hf
    subst e0
    refine ⟨100, #[.int .i64 1, .int .i64 0, .pointer (some ⟨g, 0, none⟩)], by have eg := enters_of Tryz.func100 (by kernel_rfl) rfl; go_simp, ?_⟩
    refine (says1_any g _ _ _ u hg).mono ?_
    rintro e w' ⟨e1, hE1⟩
    exact ⟨_, e1, congrArg Value.bool kx9, hE1⟩
  intro x7_59
  go_simp
  refine ro_want (u := .bool true) (by rfl) (fun u hE hd => ?_) ?_
  · have h0 : (x7_59 : Value) = .bool true := hd ⟨59, .data⟩ (by simp) rfl
    subst h0
    go_simp
  go_simp
  refine ro_want (u := .bool true) (by rfl) (fun u hE hd => ?_) ?_
  · go_simp
  go_simp
  apply ro_callw (by rfl) (fun w => by go_simp; exact ⟨rfl, rfl⟩)
  · intro u hE hd
    exact says_any _ u
  intro x7_62
  go_simp
  refine ro_want (u := x4_2) (by rfl) (fun u hE hd => ?_) ?_
  · go_simp
  go_simp
  apply ro_runw (by rfl)
  · intro u hE hd
    have h0 : IsFracs u x4_2 (qL [⟨#[49]⟩, ⟨#[48]⟩, ⟨#[48]⟩, ⟨#[48]⟩, ⟨#[48]⟩, ⟨#[48]⟩, ⟨#[48]⟩, ⟨#[48]⟩, ⟨#[48]⟩, ⟨#[48]⟩]) := (Fact.fracs (qL [⟨#[49]⟩, ⟨#[48]⟩, ⟨#[48]⟩, ⟨#[48]⟩, ⟨#[48]⟩, ⟨#[48]⟩, ⟨#[48]⟩, ⟨#[48]⟩, ⟨#[48]⟩, ⟨#[48]⟩])).st _ _ _ hE K3.out
    obtain ⟨A0, c0, e0, _⟩ := id h0
    subst e0
    go_simp
    exact ⟨_, _, ⟨rfl, rfl⟩, Ext.alloc _ _, IsTab.one (Blk.new' _ rfl rfl) (h0.mono (Ext.alloc _ _))⟩
  intro x7_64
  go_simp
  apply ro_callw (by rfl) (fun w => by go_simp; exact ⟨rfl, rfl⟩)
  · intro u hE hd
    have h0 : IsTab u x7_64 [qL [⟨#[49]⟩, ⟨#[48]⟩, ⟨#[48]⟩, ⟨#[48]⟩, ⟨#[48]⟩, ⟨#[48]⟩, ⟨#[48]⟩, ⟨#[48]⟩, ⟨#[48]⟩, ⟨#[48]⟩]] := hd ⟨64, .data⟩ (by simp) rfl
    exact rows_any _ _ u h0
  intro x7_65
  go_simp
  apply ro_callw (by rfl) (fun w => by go_simp; exact ⟨rfl, rfl⟩)
  · intro u hE hd
    have h0 : IsTab u x7_65 [qL [⟨#[49]⟩, ⟨#[48]⟩, ⟨#[48]⟩, ⟨#[48]⟩, ⟨#[48]⟩, ⟨#[48]⟩, ⟨#[48]⟩, ⟨#[48]⟩, ⟨#[48]⟩, ⟨#[48]⟩]] := hd ⟨65, .data⟩ (by simp) rfl
    exact rank_ret _ _ _ u h0 (HENV.out.mono (Ext.trans _ _ _ HB.out hE)).tab kx10
  intro x7_66
  go_simp
  refine ro_want (u := .int .i64 1) (by rfl) (fun u hE hd => ?_) ?_
  · have h0 : (x7_66 : Value) = .tuple #[.int .i64 1, .int .i64 0] := hd ⟨66, .data⟩ (by simp) rfl
    subst h0
    go_simp
  go_simp
  refine ro_want (u := .int .i64 0) (by rfl) (fun u hE hd => ?_) ?_
  · have h0 : (x7_66 : Value) = .tuple #[.int .i64 1, .int .i64 0] := hd ⟨66, .data⟩ (by simp) rfl
    subst h0
    go_simp
  go_simp
  apply ro_callD (by rfl)
  · intro u hE hd
    have hf : (Fact.boxF 100 (.int .i64 1)).S x7_62 u := hd ⟨62, .data⟩ (by simp) rfl
    obtain ⟨g, e0, hg⟩ := hf
    subst e0
    refine ⟨100, #[.int .i64 1, .int .i64 0, .pointer (some ⟨g, 0, none⟩)], by have eg := enters_of Tryz.func100 (by kernel_rfl) rfl; go_simp, ?_⟩
    refine (says1_any g _ _ _ u hg).mono ?_
    rintro e w' ⟨e1, hE1⟩
    exact ⟨_, e1, congrArg Value.bool kx9, hE1⟩
  intro x7_69
  go_simp
  refine ro_want (u := .bool true) (by rfl) (fun u hE hd => ?_) ?_
  · have h0 : (x7_69 : Value) = .bool true := hd ⟨69, .data⟩ (by simp) rfl
    subst h0
    go_simp
  go_simp
  refine ro_done (fun u7 hE hf => ?_)
  clear hf
  simp only [List.drop_succ_cons, List.drop_zero]
  go_wp2
  exact hK.out _ _ _ _ _ _ _ _ _ _ _ _ _ _ _ _ _ _ _ _ _ _ _ _ _ _ _ _ _ _ _ _ _ hE
noncomputable def ops14 : {l : Array Oper // opsIn 14 (bodyOf Tryz.f7) = some l} := by
  have h : opsIn 14 (bodyOf Tryz.f7) = opsIn 14 (bodyOf Tryz.f7) := rfl
  conv at h => rhs; whnf
  exact ⟨_, h⟩
set_option maxHeartbeats 64000000 in
set_option maxRecDepth 100000 in
theorem kn14 (w W13 : World) (x3_4 x3_5 x4_2 x5_4 x6_2 x3_0 x3_1 x3_3 x4_0 x4_1 x5_1 x5_2 x5_3 x6_1 x7_1 x7_2 x7_3 x7_7 x7_9 x7_10 x7_11 x7_12 x7_17 x7_22 x7_24 x7_25 x7_26 x7_30 x7_31 x7_32 x7_37 x7_38 x7_39 x7_43 x7_44 x7_48 x7_49 x7_51 x7_54 x7_56 x7_59 x7_62 x7_64 x7_65 x7_66 x7_69 x8_1 x8_2 x8_3 x9_1 x9_2 x9_5 x10_1 x10_2 x10_6 x11_1 x11_2 x11_4 x11_5 x11_6 x12_1 x12_2 x12_6 x13_1 x13_2 x13_4 x13_5 x13_6 x13_7 x13_8 : Value) (gC9 gC10 gC11 gC12 gC13 : Nat) (HENV : Hid (Env w)) (HB : Hid (Ext w W13)) (K1 : Hid ((Fact.fracs (qL [⟨#[49]⟩])).S x3_4 W13)) (K2 : Hid ((Fact.fracs ([(⟨#[]⟩, ⟨#[]⟩)])).S x3_5 W13)) (K3 : Hid ((Fact.fracs (qL [⟨#[49]⟩, ⟨#[48]⟩, ⟨#[48]⟩, ⟨#[48]⟩, ⟨#[48]⟩, ⟨#[48]⟩, ⟨#[48]⟩, ⟨#[48]⟩, ⟨#[48]⟩, ⟨#[48]⟩])).S x4_2 W13)) (K4 : Hid ((Fact.tab (List.replicate 40 (qL [⟨#[49]⟩]))).S x5_4 W13)) (K5 : Hid ((Fact.fracs (List.replicate 40 (⟨#[49]⟩, ⟨#[49]⟩))).S x6_2 W13)) (X17 : Hid (∀ u, Ext W13 u → u.cell? ⟨gC13, 0, none⟩ = some (.string ⟨#[48]⟩) ∧ u.cell? ⟨gC13, 1, none⟩ = some (.string ⟨#[49]⟩))) (Q : Exit → Act → World → Prop) (hK : Hid (∀ (u14 : World) (x14_23 x14_24 x14_25 x14_34 x14_36 x14_37 x14_39 x14_42 x14_44 x14_45 x14_47 x14_48 x14_50 x14_53 x14_55 x14_56 x14_57 x14_58 x14_60 x14_63 x14_66 x14_67 x14_68 x14_69 x14_70 x14_71 x14_73 x14_76 x14_77 x14_78 x14_79 x14_80 x14_81 x14_82 x14_83 x14_84 x14_86 x14_89 x14_90 x14_91 x14_92 x14_93 x14_94 x14_95 x14_96 x14_97 x14_98 x14_100 x14_103 x14_104 x14_105 x14_106 x14_107 x14_108 x14_109 x14_110 x14_111 x14_112 x14_113 x14_114 x14_116 : Value), Ext W13 u14 → Q .normal ⟨#[Value.bool false, x3_4, x3_5, x4_2, x5_4, x6_2, .bool true, Value.int IntKind.i64 0, Value.int IntKind.i64 60, Value.pointer (some { block := gC9, off := 0 }), Value.int IntKind.i64 2, Value.pointer (some { block := gC10, off := 0 }), Value.int IntKind.i64 20, Value.pointer (some { block := gC11, off := 0 }), Value.int IntKind.i64 2, Value.pointer (some { block := gC12, off := 0 }), Value.int IntKind.i64 60, Value.pointer (some { block := gC13, off := 0 }), Value.int IntKind.i64 0, undef, undef, undef, undef, Value.bool true, Value.bool false, x3_0, x3_1, Value.agg #[Value.string { data := #[] }, Value.string { data := #[] }], x3_3, x4_0, x4_1, x3_4, x5_1, x5_2, x5_3, x3_4, x6_1, x4_2, x7_1, x7_2, x7_3, Value.bool true, Value.bool true, x4_2, x7_7, x3_4, x7_9, x7_10, x7_11, x7_12, Value.bool true, Value.bool true, Value.bool true, x5_4, x7_17, Value.bool true, Value.bool true, Value.bool true, x5_4, x7_22, x3_4, x7_24, x7_25, x7_26, Value.bool true, Value.bool true, Value.bool true, x7_30, x7_31, x7_32, Value.bool true, Value.bool true, Value.bool true, x3_5, x7_37, x7_38, x7_39, Value.bool true, Value.bool true, Value.bool true, x7_43, x7_44, x5_4, x6_2, x6_2, x7_48, x7_49, Value.int IntKind.i64 0, x7_51, Value.bool true, Value.bool true, x7_54, x5_4, x7_56, Value.int IntKind.i64 1, Value.int IntKind.i64 0, x7_59, Value.bool true, Value.bool true, x7_62, x4_2, x7_64, x7_65, x7_66, Value.int IntKind.i64 1, Value.int IntKind.i64 0, x7_69, Value.bool true, Value.tuple #[Value.int IntKind.i64 0, Value.int IntKind.i64 60], x3_5, x8_1, x8_2, x8_3, Value.int IntKind.i64 0, Value.int IntKind.i64 60, Value.tuple #[Value.agg #[Value.string ByteArray.empty, Value.string ByteArray.empty], Value.int IntKind.i64 2], x3_4, x9_1, x9_2, x3_4, x3_4, x9_5, Value.agg #[Value.string ByteArray.empty, Value.string ByteArray.empty], Value.int IntKind.i64 2, Value.tuple #[Value.agg #[Value.string ByteArray.empty, Value.string ByteArray.empty], Value.int IntKind.i64 20], x3_4, x10_1, x10_2, x3_4, x3_4, x3_5, x10_6, Value.agg #[Value.string ByteArray.empty, Value.string ByteArray.empty], Value.int IntKind.i64 20, Value.tuple #[Value.agg #[Value.string ByteArray.empty, Value.string ByteArray.empty], Value.int IntKind.i64 2], x3_4, x11_1, x11_2, x3_4, x11_4, x11_5, x11_6, Value.agg #[Value.string ByteArray.empty, Value.string ByteArray.empty], Value.int IntKind.i64 2, Value.tuple #[Value.agg #[Value.string ByteArray.empty, Value.string ByteArray.empty], Value.int IntKind.i64 60], x3_5, x12_1, x12_2, x3_5, x3_5, x3_5, x12_6, Value.agg #[Value.string ByteArray.empty, Value.string ByteArray.empty], Value.int IntKind.i64 60, Value.tuple #[Value.agg #[Value.string { data := #[48] }, Value.string { data := #[49] }], Value.int IntKind.i64 0], x3_4, x13_1, x13_2, x3_4, x13_4, x13_5, x13_6, x13_7, x13_8, Value.agg #[Value.string { data := #[48] }, Value.string { data := #[49] }], Value.int IntKind.i64 0, .bool true, .bool true, .int .i64 60, .bool true, .bool true, .bool true, .int .i64 2, .bool true, .bool true, .bool true, .int .i64 20, .bool true, .bool true, .bool true, .int .i64 2, .bool true, .bool true, .bool true, .int .i64 60, .bool true, .bool true, .bool true, frV (⟨#[48]⟩, ⟨#[49]⟩), x14_23, x14_24, x14_25, frV (⟨#[48]⟩, ⟨#[49]⟩), .bool true, .bool true, .bool true, .int .i64 0, .bool true, .bool true, .bool true, x14_34, x3_5, x14_36, x14_37, .int .i64 60, x14_39, .bool true, .bool true, x14_42, x3_4, x14_44, x14_45, x3_5, x14_47, x14_48, .int .i64 20, x14_50, .bool true, .bool true, x14_53, x3_4, x14_55, x14_56, x14_57, x14_58, .int .i64 2, x14_60, .bool true, .bool true, x14_63, x3_4, x3_4, x14_66, x14_67, x14_68, x14_69, x14_70, x14_71, .int .i64 2, x14_73, .bool true, .bool true, x14_76, x14_77, x14_78, x14_79, x14_80, x14_81, x14_82, x14_83, x14_84, .int .i64 7, x14_86, .bool true, .bool true, x14_89, x14_90, x14_91, x14_92, x14_93, x14_94, x14_95, x14_96, x14_97, x14_98, .int .i64 0, x14_100, .bool true, .bool true, x14_103, x14_104, x14_105, x14_106, x14_107, x14_108, x14_109, x14_110, x14_111, x14_112, x14_113, x14_114, .int .i64 0, x14_116, .bool true, undef, undef, undef, undef, undef, undef, undef, undef, undef, undef, undef, undef, undef, undef, undef, undef, undef, undef, undef, undef, undef, undef, undef, undef, undef, undef, undef, undef, undef, undef, undef, undef, undef, undef, undef, undef, undef, undef, undef, undef, undef, undef, undef, undef, undef, undef, undef, undef, undef, undef, undef, undef, undef, undef, undef, undef, undef, undef, undef, undef, undef, undef, undef, undef, undef, undef, undef, undef, undef, undef, undef, undef, undef, undef, undef, undef, undef, undef, undef, undef, undef, undef, undef, undef, undef, undef, undef, undef, undef, undef, undef, undef, undef, undef, undef, undef, undef, undef, undef, undef, undef, undef, undef, undef, undef, undef, undef, undef, undef, undef, undef, undef, undef, undef, undef, undef, undef, undef, undef, undef, undef, undef, undef, undef, undef, undef, undef, undef, undef, undef, undef, undef, undef, undef, undef, undef, undef, undef, undef, undef, undef, undef, undef, undef, undef, undef], []⟩ u14)) :
    (Code.region 14 ops14.1 true).wp Tryz.prog Q ⟨#[Value.bool false, x3_4, x3_5, x4_2, x5_4, x6_2, Value.bool true, Value.int IntKind.i64 0, Value.int IntKind.i64 60, Value.pointer (some { block := gC9, off := 0 }), Value.int IntKind.i64 2, Value.pointer (some { block := gC10, off := 0 }), Value.int IntKind.i64 20, Value.pointer (some { block := gC11, off := 0 }), Value.int IntKind.i64 2, Value.pointer (some { block := gC12, off := 0 }), Value.int IntKind.i64 60, Value.pointer (some { block := gC13, off := 0 }), Value.int IntKind.i64 0, undef, undef, undef, undef, Value.bool true, Value.bool false, x3_0, x3_1, Value.agg #[Value.string { data := #[] }, Value.string { data := #[] }], x3_3, x4_0, x4_1, x3_4, x5_1, x5_2, x5_3, x3_4, x6_1, x4_2, x7_1, x7_2, x7_3, Value.bool true, Value.bool true, x4_2, x7_7, x3_4, x7_9, x7_10, x7_11, x7_12, Value.bool true, Value.bool true, Value.bool true, x5_4, x7_17, Value.bool true, Value.bool true, Value.bool true, x5_4, x7_22, x3_4, x7_24, x7_25, x7_26, Value.bool true, Value.bool true, Value.bool true, x7_30, x7_31, x7_32, Value.bool true, Value.bool true, Value.bool true, x3_5, x7_37, x7_38, x7_39, Value.bool true, Value.bool true, Value.bool true, x7_43, x7_44, x5_4, x6_2, x6_2, x7_48, x7_49, Value.int IntKind.i64 0, x7_51, Value.bool true, Value.bool true, x7_54, x5_4, x7_56, Value.int IntKind.i64 1, Value.int IntKind.i64 0, x7_59, Value.bool true, Value.bool true, x7_62, x4_2, x7_64, x7_65, x7_66, Value.int IntKind.i64 1, Value.int IntKind.i64 0, x7_69, Value.bool true, Value.tuple #[Value.int IntKind.i64 0, Value.int IntKind.i64 60], x3_5, x8_1, x8_2, x8_3, Value.int IntKind.i64 0, Value.int IntKind.i64 60, Value.tuple #[Value.agg #[Value.string ByteArray.empty, Value.string ByteArray.empty], Value.int IntKind.i64 2], x3_4, x9_1, x9_2, x3_4, x3_4, x9_5, Value.agg #[Value.string ByteArray.empty, Value.string ByteArray.empty], Value.int IntKind.i64 2, Value.tuple #[Value.agg #[Value.string ByteArray.empty, Value.string ByteArray.empty], Value.int IntKind.i64 20], x3_4, x10_1, x10_2, x3_4, x3_4, x3_5, x10_6, Value.agg #[Value.string ByteArray.empty, Value.string ByteArray.empty], Value.int IntKind.i64 20, Value.tuple #[Value.agg #[Value.string ByteArray.empty, Value.string ByteArray.empty], Value.int IntKind.i64 2], x3_4, x11_1, x11_2, x3_4, x11_4, x11_5, x11_6, Value.agg #[Value.string ByteArray.empty, Value.string ByteArray.empty], Value.int IntKind.i64 2, Value.tuple #[Value.agg #[Value.string ByteArray.empty, Value.string ByteArray.empty], Value.int IntKind.i64 60], x3_5, x12_1, x12_2, x3_5, x3_5, x3_5, x12_6, Value.agg #[Value.string ByteArray.empty, Value.string ByteArray.empty], Value.int IntKind.i64 60, Value.tuple #[Value.agg #[Value.string { data := #[48] }, Value.string { data := #[49] }], Value.int IntKind.i64 0], x3_4, x13_1, x13_2, x3_4, x13_4, x13_5, x13_6, x13_7, x13_8, Value.agg #[Value.string { data := #[48] }, Value.string { data := #[49] }], Value.int IntKind.i64 0, undef, undef, undef, undef, undef, undef, undef, undef, undef, undef, undef, undef, undef, undef, undef, undef, undef, undef, undef, undef, undef, undef, undef, undef, undef, undef, undef, undef, undef, undef, undef, undef, undef, undef, undef, undef, undef, undef, undef, undef, undef, undef, undef, undef, undef, undef, undef, undef, undef, undef, undef, undef, undef, undef, undef, undef, undef, undef, undef, undef, undef, undef, undef, undef, undef, undef, undef, undef, undef, undef, undef, undef, undef, undef, undef, undef, undef, undef, undef, undef, undef, undef, undef, undef, undef, undef, undef, undef, undef, undef, undef, undef, undef, undef, undef, undef, undef, undef, undef, undef, undef, undef, undef, undef, undef, undef, undef, undef, undef, undef, undef, undef, undef, undef, undef, undef, undef, undef, undef, undef, undef, undef, undef, undef, undef, undef, undef, undef, undef, undef, undef, undef, undef, undef, undef, undef, undef, undef, undef, undef, undef, undef, undef, undef, undef, undef, undef, undef, undef, undef, undef, undef, undef, undef, undef, undef, undef, undef, undef, undef, undef, undef, undef, undef, undef, undef, undef, undef, undef, undef, undef, undef, undef, undef, undef, undef, undef, undef, undef, undef, undef, undef, undef, undef, undef, undef, undef, undef, undef, undef, undef, undef, undef, undef, undef, undef, undef, undef, undef, undef, undef, undef, undef, undef, undef, undef, undef, undef, undef, undef, undef, undef, undef, undef, undef, undef, undef, undef, undef, undef, undef, undef, undef, undef, undef, undef, undef, undef, undef, undef, undef, undef, undef, undef, undef, undef, undef, undef, undef, undef, undef, undef, undef, undef, undef, undef, undef, undef, undef, undef, undef, undef, undef, undef, undef, undef, undef, undef, undef, undef, undef, undef, undef, undef], []⟩ W13 := by
  unfold ops14
  dsimp only
  refine ro_region 118 [none, none, none, none, none, none, none, none, none, none, none, none, none, none, none, none, none, none, none, none, none, none, none, some (.strs [⟨#[48]⟩]), some (.fracs (qL [⟨#[48]⟩])), some (.frP (⟨#[48]⟩, ⟨#[49]⟩)), none, none, none, none, none, none, none, none, some (.boxF 101 (.int .i64 60)), none, some (.fracsE ([], 60)), some (.fracs ([])), none, some (.val (.bool true)), none, none, some (.boxF 101 (.int .i64 20)), none, some (.tab [qL [⟨#[49]⟩]]), some (.tab [qL [⟨#[49]⟩]]), none, some (.fracsE ([], 20)), some (.fracs ([])), none, some (.val (.bool true)), none, none, some (.boxF 101 (.int .i64 2)), none, some (.tab [qL [⟨#[49]⟩]]), some (.tab [qL [⟨#[49]⟩]]), some (.fracsE ([], 2)), some (.fracs ([])), none, some (.val (.bool true)), none, none, some (.boxF 101 (.int .i64 2)), none, none, some (.tab [qL [⟨#[49]⟩], qL [⟨#[49]⟩]]), some (.tab [qL [⟨#[49]⟩], qL [⟨#[49]⟩]]), some (.strs [⟨#[49]⟩, ⟨#[49]⟩]), some (.fracs (qL [⟨#[49]⟩, ⟨#[49]⟩])), some (.fracsE ([], 2)), some (.fracs ([])), none, some (.val (.bool true)), none, none, some (.boxF 101 (.int .i64 7)), some (.strs [⟨#[48]⟩]), some (.fracs (qL [⟨#[48]⟩])), some (.tab [qL [⟨#[48]⟩]]), some (.tab [qL [⟨#[48]⟩]]), some (.strs [⟨#[48]⟩]), some (.fracs (qL [⟨#[48]⟩])), some (.fracsE ([], 7)), some (.fracs ([])), none, some (.val (.bool true)), none, none, some (.strs [⟨#[49, 47, 50]⟩]), some (.isF 99 [⟨#[49, 47, 50]⟩]), some (.strs [⟨#[50, 47, 51]⟩]), some (.fracs (qL [⟨#[50, 47, 51]⟩])), some (.tab [qL [⟨#[50, 47, 51]⟩]]), some (.tab [qL [⟨#[50, 47, 51]⟩]]), some (.strs [⟨#[49, 47, 51]⟩]), some (.fracs (qL [⟨#[49, 47, 51]⟩])), some (.fracsE (qL [⟨#[49, 47, 50]⟩], 0)), some (.fracs (qL [⟨#[49, 47, 50]⟩])), none, some (.val (.bool true)), none, none, some (.strs [⟨#[50]⟩, ⟨#[49]⟩]), some (.isF 99 [⟨#[50]⟩, ⟨#[49]⟩]), some (.strs [⟨#[48]⟩, ⟨#[49]⟩]), some (.fracs (qL [⟨#[48]⟩, ⟨#[49]⟩])), some (.strs [⟨#[49]⟩, ⟨#[48]⟩]), some (.fracs (qL [⟨#[49]⟩, ⟨#[48]⟩])), some (.tab [qL [⟨#[48]⟩, ⟨#[49]⟩], qL [⟨#[49]⟩, ⟨#[48]⟩]]), some (.tab [qL [⟨#[48]⟩, ⟨#[49]⟩], qL [⟨#[49]⟩, ⟨#[48]⟩]]), some (.strs [⟨#[49]⟩, ⟨#[50]⟩]), some (.fracs (qL [⟨#[49]⟩, ⟨#[50]⟩])), some (.fracsE (qL [⟨#[50]⟩, ⟨#[49]⟩], 0)), some (.fracs (qL [⟨#[50]⟩, ⟨#[49]⟩])), none, some (.val (.bool true)), none] (by kernel_rfl) (by kernel_rfl) ?_
  go_simp
  refine ro_want (u := .bool true) (by rfl) (fun u hE hd => ?_) ?_
  · go_simp
  go_simp
  refine ro_want (u := .bool true) (by rfl) (fun u hE hd => ?_) ?_
  · go_simp
  go_simp
  refine ro_want (u := .int .i64 60) (by rfl) (fun u hE hd => ?_) ?_
  · go_simp
  go_simp
  refine ro_want (u := .bool true) (by rfl) (fun u hE hd => ?_) ?_
  · go_simp
  go_simp
  refine ro_want (u := .bool true) (by rfl) (fun u hE hd => ?_) ?_
  · go_simp
  go_simp
  refine ro_want (u := .bool true) (by rfl) (fun u hE hd => ?_) ?_
  · go_simp
  go_simp
  refine ro_want (u := .int .i64 2) (by rfl) (fun u hE hd => ?_) ?_
  · go_simp
  go_simp
  refine ro_want (u := .bool true) (by rfl) (fun u hE hd => ?_) ?_
  · go_simp
  go_simp
  refine ro_want (u := .bool true) (by rfl) (fun u hE hd => ?_) ?_
  · go_simp
  go_simp
  refine ro_want (u := .bool true) (by rfl) (fun u hE hd => ?_) ?_
  · go_simp
  go_simp
  refine ro_want (u := .int .i64 20) (by rfl) (fun u hE hd => ?_) ?_
  · go_simp
  go_simp
  refine ro_want (u := .bool true) (by rfl) (fun u hE hd => ?_) ?_
  · go_simp
  go_simp
  refine ro_want (u := .bool true) (by rfl) (fun u hE hd => ?_) ?_
  · go_simp
  go_simp
  refine ro_want (u := .bool true) (by rfl) (fun u hE hd => ?_) ?_
  · go_simp
  go_simp
  refine ro_want (u := .int .i64 2) (by rfl) (fun u hE hd => ?_) ?_
  · go_simp
  go_simp
  refine ro_want (u := .bool true) (by rfl) (fun u hE hd => ?_) ?_
  · go_simp
  go_simp
  refine ro_want (u := .bool true) (by rfl) (fun u hE hd => ?_) ?_
  · go_simp
  go_simp
  refine ro_want (u := .bool true) (by rfl) (fun u hE hd => ?_) ?_
  · go_simp
  go_simp
  refine ro_want (u := .int .i64 60) (by rfl) (fun u hE hd => ?_) ?_
  · go_simp
  go_simp
  refine ro_want (u := .bool true) (by rfl) (fun u hE hd => ?_) ?_
  · go_simp
  go_simp
  refine ro_want (u := .bool true) (by rfl) (fun u hE hd => ?_) ?_
  · go_simp
  go_simp
  refine ro_want (u := .bool true) (by rfl) (fun u hE hd => ?_) ?_
  · go_simp
  go_simp
  refine ro_want (u := frV (⟨#[48]⟩, ⟨#[49]⟩)) (by rfl) (fun u hE hd => ?_) ?_
  · have hX := X17.out _ (Ext.trans _ _ _ (Ext.drew _) hE)
    unfold frV
    go_simp
  go_simp
  apply ro_runw (by rfl)
  · intro u hE hd
    go_simp
    exact ⟨_, _, ⟨rfl, rfl⟩, Ext.alloc _ _, IsStrs.new (l := [⟨#[48]⟩]) (Blk.new' _ rfl rfl) (by decide)⟩
  intro x14_23
  go_simp
  apply ro_callw (by rfl) (fun w => by go_simp; exact ⟨rfl, rfl⟩)
  · intro u hE hd
    have h0 : IsStrs u x14_23 [⟨#[48]⟩] := hd ⟨23, .data⟩ (by simp) rfl
    exact q_ret _ _ u h0 (HENV.out.mono (Ext.trans _ _ _ HB.out (Ext.trans _ _ _ (Ext.drew _) hE))) (by decide) (by decide)
  intro x14_24
  go_simp
  apply ro_runw (by rfl)
  · intro u hE hd
    have h0 : IsFracs u x14_24 (qL [⟨#[48]⟩]) := hd ⟨24, .data⟩ (by simp) rfl
    obtain ⟨A0, c0, e0, hc0, _⟩ := id h0
    subst e0
    obtain ⟨b, o, e1, k1, k2⟩ := IsFracs.get h0 (i := 0) (x := (⟨#[48]⟩, ⟨#[49]⟩)) rfl
    subst e1
    have hl0 : (0 : Int) < ((qL [⟨#[48]⟩]).length : Int) := by decide
    have hl1 : 0 < (qL [⟨#[48]⟩]).length := by decide
    have hc1 : 0 < c0 := Nat.lt_of_lt_of_le hl1 hc0
    go_simp
    exact ⟨_, _, ⟨rfl, rfl⟩, Ext.refl _, _, _, rfl, k1, k2⟩
  intro x14_25
  go_simp
  refine ro_want (u := frV (⟨#[48]⟩, ⟨#[49]⟩)) (by rfl) (fun u hE hd => ?_) ?_
  · obtain ⟨b, o, e0, k1, k2⟩ := (hd ⟨25, .data⟩ (by simp) rfl : (Fact.frP (⟨#[48]⟩, ⟨#[49]⟩)).S x14_25 u)
    subst e0
    unfold frV
    go_simp
  go_simp
  refine ro_want (u := .bool true) (by rfl) (fun u hE hd => ?_) ?_
  · unfold frV; go_simp
  go_simp
  refine ro_want (u := .bool true) (by rfl) (fun u hE hd => ?_) ?_
  · go_simp
  go_simp
  refine ro_want (u := .bool true) (by rfl) (fun u hE hd => ?_) ?_
  · go_simp
  go_simp
  refine ro_want (u := .int .i64 0) (by rfl) (fun u hE hd => ?_) ?_
  · go_simp
  go_simp
  refine ro_want (u := .bool true) (by rfl) (fun u hE hd => ?_) ?_
  · go_simp
  go_simp
  refine ro_want (u := .bool true) (by rfl) (fun u hE hd => ?_) ?_
  · go_simp
  go_simp
  refine ro_want (u := .bool true) (by rfl) (fun u hE hd => ?_) ?_
  · go_simp
  go_simp
  apply ro_callw (by rfl) (fun w => by go_simp; exact ⟨rfl, rfl⟩)
  · intro u hE hd
    exact fails_any _ u
  intro x14_34
  go_simp
  refine ro_want (u := x3_5) (by rfl) (fun u hE hd => ?_) ?_
  · go_simp
  go_simp
  apply ro_callw (by rfl) (fun w => by go_simp; exact ⟨rfl, rfl⟩)
  · intro u hE hd
    have h0 : IsTab u (.slice none 0 0) [] := ⟨none, 0, rfl, Nat.le_refl _, Nat.zero_le _, .inl rfl⟩
    have h1 : IsFracs u x3_5 ([(⟨#[]⟩, ⟨#[]⟩)]) := (Fact.fracs ([(⟨#[]⟩, ⟨#[]⟩)])).st _ _ _ (Ext.trans _ _ _ (Ext.drew _) hE) K2.out
    exact lsolve_ret _ _ _ _ _ u h0 h1 (HENV.out.mono (Ext.trans _ _ _ HB.out (Ext.trans _ _ _ (Ext.drew _) hE))).tab kx17
  intro x14_36
  go_simp
  apply ro_runw (by rfl)
  · intro u hE hd
    have h0 : (Fact.fracsE ([], 60)).S x14_36 u := hd ⟨36, .data⟩ (by simp) rfl
    obtain ⟨l, e0, hl⟩ := h0
    subst e0
    go_simp
    exact ⟨_, _, ⟨rfl, rfl⟩, Ext.refl _, hl⟩
  intro x14_37
  go_simp
  refine ro_want (u := .int .i64 60) (by rfl) (fun u hE hd => ?_) ?_
  · have h0 : (Fact.fracsE ([], 60)).S x14_36 u := hd ⟨36, .data⟩ (by simp) rfl
    obtain ⟨l, e0, hl⟩ := h0
    subst e0
    go_simp
  go_simp
  apply ro_callD (by rfl)
  · intro u hE hd
    have hf : (Fact.boxF 101 (.int .i64 60)).S x14_34 u := hd ⟨34, .data⟩ (by simp) rfl
    have h0 : IsFracs u x14_37 ([]) := hd ⟨37, .data⟩ (by simp) rfl
    obtain ⟨g, e0, hg⟩ := hf
    subst e0
    refine ⟨101, #[x14_37, .int .i64 60, .pointer (some ⟨g, 0, none⟩)], by have eg := enters_of Tryz.func101 (by kernel_rfl) rfl; go_simp, ?_⟩
    refine (fails1_any g _ _ ([], 60) u hg h0).mono ?_
    rintro e w' ⟨e1, hE1⟩
    exact ⟨_, e1, congrArg Value.bool kx18, hE1⟩
  intro x14_39
  go_simp
  refine ro_want (u := .bool true) (by rfl) (fun u hE hd => ?_) ?_
  · have h0 : (x14_39 : Value) = .bool true := hd ⟨39, .data⟩ (by simp) rfl
    subst h0
    go_simp
  go_simp
  refine ro_want (u := .bool true) (by rfl) (fun u hE hd => ?_) ?_
  · go_simp
  go_simp
  apply ro_callw (by rfl) (fun w => by go_simp; exact ⟨rfl, rfl⟩)
  · intro u hE hd
    exact fails_any _ u
  intro x14_42
  go_simp
  refine ro_want (u := x3_4) (by rfl) (fun u hE hd => ?_) ?_
  · go_simp
  go_simp
  apply ro_runw (by rfl)
  · intro u hE hd
    have h0 : IsFracs u x3_4 (qL [⟨#[49]⟩]) := (Fact.fracs (qL [⟨#[49]⟩])).st _ _ _ (Ext.trans _ _ _ (Ext.drew _) hE) K1.out
    obtain ⟨A0, c0, e0, _⟩ := id h0
    subst e0
    go_simp
    exact ⟨_, _, ⟨rfl, rfl⟩, Ext.alloc _ _, IsTab.one (Blk.new' _ rfl rfl) (h0.mono (Ext.alloc _ _))⟩
  intro x14_44
  go_simp
  apply ro_callw (by rfl) (fun w => by go_simp; exact ⟨rfl, rfl⟩)
  · intro u hE hd
    have h0 : IsTab u x14_44 [qL [⟨#[49]⟩]] := hd ⟨44, .data⟩ (by simp) rfl
    exact rows_any _ _ u h0
  intro x14_45
  go_simp
  refine ro_want (u := x3_5) (by rfl) (fun u hE hd => ?_) ?_
  · go_simp
  go_simp
  apply ro_callw (by rfl) (fun w => by go_simp; exact ⟨rfl, rfl⟩)
  · intro u hE hd
    have h0 : IsTab u x14_45 [qL [⟨#[49]⟩]] := hd ⟨45, .data⟩ (by simp) rfl
    have h1 : IsFracs u x3_5 ([(⟨#[]⟩, ⟨#[]⟩)]) := (Fact.fracs ([(⟨#[]⟩, ⟨#[]⟩)])).st _ _ _ (Ext.trans _ _ _ (Ext.drew _) hE) K2.out
    exact lsolve_ret _ _ _ _ _ u h0 h1 (HENV.out.mono (Ext.trans _ _ _ HB.out (Ext.trans _ _ _ (Ext.drew _) hE))).tab kx19
  intro x14_47
  go_simp
  apply ro_runw (by rfl)
  · intro u hE hd
    have h0 : (Fact.fracsE ([], 20)).S x14_47 u := hd ⟨47, .data⟩ (by simp) rfl
    obtain ⟨l, e0, hl⟩ := h0
    subst e0
    go_simp
    exact ⟨_, _, ⟨rfl, rfl⟩, Ext.refl _, hl⟩
  intro x14_48
  go_simp
  refine ro_want (u := .int .i64 20) (by rfl) (fun u hE hd => ?_) ?_
  · have h0 : (Fact.fracsE ([], 20)).S x14_47 u := hd ⟨47, .data⟩ (by simp) rfl
    obtain ⟨l, e0, hl⟩ := h0
    subst e0
    go_simp
  go_simp
  apply ro_callD (by rfl)
  · intro u hE hd
    have hf : (Fact.boxF 101 (.int .i64 20)).S x14_42 u := hd ⟨42, .data⟩ (by simp) rfl
    have h0 : IsFracs u x14_48 ([]) := hd ⟨48, .data⟩ (by simp) rfl
    obtain ⟨g, e0, hg⟩ := hf
    subst e0
    refine ⟨101, #[x14_48, .int .i64 20, .pointer (some ⟨g, 0, none⟩)], by have eg := enters_of Tryz.func101 (by kernel_rfl) rfl; go_simp, ?_⟩
    refine (fails1_any g _ _ ([], 20) u hg h0).mono ?_
    rintro e w' ⟨e1, hE1⟩
    exact ⟨_, e1, congrArg Value.bool kx20, hE1⟩
  intro x14_50
  go_simp
  refine ro_want (u := .bool true) (by rfl) (fun u hE hd => ?_) ?_
  · have h0 : (x14_50 : Value) = .bool true := hd ⟨50, .data⟩ (by simp) rfl
    subst h0
    go_simp
  go_simp
  refine ro_want (u := .bool true) (by rfl) (fun u hE hd => ?_) ?_
  · go_simp
  go_simp
  apply ro_callw (by rfl) (fun w => by go_simp; exact ⟨rfl, rfl⟩)
  · intro u hE hd
    exact fails_any _ u
  intro x14_53
  go_simp
  refine ro_want (u := x3_4) (by rfl) (fun u hE hd => ?_) ?_
  · go_simp
  go_simp
  apply ro_runw (by rfl)
  · intro u hE hd
    have h0 : IsFracs u x3_4 (qL [⟨#[49]⟩]) := (Fact.fracs (qL [⟨#[49]⟩])).st _ _ _ (Ext.trans _ _ _ (Ext.drew _) hE) K1.out
    obtain ⟨A0, c0, e0, _⟩ := id h0
    subst e0
    go_simp
    exact ⟨_, _, ⟨rfl, rfl⟩, Ext.alloc _ _, IsTab.one (Blk.new' _ rfl rfl) (h0.mono (Ext.alloc _ _))⟩
  intro x14_55
  go_simp
  apply ro_callw (by rfl) (fun w => by go_simp; exact ⟨rfl, rfl⟩)
  · intro u hE hd
    have h0 : IsTab u x14_55 [qL [⟨#[49]⟩]] := hd ⟨55, .data⟩ (by simp) rfl
    exact rows_any _ _ u h0
  intro x14_56
  go_simp
  apply ro_callw (by rfl) (fun w => by go_simp; exact ⟨rfl, rfl⟩)
  · intro u hE hd
    have h0 : IsTab u x14_56 [qL [⟨#[49]⟩]] := hd ⟨56, .data⟩ (by simp) rfl
    have h1 : IsFracs u (.slice none 0 0) [] := ⟨none, 0, rfl, Nat.le_refl _, Nat.zero_le _, .inl rfl⟩
    exact lsolve_ret _ _ _ _ _ u h0 h1 (HENV.out.mono (Ext.trans _ _ _ HB.out (Ext.trans _ _ _ (Ext.drew _) hE))).tab kx21
  intro x14_57
  go_simp
  apply ro_runw (by rfl)
  · intro u hE hd
    have h0 : (Fact.fracsE ([], 2)).S x14_57 u := hd ⟨57, .data⟩ (by simp) rfl
    obtain ⟨l, e0, hl⟩ := h0
    subst e0
    go_simp
    exact ⟨_, _, ⟨rfl, rfl⟩, Ext.refl _, hl⟩
  intro x14_58
  go_simp
  refine ro_want (u := .int .i64 2) (by rfl) (fun u hE hd => ?_) ?_
  · have h0 : (Fact.fracsE ([], 2)).S x14_57 u := hd ⟨57, .data⟩ (by simp) rfl
    obtain ⟨l, e0, hl⟩ := h0
    subst e0
    go_simp
  go_simp
  apply ro_callD (by rfl)
  · intro u hE hd
    have hf : (Fact.boxF 101 (.int .i64 2)).S x14_53 u := hd ⟨53, .data⟩ (by simp) rfl
    have h0 : IsFracs u x14_58 ([]) := hd ⟨58, .data⟩ (by simp) rfl
    obtain ⟨g, e0, hg⟩ := hf
    subst e0
    refine ⟨101, #[x14_58, .int .i64 2, .pointer (some ⟨g, 0, none⟩)], by have eg := enters_of Tryz.func101 (by kernel_rfl) rfl; go_simp, ?_⟩
    refine (fails1_any g _ _ ([], 2) u hg h0).mono ?_
    rintro e w' ⟨e1, hE1⟩
    exact ⟨_, e1, congrArg Value.bool kx22, hE1⟩
  intro x14_60
  go_simp
  refine ro_want (u := .bool true) (by rfl) (fun u hE hd => ?_) ?_
  · have h0 : (x14_60 : Value) = .bool true := hd ⟨60, .data⟩ (by simp) rfl
    subst h0
    go_simp
  go_simp
  refine ro_want (u := .bool true) (by rfl) (fun u hE hd => ?_) ?_
  · go_simp
  go_simp
  apply ro_callw (by rfl) (fun w => by go_simp; exact ⟨rfl, rfl⟩)
  · intro u hE hd
    exact fails_any _ u
  intro x14_63
  go_simp
  refine ro_want (u := x3_4) (by rfl) (fun u hE hd => ?_) ?_
  · go_simp
  go_simp
  refine ro_want (u := x3_4) (by rfl) (fun u hE hd => ?_) ?_
  · go_simp
  go_simp
  apply ro_runw (by rfl)
  · intro u hE hd
    have h0 : IsFracs u x3_4 (qL [⟨#[49]⟩]) := (Fact.fracs (qL [⟨#[49]⟩])).st _ _ _ (Ext.trans _ _ _ (Ext.drew _) hE) K1.out
    have h1 : IsFracs u x3_4 (qL [⟨#[49]⟩]) := (Fact.fracs (qL [⟨#[49]⟩])).st _ _ _ (Ext.trans _ _ _ (Ext.drew _) hE) K1.out
    obtain ⟨A0, c0, e0, _⟩ := id h0
    subst e0
    go_simp
    exact ⟨_, _, ⟨rfl, rfl⟩, Ext.alloc _ _, IsTab.two (Blk.new' _ rfl rfl) (h0.mono (Ext.alloc _ _)) (h1.mono (Ext.alloc _ _))⟩
  intro x14_66
  go_simp
  apply ro_callw (by rfl) (fun w => by go_simp; exact ⟨rfl, rfl⟩)
  · intro u hE hd
    have h0 : IsTab u x14_66 [qL [⟨#[49]⟩], qL [⟨#[49]⟩]] := hd ⟨66, .data⟩ (by simp) rfl
    exact rows_any _ _ u h0
  intro x14_67
  go_simp
  apply ro_runw (by rfl)
  · intro u hE hd
    go_simp
    exact ⟨_, _, ⟨rfl, rfl⟩, Ext.alloc _ _, IsStrs.new (l := [⟨#[49]⟩, ⟨#[49]⟩]) (Blk.new' _ rfl rfl) (by decide)⟩
  intro x14_68
  go_simp
  apply ro_callw (by rfl) (fun w => by go_simp; exact ⟨rfl, rfl⟩)
  · intro u hE hd
    have h0 : IsStrs u x14_68 [⟨#[49]⟩, ⟨#[49]⟩] := hd ⟨68, .data⟩ (by simp) rfl
    exact q_ret _ _ u h0 (HENV.out.mono (Ext.trans _ _ _ HB.out (Ext.trans _ _ _ (Ext.drew _) hE))) (by decide) (by decide)
  intro x14_69
  go_simp
  apply ro_callw (by rfl) (fun w => by go_simp; exact ⟨rfl, rfl⟩)
  · intro u hE hd
    have h0 : IsTab u x14_67 [qL [⟨#[49]⟩], qL [⟨#[49]⟩]] := hd ⟨67, .data⟩ (by simp) rfl
    have h1 : IsFracs u x14_69 (qL [⟨#[49]⟩, ⟨#[49]⟩]) := hd ⟨69, .data⟩ (by simp) rfl
    exact lsolve_ret _ _ _ _ _ u h0 h1 (HENV.out.mono (Ext.trans _ _ _ HB.out (Ext.trans _ _ _ (Ext.drew _) hE))).tab kx23
  intro x14_70
  go_simp
  apply ro_runw (by rfl)
  · intro u hE hd
    have h0 : (Fact.fracsE ([], 2)).S x14_70 u := hd ⟨70, .data⟩ (by simp) rfl
    obtain ⟨l, e0, hl⟩ := h0
    subst e0
    go_simp
    exact ⟨_, _, ⟨rfl, rfl⟩, Ext.refl _, hl⟩
  intro x14_71
  go_simp
  refine ro_want (u := .int .i64 2) (by rfl) (fun u hE hd => ?_) ?_
  · have h0 : (Fact.fracsE ([], 2)).S x14_70 u := hd ⟨70, .data⟩ (by simp) rfl
    obtain ⟨l, e0, hl⟩ := h0
    subst e0
    go_simp
  go_simp
  apply ro_callD (by rfl)
  · intro u hE hd
    have hf : (Fact.boxF 101 (.int .i64 2)).S x14_63 u := hd ⟨63, .data⟩ (by simp) rfl
    have h0 : IsFracs u x14_71 ([]) := hd ⟨71, .data⟩ (by simp) rfl
    obtain ⟨g, e0, hg⟩ := hf
    subst e0
    refine ⟨101, #[x14_71, .int .i64 2, .pointer (some ⟨g, 0, none⟩)], by have eg := enters_of Tryz.func101 (by kernel_rfl) rfl; go_simp, ?_⟩
    refine (fails1_any g _ _ ([], 2) u hg h0).mono ?_
    rintro e w' ⟨e1, hE1⟩
    exact ⟨_, e1, congrArg Value.bool kx22, hE1⟩
  intro x14_73
  go_simp
  refine ro_want (u := .bool true) (by rfl) (fun u hE hd => ?_) ?_
  · have h0 : (x14_73 : Value) = .bool true := hd ⟨73, .data⟩ (by simp) rfl
    subst h0
    go_simp
  go_simp
  refine ro_want (u := .bool true) (by rfl) (fun u hE hd => ?_) ?_
  · go_simp
  go_simp
  apply ro_callw (by rfl) (fun w => by go_simp; exact ⟨rfl, rfl⟩)
  · intro u hE hd
    exact fails_any _ u
  intro x14_76
  go_simp
  apply ro_runw (by rfl)
  · intro u hE hd
    go_simp
    exact ⟨_, _, ⟨rfl, rfl⟩, Ext.alloc _ _, IsStrs.new (l := [⟨#[48]⟩]) (Blk.new' _ rfl rfl) (by decide)⟩
  intro x14_77
  go_simp
  apply ro_callw (by rfl) (fun w => by go_simp; exact ⟨rfl, rfl⟩)
  · intro u hE hd
    have h0 : IsStrs u x14_77 [⟨#[48]⟩] := hd ⟨77, .data⟩ (by simp) rfl
    exact q_ret _ _ u h0 (HENV.out.mono (Ext.trans _ _ _ HB.out (Ext.trans _ _ _ (Ext.drew _) hE))) (by decide) (by decide)
  intro x14_78
  go_simp
  apply ro_runw (by rfl)
  · intro u hE hd
    have h0 : IsFracs u x14_78 (qL [⟨#[48]⟩]) := hd ⟨78, .data⟩ (by simp) rfl
    obtain ⟨A0, c0, e0, _⟩ := id h0
    subst e0
    go_simp
    exact ⟨_, _, ⟨rfl, rfl⟩, Ext.alloc _ _, IsTab.one (Blk.new' _ rfl rfl) (h0.mono (Ext.alloc _ _))⟩
  intro x14_79
  go_simp
  apply ro_callw (by rfl) (fun w => by go_simp; exact ⟨rfl, rfl⟩)
  · intro u hE hd
    have h0 : IsTab u x14_79 [qL [⟨#[48]⟩]] := hd ⟨79, .data⟩ (by simp) rfl
    exact rows_any _ _ u h0
  intro x14_80
  go_simp
  apply ro_runw (by rfl)
  · intro u hE hd
    go_simp
    exact ⟨_, _, ⟨rfl, rfl⟩, Ext.alloc _ _, IsStrs.new (l := [⟨#[48]⟩]) (Blk.new' _ rfl rfl) (by decide)⟩
  intro x14_81
  go_simp
  apply ro_callw (by rfl) (fun w => by go_simp; exact ⟨rfl, rfl⟩)
  · intro u hE hd
    have h0 : IsStrs u x14_81 [⟨#[48]⟩] := hd ⟨81, .data⟩ (by simp) rfl
    exact q_ret _ _ u h0 (HENV.out.mono (Ext.trans _ _ _ HB.out (Ext.trans _ _ _ (Ext.drew _) hE))) (by decide) (by decide)
  intro x14_82
  go_simp
  apply ro_callw (by rfl) (fun w => by go_simp; exact ⟨rfl, rfl⟩)
  · intro u hE hd
    have h0 : IsTab u x14_80 [qL [⟨#[48]⟩]] := hd ⟨80, .data⟩ (by simp) rfl
    have h1 : IsFracs u x14_82 (qL [⟨#[48]⟩]) := hd ⟨82, .data⟩ (by simp) rfl
    exact lsolve_ret _ _ _ _ _ u h0 h1 (HENV.out.mono (Ext.trans _ _ _ HB.out (Ext.trans _ _ _ (Ext.drew _) hE))).tab kx24
  intro x14_83
  go_simp
  apply ro_runw (by rfl)
  · intro u hE hd
    have h0 : (Fact.fracsE ([], 7)).S x14_83 u := hd ⟨83, .data⟩ (by simp) rfl
    obtain ⟨l, e0, hl⟩ := h0
    subst e0
    go_simp
    exact ⟨_, _, ⟨rfl, rfl⟩, Ext.refl _, hl⟩
  intro x14_84
  go_simp
  refine ro_want (u := .int .i64 7) (by rfl) (fun u hE hd => ?_) ?_
  · have h0 : (Fact.fracsE ([], 7)).S x14_83 u := hd ⟨83, .data⟩ (by simp) rfl
    obtain ⟨l, e0, hl⟩ := h0
    subst e0
    go_simp
  go_simp
  apply ro_callD (by rfl)
  · intro u hE hd
    have hf : (Fact.boxF 101 (.int .i64 7)).S x14_76 u := hd ⟨76, .data⟩ (by simp) rfl
    have h0 : IsFracs u x14_84 ([]) := hd ⟨84, .data⟩ (by simp) rfl
    obtain ⟨g, e0, hg⟩ := hf
    subst e0
    refine ⟨101, #[x14_84, .int .i64 7, .pointer (some ⟨g, 0, none⟩)], by have eg := enters_of Tryz.func101 (by kernel_rfl) rfl; go_simp, ?_⟩
    refine (fails1_any g _ _ ([], 7) u hg h0).mono ?_
    rintro e w' ⟨e1, hE1⟩
    exact ⟨_, e1, congrArg Value.bool kx25, hE1⟩
  intro x14_86
  go_simp
  refine ro_want (u := .bool true) (by rfl) (fun u hE hd => ?_) ?_
  · have h0 : (x14_86 : Value) = .bool true := hd ⟨86, .data⟩ (by simp) rfl
    subst h0
    go_simp
  go_simp
  refine ro_want (u := .bool true) (by rfl) (fun u hE hd => ?_) ?_
  · go_simp
  go_simp
  apply ro_runw (by rfl)
  · intro u hE hd
    go_simp
    exact ⟨_, _, ⟨rfl, rfl⟩, Ext.alloc _ _, IsStrs.new (l := [⟨#[49, 47, 50]⟩]) (Blk.new' _ rfl rfl) (by decide)⟩
  intro x14_89
  go_simp
  apply ro_callw (by rfl) (fun w => by go_simp; exact ⟨rfl, rfl⟩)
  · intro u hE hd
    have h0 : IsStrs u x14_89 [⟨#[49, 47, 50]⟩] := hd ⟨89, .data⟩ (by simp) rfl
    exact is_any _ _ u h0
  intro x14_90
  go_simp
  apply ro_runw (by rfl)
  · intro u hE hd
    go_simp
    exact ⟨_, _, ⟨rfl, rfl⟩, Ext.alloc _ _, IsStrs.new (l := [⟨#[50, 47, 51]⟩]) (Blk.new' _ rfl rfl) (by decide)⟩
  intro x14_91
  go_simp
  apply ro_callw (by rfl) (fun w => by go_simp; exact ⟨rfl, rfl⟩)
  · intro u hE hd
    have h0 : IsStrs u x14_91 [⟨#[50, 47, 51]⟩] := hd ⟨91, .data⟩ (by simp) rfl
    exact q_ret _ _ u h0 (HENV.out.mono (Ext.trans _ _ _ HB.out (Ext.trans _ _ _ (Ext.drew _) hE))) (by decide) (by decide)
  intro x14_92
  go_simp
  apply ro_runw (by rfl)
  · intro u hE hd
    have h0 : IsFracs u x14_92 (qL [⟨#[50, 47, 51]⟩]) := hd ⟨92, .data⟩ (by simp) rfl
    obtain ⟨A0, c0, e0, _⟩ := id h0
    subst e0
    go_simp
    exact ⟨_, _, ⟨rfl, rfl⟩, Ext.alloc _ _, IsTab.one (Blk.new' _ rfl rfl) (h0.mono (Ext.alloc _ _))⟩
  intro x14_93
  go_simp
  apply ro_callw (by rfl) (fun w => by go_simp; exact ⟨rfl, rfl⟩)
  · intro u hE hd
    have h0 : IsTab u x14_93 [qL [⟨#[50, 47, 51]⟩]] := hd ⟨93, .data⟩ (by simp) rfl
    exact rows_any _ _ u h0
  intro x14_94
  go_simp
  apply ro_runw (by rfl)
  · intro u hE hd
    go_simp
    exact ⟨_, _, ⟨rfl, rfl⟩, Ext.alloc _ _, IsStrs.new (l := [⟨#[49, 47, 51]⟩]) (Blk.new' _ rfl rfl) (by decide)⟩
  intro x14_95
  go_simp
  apply ro_callw (by rfl) (fun w => by go_simp; exact ⟨rfl, rfl⟩)
  · intro u hE hd
    have h0 : IsStrs u x14_95 [⟨#[49, 47, 51]⟩] := hd ⟨95, .data⟩ (by simp) rfl
    exact q_ret _ _ u h0 (HENV.out.mono (Ext.trans _ _ _ HB.out (Ext.trans _ _ _ (Ext.drew _) hE))) (by decide) (by decide)
  intro x14_96
  go_simp
  apply ro_callw (by rfl) (fun w => by go_simp; exact ⟨rfl, rfl⟩)
  · intro u hE hd
    have h0 : IsTab u x14_94 [qL [⟨#[50, 47, 51]⟩]] := hd ⟨94, .data⟩ (by simp) rfl
    have h1 : IsFracs u x14_96 (qL [⟨#[49, 47, 51]⟩]) := hd ⟨96, .data⟩ (by simp) rfl
    exact lsolve_ret _ _ _ _ _ u h0 h1 (HENV.out.mono (Ext.trans _ _ _ HB.out (Ext.trans _ _ _ (Ext.drew _) hE))).tab kx26
  intro x14_97
  go_simp
  apply ro_runw (by rfl)
  · intro u hE hd
    have h0 : (Fact.fracsE (qL [⟨#[49, 47, 50]⟩], 0)).S x14_97 u := hd ⟨97, .data⟩ (by simp) rfl
    obtain ⟨l, e0, hl⟩ := h0
    subst e0
    go_simp
    exact ⟨_, _, ⟨rfl, rfl⟩, Ext.refl _, hl⟩
  intro x14_98
  go_simp
  refine ro_want (u := .int .i64 0) (by rfl) (fun u hE hd => ?_) ?_
  · have h0 : (Fact.fracsE (qL [⟨#[49, 47, 50]⟩], 0)).S x14_97 u := hd ⟨97, .data⟩ (by simp) rfl
    obtain ⟨l, e0, hl⟩ := h0
    subst e0
    go_simp
  go_simp
  apply ro_callD (by rfl)
  · intro u hE hd
    have hf : (Fact.isF 99 [⟨#[49, 47, 50]⟩]).S x14_90 u := hd ⟨90, .data⟩ (by simp) rfl
    have h0 : IsFracs u x14_98 (qL [⟨#[49, 47, 50]⟩]) := hd ⟨98, .data⟩ (by simp) rfl
    obtain ⟨g, vs, e0, hg, hs⟩ := hf
    subst e0
    refine ⟨99, #[x14_98, .int .i64 0, .pointer (some ⟨g, 0, none⟩)], by have eg := enters_of Tryz.func99 (by kernel_rfl) rfl; go_simp, ?_⟩
    refine (is1_any g _ vs _ (qL [⟨#[49, 47, 50]⟩], 0) u hg hs h0 (HENV.out.mono (Ext.trans _ _ _ HB.out (Ext.trans _ _ _ (Ext.drew _) hE))) (by decide) (by decide)).mono ?_
    rintro e w' ⟨e1, hE1⟩
    exact ⟨_, e1, congrArg Value.bool kx27, hE1⟩
  intro x14_100
  go_simp
  refine ro_want (u := .bool true) (by rfl) (fun u hE hd => ?_) ?_
  · have h0 : (x14_100 : Value) = .bool true := hd ⟨100, .data⟩ (by simp) rfl
    subst h0
    go_simp
  go_simp
  refine ro_want (u := .bool true) (by rfl) (fun u hE hd => ?_) ?_
  · go_simp
  go_simp
  apply ro_runw (by rfl)
  · intro u hE hd
    go_simp
    exact ⟨_, _, ⟨rfl, rfl⟩, Ext.alloc _ _, IsStrs.new (l := [⟨#[50]⟩, ⟨#[49]⟩]) (Blk.new' _ rfl rfl) (by decide)⟩
  intro x14_103
  go_simp
  apply ro_callw (by rfl) (fun w => by go_simp; exact ⟨rfl, rfl⟩)
  · intro u hE hd
    have h0 : IsStrs u x14_103 [⟨#[50]⟩, ⟨#[49]⟩] := hd ⟨103, .data⟩ (by simp) rfl
    exact is_any _ _ u h0
  intro x14_104
  go_simp
  apply ro_runw (by rfl)
  · intro u hE hd
    go_simp
    exact ⟨_, _, ⟨rfl, rfl⟩, Ext.alloc _ _, IsStrs.new (l := [⟨#[48]⟩, ⟨#[49]⟩]) (Blk.new' _ rfl rfl) (by decide)⟩
  intro x14_105
  go_simp
  apply ro_callw (by rfl) (fun w => by go_simp; exact ⟨rfl, rfl⟩)
  · intro u hE hd
    have h0 : IsStrs u x14_105 [⟨#[48]⟩, ⟨#[49]⟩] := hd ⟨105, .data⟩ (by simp) rfl
    exact q_ret _ _ u h0 (HENV.out.mono (Ext.trans _ _ _ HB.out (Ext.trans _ _ _ (Ext.drew _) hE))) (by decide) (by decide)
  intro x14_106
  go_simp
  apply ro_runw (by rfl)
  · intro u hE hd
    go_simp
    exact ⟨_, _, ⟨rfl, rfl⟩, Ext.alloc _ _, IsStrs.new (l := [⟨#[49]⟩, ⟨#[48]⟩]) (Blk.new' _ rfl rfl) (by decide)⟩
  intro x14_107
  go_simp
  apply ro_callw (by rfl) (fun w => by go_simp; exact ⟨rfl, rfl⟩)
  · intro u hE hd
    have h0 : IsStrs u x14_107 [⟨#[49]⟩, ⟨#[48]⟩] := hd ⟨107, .data⟩ (by simp) rfl
    exact q_ret _ _ u h0 (HENV.out.mono (Ext.trans _ _ _ HB.out (Ext.trans _ _ _ (Ext.drew _) hE))) (by decide) (by decide)
  intro x14_108
  go_simp
  apply ro_runw (by rfl)
  · intro u hE hd
    have h0 : IsFracs u x14_106 (qL [⟨#[48]⟩, ⟨#[49]⟩]) := hd ⟨106, .data⟩ (by simp) rfl
    have h1 : IsFracs u x14_108 (qL [⟨#[49]⟩, ⟨#[48]⟩]) := hd ⟨108, .data⟩ (by simp) rfl
    obtain ⟨A0, c0, e0, _⟩ := id h0
    subst e0
    obtain ⟨A1, c1, e1, _⟩ := id h1
    subst e1
    go_simp
    exact ⟨_, _, ⟨rfl, rfl⟩, Ext.alloc _ _, IsTab.two (Blk.new' _ rfl rfl) (h0.mono (Ext.alloc _ _)) (h1.mono (Ext.alloc _ _))⟩
  intro x14_109
  go_simp
  apply ro_callw (by rfl) (fun w => by go_simp; exact ⟨rfl, rfl⟩)
  · intro u hE hd
    have h0 : IsTab u x14_109 [qL [⟨#[48]⟩, ⟨#[49]⟩], qL [⟨#[49]⟩, ⟨#[48]⟩]] := hd ⟨109, .data⟩ (by simp) rfl
    exact rows_any _ _ u h0
  intro x14_110
  go_simp
  apply ro_runw (by rfl)
  · intro u hE hd
    go_simp
    exact ⟨_, _, ⟨rfl, rfl⟩, Ext.alloc _ _, IsStrs.new (l := [⟨#[49]⟩, ⟨#[50]⟩]) (Blk.new' _ rfl rfl) (by decide)⟩
  intro x14_111
  go_simp
  apply ro_callw (by rfl) (fun w => by go_simp; exact ⟨rfl, rfl⟩)
  · intro u hE hd
    have h0 : IsStrs u x14_111 [⟨#[49]⟩, ⟨#[50]⟩] := hd ⟨111, .data⟩ (by simp) rfl
    exact q_ret _ _ u h0 (HENV.out.mono (Ext.trans _ _ _ HB.out (Ext.trans _ _ _ (Ext.drew _) hE))) (by decide) (by decide)
  intro x14_112
  go_simp
  apply ro_callw (by rfl) (fun w => by go_simp; exact ⟨rfl, rfl⟩)
  · intro u hE hd
    have h0 : IsTab u x14_110 [qL [⟨#[48]⟩, ⟨#[49]⟩], qL [⟨#[49]⟩, ⟨#[48]⟩]] := hd ⟨110, .data⟩ (by simp) rfl
    have h1 : IsFracs u x14_112 (qL [⟨#[49]⟩, ⟨#[50]⟩]) := hd ⟨112, .data⟩ (by simp) rfl
    exact lsolve_ret _ _ _ _ _ u h0 h1 (HENV.out.mono (Ext.trans _ _ _ HB.out (Ext.trans _ _ _ (Ext.drew _) hE))).tab kx28
  intro x14_113
  go_simp
  apply ro_runw (by rfl)
  · intro u hE hd
    have h0 : (Fact.fracsE (qL [⟨#[50]⟩, ⟨#[49]⟩], 0)).S x14_113 u := hd ⟨113, .data⟩ (by simp) rfl
    obtain ⟨l, e0, hl⟩ := h0
    subst e0
    go_simp
    exact ⟨_, _, ⟨rfl, rfl⟩, Ext.refl _, hl⟩
  intro x14_114
  go_simp
  refine ro_want (u := .int .i64 0) (by rfl) (fun u hE hd => ?_) ?_
  · have h0 : (Fact.fracsE (qL [⟨#[50]⟩, ⟨#[49]⟩], 0)).S x14_113 u := hd ⟨113, .data⟩ (by simp) rfl
    obtain ⟨l, e0, hl⟩ := h0
    subst e0
    go_simp
  go_simp
  apply ro_callD (by rfl)
  · intro u hE hd
    have hf : (Fact.isF 99 [⟨#[50]⟩, ⟨#[49]⟩]).S x14_104 u := hd ⟨104, .data⟩ (by simp) rfl
    have h0 : IsFracs u x14_114 (qL [⟨#[50]⟩, ⟨#[49]⟩]) := hd ⟨114, .data⟩ (by simp) rfl
    obtain ⟨g, vs, e0, hg, hs⟩ := hf
    subst e0
    refine ⟨99, #[x14_114, .int .i64 0, .pointer (some ⟨g, 0, none⟩)], by have eg := enters_of Tryz.func99 (by kernel_rfl) rfl; go_simp, ?_⟩
    refine (is1_any g _ vs _ (qL [⟨#[50]⟩, ⟨#[49]⟩], 0) u hg hs h0 (HENV.out.mono (Ext.trans _ _ _ HB.out (Ext.trans _ _ _ (Ext.drew _) hE))) (by decide) (by decide)).mono ?_
    rintro e w' ⟨e1, hE1⟩
    exact ⟨_, e1, congrArg Value.bool kx29, hE1⟩
  intro x14_116
  go_simp
  refine ro_want (u := .bool true) (by rfl) (fun u hE hd => ?_) ?_
  · have h0 : (x14_116 : Value) = .bool true := hd ⟨116, .data⟩ (by simp) rfl
    subst h0
    go_simp
  go_simp
  refine ro_done (fun u14 hE hf => ?_)
  clear hf
  simp only [List.drop_succ_cons, List.drop_zero]
  go_wp2
  exact hK.out _ _ _ _ _ _ _ _ _ _ _ _ _ _ _ _ _ _ _ _ _ _ _ _ _ _ _ _ _ _ _ _ _ _ _ _ _ _ _ _ _ _ _ _ _ _ _ _ _ _ _ _ _ _ _ _ _ _ _ _ _ _ (Ext.trans _ _ _ (Ext.drew _) hE)
end Go.Proofs.Xx
end
