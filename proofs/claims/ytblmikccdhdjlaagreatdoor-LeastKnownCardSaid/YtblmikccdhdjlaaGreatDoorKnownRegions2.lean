/- A part of the proof: the texts W80b. -/
import Derived.Test.YtblmikccdhdjlaaGreatDoorKnownBase
set_option linter.unusedVariables false
set_option linter.unusedSimpArgs false
section
namespace Go.Proofs.Xx
open Go.RowKit Go.V Go.Grow Lin Go.Txt
set_option maxRecDepth 100000
noncomputable def ops15 : {l : Array Oper // opsIn 15 (bodyOf Tryz.f7) = some l} := by
  have h : opsIn 15 (bodyOf Tryz.f7) = opsIn 15 (bodyOf Tryz.f7) := rfl
  conv at h => rhs; whnf
  exact ⟨_, h⟩
set_option maxHeartbeats 64000000 in
set_option maxRecDepth 100000 in
theorem kn15 (w u14 : World) (x3_4 x3_5 x4_2 x5_4 x6_2 x3_0 x3_1 x3_3 x4_0 x4_1 x5_1 x5_2 x5_3 x6_1 x7_1 x7_2 x7_3 x7_7 x7_9 x7_10 x7_11 x7_12 x7_17 x7_22 x7_24 x7_25 x7_26 x7_30 x7_31 x7_32 x7_37 x7_38 x7_39 x7_43 x7_44 x7_48 x7_49 x7_51 x7_54 x7_56 x7_59 x7_62 x7_64 x7_65 x7_66 x7_69 x8_1 x8_2 x8_3 x9_1 x9_2 x9_5 x10_1 x10_2 x10_6 x11_1 x11_2 x11_4 x11_5 x11_6 x12_1 x12_2 x12_6 x13_1 x13_2 x13_4 x13_5 x13_6 x13_7 x13_8 x14_23 x14_24 x14_25 x14_34 x14_36 x14_37 x14_39 x14_42 x14_44 x14_45 x14_47 x14_48 x14_50 x14_53 x14_55 x14_56 x14_57 x14_58 x14_60 x14_63 x14_66 x14_67 x14_68 x14_69 x14_70 x14_71 x14_73 x14_76 x14_77 x14_78 x14_79 x14_80 x14_81 x14_82 x14_83 x14_84 x14_86 x14_89 x14_90 x14_91 x14_92 x14_93 x14_94 x14_95 x14_96 x14_97 x14_98 x14_100 x14_103 x14_104 x14_105 x14_106 x14_107 x14_108 x14_109 x14_110 x14_111 x14_112 x14_113 x14_114 x14_116 : Value) (gC9 gC10 gC11 gC12 gC13 : Nat) (HENV : Hid (Env w)) (HB : Hid (Ext w u14)) (K1 : Hid ((Fact.fracs (qL [⟨#[49]⟩])).S x3_4 u14)) (K2 : Hid ((Fact.fracs ([(⟨#[]⟩, ⟨#[]⟩)])).S x3_5 u14)) (K3 : Hid ((Fact.fracs (qL [⟨#[49]⟩, ⟨#[48]⟩, ⟨#[48]⟩, ⟨#[48]⟩, ⟨#[48]⟩, ⟨#[48]⟩, ⟨#[48]⟩, ⟨#[48]⟩, ⟨#[48]⟩, ⟨#[48]⟩])).S x4_2 u14)) (K4 : Hid ((Fact.tab (List.replicate 40 (qL [⟨#[49]⟩]))).S x5_4 u14)) (K5 : Hid ((Fact.fracs (List.replicate 40 (⟨#[49]⟩, ⟨#[49]⟩))).S x6_2 u14)) (Q : Exit → Act → World → Prop) (hK : Hid (∀ (u15 : World) (x15_2 x15_4 x15_5 x15_7 x15_8 x15_9 x15_10 x15_12 x15_15 x15_17 x15_18 x15_20 x15_21 x15_22 x15_23 x15_25 x15_28 x15_30 x15_31 x15_32 x15_33 x15_35 x15_36 x15_38 x15_41 x15_43 x15_44 x15_46 x15_47 x15_49 x15_52 x15_54 x15_55 x15_58 x15_59 x15_61 x15_64 x15_66 x15_67 x15_69 x15_70 x15_72 : Value), Ext u14 u15 → Q .normal ⟨#[Value.bool false, x3_4, x3_5, x4_2, x5_4, x6_2, .bool true, Value.int IntKind.i64 0, Value.int IntKind.i64 60, Value.pointer (some { block := gC9, off := 0 }), Value.int IntKind.i64 2, Value.pointer (some { block := gC10, off := 0 }), Value.int IntKind.i64 20, Value.pointer (some { block := gC11, off := 0 }), Value.int IntKind.i64 2, Value.pointer (some { block := gC12, off := 0 }), Value.int IntKind.i64 60, Value.pointer (some { block := gC13, off := 0 }), Value.int IntKind.i64 0, undef, undef, undef, undef, Value.bool true, Value.bool false, x3_0, x3_1, Value.agg #[Value.string { data := #[] }, Value.string { data := #[] }], x3_3, x4_0, x4_1, x3_4, x5_1, x5_2, x5_3, x3_4, x6_1, x4_2, x7_1, x7_2, x7_3, Value.bool true, Value.bool true, x4_2, x7_7, x3_4, x7_9, x7_10, x7_11, x7_12, Value.bool true, Value.bool true, Value.bool true, x5_4, x7_17, Value.bool true, Value.bool true, Value.bool true, x5_4, x7_22, x3_4, x7_24, x7_25, x7_26, Value.bool true, Value.bool true, Value.bool true, x7_30, x7_31, x7_32, Value.bool true, Value.bool true, Value.bool true, x3_5, x7_37, x7_38, x7_39, Value.bool true, Value.bool true, Value.bool true, x7_43, x7_44, x5_4, x6_2, x6_2, x7_48, x7_49, Value.int IntKind.i64 0, x7_51, Value.bool true, Value.bool true, x7_54, x5_4, x7_56, Value.int IntKind.i64 1, Value.int IntKind.i64 0, x7_59, Value.bool true, Value.bool true, x7_62, x4_2, x7_64, x7_65, x7_66, Value.int IntKind.i64 1, Value.int IntKind.i64 0, x7_69, Value.bool true, Value.tuple #[Value.int IntKind.i64 0, Value.int IntKind.i64 60], x3_5, x8_1, x8_2, x8_3, Value.int IntKind.i64 0, Value.int IntKind.i64 60, Value.tuple #[Value.agg #[Value.string ByteArray.empty, Value.string ByteArray.empty], Value.int IntKind.i64 2], x3_4, x9_1, x9_2, x3_4, x3_4, x9_5, Value.agg #[Value.string ByteArray.empty, Value.string ByteArray.empty], Value.int IntKind.i64 2, Value.tuple #[Value.agg #[Value.string ByteArray.empty, Value.string ByteArray.empty], Value.int IntKind.i64 20], x3_4, x10_1, x10_2, x3_4, x3_4, x3_5, x10_6, Value.agg #[Value.string ByteArray.empty, Value.string ByteArray.empty], Value.int IntKind.i64 20, Value.tuple #[Value.agg #[Value.string ByteArray.empty, Value.string ByteArray.empty], Value.int IntKind.i64 2], x3_4, x11_1, x11_2, x3_4, x11_4, x11_5, x11_6, Value.agg #[Value.string ByteArray.empty, Value.string ByteArray.empty], Value.int IntKind.i64 2, Value.tuple #[Value.agg #[Value.string ByteArray.empty, Value.string ByteArray.empty], Value.int IntKind.i64 60], x3_5, x12_1, x12_2, x3_5, x3_5, x3_5, x12_6, Value.agg #[Value.string ByteArray.empty, Value.string ByteArray.empty], Value.int IntKind.i64 60, Value.tuple #[Value.agg #[Value.string { data := #[48] }, Value.string { data := #[49] }], Value.int IntKind.i64 0], x3_4, x13_1, x13_2, x3_4, x13_4, x13_5, x13_6, x13_7, x13_8, Value.agg #[Value.string { data := #[48] }, Value.string { data := #[49] }], Value.int IntKind.i64 0, Value.bool true, Value.bool true, Value.int IntKind.i64 60, Value.bool true, Value.bool true, Value.bool true, Value.int IntKind.i64 2, Value.bool true, Value.bool true, Value.bool true, Value.int IntKind.i64 20, Value.bool true, Value.bool true, Value.bool true, Value.int IntKind.i64 2, Value.bool true, Value.bool true, Value.bool true, Value.int IntKind.i64 60, Value.bool true, Value.bool true, Value.bool true, frV ({ data := #[48] }, { data := #[49] }), x14_23, x14_24, x14_25, frV ({ data := #[48] }, { data := #[49] }), Value.bool true, Value.bool true, Value.bool true, Value.int IntKind.i64 0, Value.bool true, Value.bool true, Value.bool true, x14_34, x3_5, x14_36, x14_37, Value.int IntKind.i64 60, x14_39, Value.bool true, Value.bool true, x14_42, x3_4, x14_44, x14_45, x3_5, x14_47, x14_48, Value.int IntKind.i64 20, x14_50, Value.bool true, Value.bool true, x14_53, x3_4, x14_55, x14_56, x14_57, x14_58, Value.int IntKind.i64 2, x14_60, Value.bool true, Value.bool true, x14_63, x3_4, x3_4, x14_66, x14_67, x14_68, x14_69, x14_70, x14_71, Value.int IntKind.i64 2, x14_73, Value.bool true, Value.bool true, x14_76, x14_77, x14_78, x14_79, x14_80, x14_81, x14_82, x14_83, x14_84, Value.int IntKind.i64 7, x14_86, Value.bool true, Value.bool true, x14_89, x14_90, x14_91, x14_92, x14_93, x14_94, x14_95, x14_96, x14_97, x14_98, Value.int IntKind.i64 0, x14_100, Value.bool true, Value.bool true, x14_103, x14_104, x14_105, x14_106, x14_107, x14_108, x14_109, x14_110, x14_111, x14_112, x14_113, x14_114, Value.int IntKind.i64 0, x14_116, Value.bool true, .bool true, .bool true, x15_2, x3_4, x15_4, x15_5, x3_4, x15_7, x15_8, x15_9, x15_10, .int .i64 2, x15_12, .bool true, .bool true, x15_15, x3_4, x15_17, x15_18, x3_4, x15_20, x15_21, x15_22, x15_23, .int .i64 7, x15_25, .bool true, .bool true, x15_28, x3_4, x15_30, x15_31, x15_32, x15_33, x3_4, x15_35, x15_36, .int .i64 2, x15_38, .bool true, .bool true, x15_41, x3_4, x15_43, x15_44, x3_4, x15_46, x15_47, .int .i64 2, x15_49, .bool true, .bool true, x15_52, x3_4, x15_54, x15_55, x3_4, x3_5, x15_58, x15_59, .int .i64 20, x15_61, .bool true, .bool true, x15_64, x3_4, x15_66, x15_67, x3_5, x15_69, x15_70, .int .i64 20, x15_72, .bool true, undef, undef, undef, undef, undef, undef, undef, undef, undef, undef, undef, undef, undef, undef, undef, undef, undef, undef, undef, undef, undef, undef, undef, undef, undef, undef, undef, undef, undef, undef, undef, undef, undef, undef, undef, undef, undef, undef, undef, undef, undef, undef, undef, undef, undef, undef, undef, undef, undef, undef, undef, undef, undef, undef, undef, undef, undef, undef, undef, undef, undef, undef, undef, undef, undef, undef, undef, undef, undef, undef, undef, undef], []⟩ u15)) :
    (Code.region 15 ops15.1 false).wp Tryz.prog Q ⟨#[Value.bool false, x3_4, x3_5, x4_2, x5_4, x6_2, Value.bool true, Value.int IntKind.i64 0, Value.int IntKind.i64 60, Value.pointer (some { block := gC9, off := 0 }), Value.int IntKind.i64 2, Value.pointer (some { block := gC10, off := 0 }), Value.int IntKind.i64 20, Value.pointer (some { block := gC11, off := 0 }), Value.int IntKind.i64 2, Value.pointer (some { block := gC12, off := 0 }), Value.int IntKind.i64 60, Value.pointer (some { block := gC13, off := 0 }), Value.int IntKind.i64 0, undef, undef, undef, undef, Value.bool true, Value.bool false, x3_0, x3_1, Value.agg #[Value.string { data := #[] }, Value.string { data := #[] }], x3_3, x4_0, x4_1, x3_4, x5_1, x5_2, x5_3, x3_4, x6_1, x4_2, x7_1, x7_2, x7_3, Value.bool true, Value.bool true, x4_2, x7_7, x3_4, x7_9, x7_10, x7_11, x7_12, Value.bool true, Value.bool true, Value.bool true, x5_4, x7_17, Value.bool true, Value.bool true, Value.bool true, x5_4, x7_22, x3_4, x7_24, x7_25, x7_26, Value.bool true, Value.bool true, Value.bool true, x7_30, x7_31, x7_32, Value.bool true, Value.bool true, Value.bool true, x3_5, x7_37, x7_38, x7_39, Value.bool true, Value.bool true, Value.bool true, x7_43, x7_44, x5_4, x6_2, x6_2, x7_48, x7_49, Value.int IntKind.i64 0, x7_51, Value.bool true, Value.bool true, x7_54, x5_4, x7_56, Value.int IntKind.i64 1, Value.int IntKind.i64 0, x7_59, Value.bool true, Value.bool true, x7_62, x4_2, x7_64, x7_65, x7_66, Value.int IntKind.i64 1, Value.int IntKind.i64 0, x7_69, Value.bool true, Value.tuple #[Value.int IntKind.i64 0, Value.int IntKind.i64 60], x3_5, x8_1, x8_2, x8_3, Value.int IntKind.i64 0, Value.int IntKind.i64 60, Value.tuple #[Value.agg #[Value.string ByteArray.empty, Value.string ByteArray.empty], Value.int IntKind.i64 2], x3_4, x9_1, x9_2, x3_4, x3_4, x9_5, Value.agg #[Value.string ByteArray.empty, Value.string ByteArray.empty], Value.int IntKind.i64 2, Value.tuple #[Value.agg #[Value.string ByteArray.empty, Value.string ByteArray.empty], Value.int IntKind.i64 20], x3_4, x10_1, x10_2, x3_4, x3_4, x3_5, x10_6, Value.agg #[Value.string ByteArray.empty, Value.string ByteArray.empty], Value.int IntKind.i64 20, Value.tuple #[Value.agg #[Value.string ByteArray.empty, Value.string ByteArray.empty], Value.int IntKind.i64 2], x3_4, x11_1, x11_2, x3_4, x11_4, x11_5, x11_6, Value.agg #[Value.string ByteArray.empty, Value.string ByteArray.empty], Value.int IntKind.i64 2, Value.tuple #[Value.agg #[Value.string ByteArray.empty, Value.string ByteArray.empty], Value.int IntKind.i64 60], x3_5, x12_1, x12_2, x3_5, x3_5, x3_5, x12_6, Value.agg #[Value.string ByteArray.empty, Value.string ByteArray.empty], Value.int IntKind.i64 60, Value.tuple #[Value.agg #[Value.string { data := #[48] }, Value.string { data := #[49] }], Value.int IntKind.i64 0], x3_4, x13_1, x13_2, x3_4, x13_4, x13_5, x13_6, x13_7, x13_8, Value.agg #[Value.string { data := #[48] }, Value.string { data := #[49] }], Value.int IntKind.i64 0, Value.bool true, Value.bool true, Value.int IntKind.i64 60, Value.bool true, Value.bool true, Value.bool true, Value.int IntKind.i64 2, Value.bool true, Value.bool true, Value.bool true, Value.int IntKind.i64 20, Value.bool true, Value.bool true, Value.bool true, Value.int IntKind.i64 2, Value.bool true, Value.bool true, Value.bool true, Value.int IntKind.i64 60, Value.bool true, Value.bool true, Value.bool true, frV ({ data := #[48] }, { data := #[49] }), x14_23, x14_24, x14_25, frV ({ data := #[48] }, { data := #[49] }), Value.bool true, Value.bool true, Value.bool true, Value.int IntKind.i64 0, Value.bool true, Value.bool true, Value.bool true, x14_34, x3_5, x14_36, x14_37, Value.int IntKind.i64 60, x14_39, Value.bool true, Value.bool true, x14_42, x3_4, x14_44, x14_45, x3_5, x14_47, x14_48, Value.int IntKind.i64 20, x14_50, Value.bool true, Value.bool true, x14_53, x3_4, x14_55, x14_56, x14_57, x14_58, Value.int IntKind.i64 2, x14_60, Value.bool true, Value.bool true, x14_63, x3_4, x3_4, x14_66, x14_67, x14_68, x14_69, x14_70, x14_71, Value.int IntKind.i64 2, x14_73, Value.bool true, Value.bool true, x14_76, x14_77, x14_78, x14_79, x14_80, x14_81, x14_82, x14_83, x14_84, Value.int IntKind.i64 7, x14_86, Value.bool true, Value.bool true, x14_89, x14_90, x14_91, x14_92, x14_93, x14_94, x14_95, x14_96, x14_97, x14_98, Value.int IntKind.i64 0, x14_100, Value.bool true, Value.bool true, x14_103, x14_104, x14_105, x14_106, x14_107, x14_108, x14_109, x14_110, x14_111, x14_112, x14_113, x14_114, Value.int IntKind.i64 0, x14_116, Value.bool true, undef, undef, undef, undef, undef, undef, undef, undef, undef, undef, undef, undef, undef, undef, undef, undef, undef, undef, undef, undef, undef, undef, undef, undef, undef, undef, undef, undef, undef, undef, undef, undef, undef, undef, undef, undef, undef, undef, undef, undef, undef, undef, undef, undef, undef, undef, undef, undef, undef, undef, undef, undef, undef, undef, undef, undef, undef, undef, undef, undef, undef, undef, undef, undef, undef, undef, undef, undef, undef, undef, undef, undef, undef, undef, undef, undef, undef, undef, undef, undef, undef, undef, undef, undef, undef, undef, undef, undef, undef, undef, undef, undef, undef, undef, undef, undef, undef, undef, undef, undef, undef, undef, undef, undef, undef, undef, undef, undef, undef, undef, undef, undef, undef, undef, undef, undef, undef, undef, undef, undef, undef, undef, undef, undef, undef, undef, undef, undef, undef, undef, undef, undef, undef, undef, undef, undef, undef, undef, undef, undef, undef, undef, undef, undef, undef, undef], []⟩ u14 := by
  unfold ops15
  dsimp only
  refine ro_seq 74 [none, none, some (.boxF 101 (.int .i64 2)), none, some (.tab [qL [⟨#[49]⟩]]), some (.tab [qL [⟨#[49]⟩]]), none, some (.strs [⟨#[45, 49]⟩]), some (.fracs (qL [⟨#[45, 49]⟩])), some (.fracsE ([], 2)), some (.fracs ([])), none, some (.val (.bool true)), none, none, some (.boxF 101 (.int .i64 7)), none, some (.tab [qL [⟨#[49]⟩]]), some (.tab [qL [⟨#[49]⟩]]), none, some (.strs [⟨#[48]⟩]), some (.fracs (qL [⟨#[48]⟩])), some (.fracsE ([], 7)), some (.fracs ([])), none, some (.val (.bool true)), none, none, some (.boxF 101 (.int .i64 2)), none, some (.tab [qL [⟨#[49]⟩]]), some (.tab [qL [⟨#[49]⟩]]), some (.strs [⟨#[49]⟩, ⟨#[49]⟩]), some (.fracs (qL [⟨#[49]⟩, ⟨#[49]⟩])), none, some (.fracsE ([], 2)), some (.fracs ([])), none, some (.val (.bool true)), none, none, some (.boxF 101 (.int .i64 2)), none, some (.tab [qL [⟨#[49]⟩]]), some (.tab [qL [⟨#[49]⟩]]), none, some (.fracsE ([], 2)), some (.fracs ([])), none, some (.val (.bool true)), none, none, some (.boxF 101 (.int .i64 20)), none, some (.tab [qL [⟨#[49]⟩]]), some (.tab [qL [⟨#[49]⟩]]), none, none, some (.fracsE ([], 20)), some (.fracs ([])), none, some (.val (.bool true)), none, none, some (.boxF 101 (.int .i64 20)), none, some (.tab [qL [⟨#[49]⟩]]), some (.tab [qL [⟨#[49]⟩]]), none, some (.fracsE ([], 20)), some (.fracs ([])), none, some (.val (.bool true)), none] ?_
  go_simp
  refine ro_want (u := .bool true) (by rfl) (fun u hE hd => ?_) ?_
  · go_simp
  go_simp
  refine ro_want (u := .bool true) (by rfl) (fun u hE hd => ?_) ?_
  · go_simp
  go_simp
  apply ro_callw (by rfl) (fun w => by go_simp; exact ⟨rfl, rfl⟩)
  · intro u hE hd
    exact fails_any _ u
  intro x15_2
  go_simp
  refine ro_want (u := x3_4) (by rfl) (fun u hE hd => ?_) ?_
  · go_simp
  go_simp
  apply ro_runw (by rfl)
  · intro u hE hd
    have h0 : IsFracs u x3_4 (qL [⟨#[49]⟩]) := (Fact.fracs (qL [⟨#[49]⟩])).st _ _ _ hE K1.out
    obtain ⟨A0, c0, e0, _⟩ := id h0
    subst e0
    go_simp
    exact ⟨_, _, ⟨rfl, rfl⟩, Ext.alloc _ _, IsTab.one (Blk.new' _ rfl rfl) (h0.mono (Ext.alloc _ _))⟩
  intro x15_4
  go_simp
  apply ro_callw (by rfl) (fun w => by go_simp; exact ⟨rfl, rfl⟩)
  · intro u hE hd
    have h0 : IsTab u x15_4 [qL [⟨#[49]⟩]] := hd ⟨4, .data⟩ (by simp) rfl
    exact rows_any _ _ u h0
  intro x15_5
  go_simp
  refine ro_want (u := x3_4) (by rfl) (fun u hE hd => ?_) ?_
  · go_simp
  go_simp
  apply ro_runw (by rfl)
  · intro u hE hd
    go_simp
    exact ⟨_, _, ⟨rfl, rfl⟩, Ext.alloc _ _, IsStrs.new (l := [⟨#[45, 49]⟩]) (Blk.new' _ rfl rfl) (by decide)⟩
  intro x15_7
  go_simp
  apply ro_callw (by rfl) (fun w => by go_simp; exact ⟨rfl, rfl⟩)
  · intro u hE hd
    have h0 : IsStrs u x15_7 [⟨#[45, 49]⟩] := hd ⟨7, .data⟩ (by simp) rfl
    exact q_ret _ _ u h0 (HENV.out.mono (Ext.trans _ _ _ HB.out hE)) (by decide) (by decide)
  intro x15_8
  go_simp
  apply ro_callw (by rfl) (fun w => by go_simp; exact ⟨rfl, rfl⟩)
  · intro u hE hd
    have h0 : IsTab u x15_5 [qL [⟨#[49]⟩]] := hd ⟨5, .data⟩ (by simp) rfl
    have h1 : IsFracs u x3_4 (qL [⟨#[49]⟩]) := (Fact.fracs (qL [⟨#[49]⟩])).st _ _ _ hE K1.out
    have h2 : IsFracs u x15_8 (qL [⟨#[45, 49]⟩]) := hd ⟨8, .data⟩ (by simp) rfl
    exact lleast_ret _ _ _ _ _ _ _ u h0 h1 h2 (HENV.out.mono (Ext.trans _ _ _ HB.out hE)).tab kx30
  intro x15_9
  go_simp
  apply ro_runw (by rfl)
  · intro u hE hd
    have h0 : (Fact.fracsE ([], 2)).S x15_9 u := hd ⟨9, .data⟩ (by simp) rfl
    obtain ⟨l, e0, hl⟩ := h0
    subst e0
    go_simp
    exact ⟨_, _, ⟨rfl, rfl⟩, Ext.refl _, hl⟩
  intro x15_10
  go_simp
  refine ro_want (u := .int .i64 2) (by rfl) (fun u hE hd => ?_) ?_
  · have h0 : (Fact.fracsE ([], 2)).S x15_9 u := hd ⟨9, .data⟩ (by simp) rfl
    obtain ⟨l, e0, hl⟩ := h0
    subst e0
    go_simp
  go_simp
  apply ro_callD (by rfl)
  · intro u hE hd
    have hf : (Fact.boxF 101 (.int .i64 2)).S x15_2 u := hd ⟨2, .data⟩ (by simp) rfl
    have h0 : IsFracs u x15_10 ([]) := hd ⟨10, .data⟩ (by simp) rfl
    obtain ⟨g, e0, hg⟩ := hf
    subst e0
    refine ⟨101, #[x15_10, .int .i64 2, .pointer (some ⟨g, 0, none⟩)], by have eg := enters_of Tryz.func101 (by kernel_rfl) rfl; go_simp, ?_⟩
    refine (fails1_any g _ _ ([], 2) u hg h0).mono ?_
    rintro e w' ⟨e1, hE1⟩
    exact ⟨_, e1, congrArg Value.bool kx22, hE1⟩
  intro x15_12
  go_simp
  refine ro_want (u := .bool true) (by rfl) (fun u hE hd => ?_) ?_
  · have h0 : (x15_12 : Value) = .bool true := hd ⟨12, .data⟩ (by simp) rfl
    subst h0
    go_simp
  go_simp
  refine ro_want (u := .bool true) (by rfl) (fun u hE hd => ?_) ?_
  · go_simp
  go_simp
  apply ro_callw (by rfl) (fun w => by go_simp; exact ⟨rfl, rfl⟩)
  · intro u hE hd
    exact fails_any _ u
  intro x15_15
  go_simp
  refine ro_want (u := x3_4) (by rfl) (fun u hE hd => ?_) ?_
  · go_simp
  go_simp
  apply ro_runw (by rfl)
  · intro u hE hd
    have h0 : IsFracs u x3_4 (qL [⟨#[49]⟩]) := (Fact.fracs (qL [⟨#[49]⟩])).st _ _ _ hE K1.out
    obtain ⟨A0, c0, e0, _⟩ := id h0
    subst e0
    go_simp
    exact ⟨_, _, ⟨rfl, rfl⟩, Ext.alloc _ _, IsTab.one (Blk.new' _ rfl rfl) (h0.mono (Ext.alloc _ _))⟩
  intro x15_17
  go_simp
  apply ro_callw (by rfl) (fun w => by go_simp; exact ⟨rfl, rfl⟩)
  · intro u hE hd
    have h0 : IsTab u x15_17 [qL [⟨#[49]⟩]] := hd ⟨17, .data⟩ (by simp) rfl
    exact rows_any _ _ u h0
  intro x15_18
  go_simp
  refine ro_want (u := x3_4) (by rfl) (fun u hE hd => ?_) ?_
  · go_simp
  go_simp
  apply ro_runw (by rfl)
  · intro u hE hd
    go_simp
    exact ⟨_, _, ⟨rfl, rfl⟩, Ext.alloc _ _, IsStrs.new (l := [⟨#[48]⟩]) (Blk.new' _ rfl rfl) (by decide)⟩
  intro x15_20
  go_simp
  apply ro_callw (by rfl) (fun w => by go_simp; exact ⟨rfl, rfl⟩)
  · intro u hE hd
    have h0 : IsStrs u x15_20 [⟨#[48]⟩] := hd ⟨20, .data⟩ (by simp) rfl
    exact q_ret _ _ u h0 (HENV.out.mono (Ext.trans _ _ _ HB.out hE)) (by decide) (by decide)
  intro x15_21
  go_simp
  apply ro_callw (by rfl) (fun w => by go_simp; exact ⟨rfl, rfl⟩)
  · intro u hE hd
    have h0 : IsTab u x15_18 [qL [⟨#[49]⟩]] := hd ⟨18, .data⟩ (by simp) rfl
    have h1 : IsFracs u x3_4 (qL [⟨#[49]⟩]) := (Fact.fracs (qL [⟨#[49]⟩])).st _ _ _ hE K1.out
    have h2 : IsFracs u x15_21 (qL [⟨#[48]⟩]) := hd ⟨21, .data⟩ (by simp) rfl
    exact lleast_ret _ _ _ _ _ _ _ u h0 h1 h2 (HENV.out.mono (Ext.trans _ _ _ HB.out hE)).tab kx31
  intro x15_22
  go_simp
  apply ro_runw (by rfl)
  · intro u hE hd
    have h0 : (Fact.fracsE ([], 7)).S x15_22 u := hd ⟨22, .data⟩ (by simp) rfl
    obtain ⟨l, e0, hl⟩ := h0
    subst e0
    go_simp
    exact ⟨_, _, ⟨rfl, rfl⟩, Ext.refl _, hl⟩
  intro x15_23
  go_simp
  refine ro_want (u := .int .i64 7) (by rfl) (fun u hE hd => ?_) ?_
  · have h0 : (Fact.fracsE ([], 7)).S x15_22 u := hd ⟨22, .data⟩ (by simp) rfl
    obtain ⟨l, e0, hl⟩ := h0
    subst e0
    go_simp
  go_simp
  apply ro_callD (by rfl)
  · intro u hE hd
    have hf : (Fact.boxF 101 (.int .i64 7)).S x15_15 u := hd ⟨15, .data⟩ (by simp) rfl
    have h0 : IsFracs u x15_23 ([]) := hd ⟨23, .data⟩ (by simp) rfl
    obtain ⟨g, e0, hg⟩ := hf
    subst e0
    refine ⟨101, #[x15_23, .int .i64 7, .pointer (some ⟨g, 0, none⟩)], by have eg := enters_of Tryz.func101 (by kernel_rfl) rfl; go_simp, ?_⟩
    refine (fails1_any g _ _ ([], 7) u hg h0).mono ?_
    rintro e w' ⟨e1, hE1⟩
    exact ⟨_, e1, congrArg Value.bool kx25, hE1⟩
  intro x15_25
  go_simp
  refine ro_want (u := .bool true) (by rfl) (fun u hE hd => ?_) ?_
  · have h0 : (x15_25 : Value) = .bool true := hd ⟨25, .data⟩ (by simp) rfl
    subst h0
    go_simp
  go_simp
  refine ro_want (u := .bool true) (by rfl) (fun u hE hd => ?_) ?_
  · go_simp
  go_simp
  apply ro_callw (by rfl) (fun w => by go_simp; exact ⟨rfl, rfl⟩)
  · intro u hE hd
    exact fails_any _ u
  intro x15_28
  go_simp
  refine ro_want (u := x3_4) (by rfl) (fun u hE hd => ?_) ?_
  · go_simp
  go_simp
  apply ro_runw (by rfl)
  · intro u hE hd
    have h0 : IsFracs u x3_4 (qL [⟨#[49]⟩]) := (Fact.fracs (qL [⟨#[49]⟩])).st _ _ _ hE K1.out
    obtain ⟨A0, c0, e0, _⟩ := id h0
    subst e0
    go_simp
    exact ⟨_, _, ⟨rfl, rfl⟩, Ext.alloc _ _, IsTab.one (Blk.new' _ rfl rfl) (h0.mono (Ext.alloc _ _))⟩
  intro x15_30
  go_simp
  apply ro_callw (by rfl) (fun w => by go_simp; exact ⟨rfl, rfl⟩)
  · intro u hE hd
    have h0 : IsTab u x15_30 [qL [⟨#[49]⟩]] := hd ⟨30, .data⟩ (by simp) rfl
    exact rows_any _ _ u h0
  intro x15_31
  go_simp
  apply ro_runw (by rfl)
  · intro u hE hd
    go_simp
    exact ⟨_, _, ⟨rfl, rfl⟩, Ext.alloc _ _, IsStrs.new (l := [⟨#[49]⟩, ⟨#[49]⟩]) (Blk.new' _ rfl rfl) (by decide)⟩
  intro x15_32
  go_simp
  apply ro_callw (by rfl) (fun w => by go_simp; exact ⟨rfl, rfl⟩)
  · intro u hE hd
    have h0 : IsStrs u x15_32 [⟨#[49]⟩, ⟨#[49]⟩] := hd ⟨32, .data⟩ (by simp) rfl
    exact q_ret _ _ u h0 (HENV.out.mono (Ext.trans _ _ _ HB.out hE)) (by decide) (by decide)
  intro x15_33
  go_simp
  refine ro_want (u := x3_4) (by rfl) (fun u hE hd => ?_) ?_
  · go_simp
  go_simp
  apply ro_callw (by rfl) (fun w => by go_simp; exact ⟨rfl, rfl⟩)
  · intro u hE hd
    have h0 : IsTab u x15_31 [qL [⟨#[49]⟩]] := hd ⟨31, .data⟩ (by simp) rfl
    have h1 : IsFracs u x15_33 (qL [⟨#[49]⟩, ⟨#[49]⟩]) := hd ⟨33, .data⟩ (by simp) rfl
    have h2 : IsFracs u x3_4 (qL [⟨#[49]⟩]) := (Fact.fracs (qL [⟨#[49]⟩])).st _ _ _ hE K1.out
    exact lleast_ret _ _ _ _ _ _ _ u h0 h1 h2 (HENV.out.mono (Ext.trans _ _ _ HB.out hE)).tab kx32
  intro x15_35
  go_simp
  apply ro_runw (by rfl)
  · intro u hE hd
    have h0 : (Fact.fracsE ([], 2)).S x15_35 u := hd ⟨35, .data⟩ (by simp) rfl
    obtain ⟨l, e0, hl⟩ := h0
    subst e0
    go_simp
    exact ⟨_, _, ⟨rfl, rfl⟩, Ext.refl _, hl⟩
  intro x15_36
  go_simp
  refine ro_want (u := .int .i64 2) (by rfl) (fun u hE hd => ?_) ?_
  · have h0 : (Fact.fracsE ([], 2)).S x15_35 u := hd ⟨35, .data⟩ (by simp) rfl
    obtain ⟨l, e0, hl⟩ := h0
    subst e0
    go_simp
  go_simp
  apply ro_callD (by rfl)
  · intro u hE hd
    have hf : (Fact.boxF 101 (.int .i64 2)).S x15_28 u := hd ⟨28, .data⟩ (by simp) rfl
    have h0 : IsFracs u x15_36 ([]) := hd ⟨36, .data⟩ (by simp) rfl
    obtain ⟨g, e0, hg⟩ := hf
    subst e0
    refine ⟨101, #[x15_36, .int .i64 2, .pointer (some ⟨g, 0, none⟩)], by have eg := enters_of Tryz.func101 (by kernel_rfl) rfl; go_simp, ?_⟩
    refine (fails1_any g _ _ ([], 2) u hg h0).mono ?_
    rintro e w' ⟨e1, hE1⟩
    exact ⟨_, e1, congrArg Value.bool kx22, hE1⟩
  intro x15_38
  go_simp
  refine ro_want (u := .bool true) (by rfl) (fun u hE hd => ?_) ?_
  · have h0 : (x15_38 : Value) = .bool true := hd ⟨38, .data⟩ (by simp) rfl
    subst h0
    go_simp
  go_simp
  refine ro_want (u := .bool true) (by rfl) (fun u hE hd => ?_) ?_
  · go_simp
  go_simp
  apply ro_callw (by rfl) (fun w => by go_simp; exact ⟨rfl, rfl⟩)
  · intro u hE hd
    exact fails_any _ u
  intro x15_41
  go_simp
  refine ro_want (u := x3_4) (by rfl) (fun u hE hd => ?_) ?_
  · go_simp
  go_simp
  apply ro_runw (by rfl)
  · intro u hE hd
    have h0 : IsFracs u x3_4 (qL [⟨#[49]⟩]) := (Fact.fracs (qL [⟨#[49]⟩])).st _ _ _ hE K1.out
    obtain ⟨A0, c0, e0, _⟩ := id h0
    subst e0
    go_simp
    exact ⟨_, _, ⟨rfl, rfl⟩, Ext.alloc _ _, IsTab.one (Blk.new' _ rfl rfl) (h0.mono (Ext.alloc _ _))⟩
  intro x15_43
  go_simp
  apply ro_callw (by rfl) (fun w => by go_simp; exact ⟨rfl, rfl⟩)
  · intro u hE hd
    have h0 : IsTab u x15_43 [qL [⟨#[49]⟩]] := hd ⟨43, .data⟩ (by simp) rfl
    exact rows_any _ _ u h0
  intro x15_44
  go_simp
  refine ro_want (u := x3_4) (by rfl) (fun u hE hd => ?_) ?_
  · go_simp
  go_simp
  apply ro_callw (by rfl) (fun w => by go_simp; exact ⟨rfl, rfl⟩)
  · intro u hE hd
    have h0 : IsTab u x15_44 [qL [⟨#[49]⟩]] := hd ⟨44, .data⟩ (by simp) rfl
    have h1 : IsFracs u x3_4 (qL [⟨#[49]⟩]) := (Fact.fracs (qL [⟨#[49]⟩])).st _ _ _ hE K1.out
    have h2 : IsFracs u (.slice none 0 0) [] := ⟨none, 0, rfl, Nat.le_refl _, Nat.zero_le _, .inl rfl⟩
    exact lleast_ret _ _ _ _ _ _ _ u h0 h1 h2 (HENV.out.mono (Ext.trans _ _ _ HB.out hE)).tab kx33
  intro x15_46
  go_simp
  apply ro_runw (by rfl)
  · intro u hE hd
    have h0 : (Fact.fracsE ([], 2)).S x15_46 u := hd ⟨46, .data⟩ (by simp) rfl
    obtain ⟨l, e0, hl⟩ := h0
    subst e0
    go_simp
    exact ⟨_, _, ⟨rfl, rfl⟩, Ext.refl _, hl⟩
  intro x15_47
  go_simp
  refine ro_want (u := .int .i64 2) (by rfl) (fun u hE hd => ?_) ?_
  · have h0 : (Fact.fracsE ([], 2)).S x15_46 u := hd ⟨46, .data⟩ (by simp) rfl
    obtain ⟨l, e0, hl⟩ := h0
    subst e0
    go_simp
  go_simp
  apply ro_callD (by rfl)
  · intro u hE hd
    have hf : (Fact.boxF 101 (.int .i64 2)).S x15_41 u := hd ⟨41, .data⟩ (by simp) rfl
    have h0 : IsFracs u x15_47 ([]) := hd ⟨47, .data⟩ (by simp) rfl
    obtain ⟨g, e0, hg⟩ := hf
    subst e0
    refine ⟨101, #[x15_47, .int .i64 2, .pointer (some ⟨g, 0, none⟩)], by have eg := enters_of Tryz.func101 (by kernel_rfl) rfl; go_simp, ?_⟩
    refine (fails1_any g _ _ ([], 2) u hg h0).mono ?_
    rintro e w' ⟨e1, hE1⟩
    exact ⟨_, e1, congrArg Value.bool kx22, hE1⟩
  intro x15_49
  go_simp
  refine ro_want (u := .bool true) (by rfl) (fun u hE hd => ?_) ?_
  · have h0 : (x15_49 : Value) = .bool true := hd ⟨49, .data⟩ (by simp) rfl
    subst h0
    go_simp
  go_simp
  refine ro_want (u := .bool true) (by rfl) (fun u hE hd => ?_) ?_
  · go_simp
  go_simp
  apply ro_callw (by rfl) (fun w => by go_simp; exact ⟨rfl, rfl⟩)
  · intro u hE hd
    exact fails_any _ u
  intro x15_52
  go_simp
  refine ro_want (u := x3_4) (by rfl) (fun u hE hd => ?_) ?_
  · go_simp
  go_simp
  apply ro_runw (by rfl)
  · intro u hE hd
    have h0 : IsFracs u x3_4 (qL [⟨#[49]⟩]) := (Fact.fracs (qL [⟨#[49]⟩])).st _ _ _ hE K1.out
    obtain ⟨A0, c0, e0, _⟩ := id h0
    subst e0
    go_simp
    exact ⟨_, _, ⟨rfl, rfl⟩, Ext.alloc _ _, IsTab.one (Blk.new' _ rfl rfl) (h0.mono (Ext.alloc _ _))⟩
  intro x15_54
  go_simp
  apply ro_callw (by rfl) (fun w => by go_simp; exact ⟨rfl, rfl⟩)
  · intro u hE hd
    have h0 : IsTab u x15_54 [qL [⟨#[49]⟩]] := hd ⟨54, .data⟩ (by simp) rfl
    exact rows_any _ _ u h0
  intro x15_55
  go_simp
  refine ro_want (u := x3_4) (by rfl) (fun u hE hd => ?_) ?_
  · go_simp
  go_simp
  refine ro_want (u := x3_5) (by rfl) (fun u hE hd => ?_) ?_
  · go_simp
  go_simp
  apply ro_callw (by rfl) (fun w => by go_simp; exact ⟨rfl, rfl⟩)
  · intro u hE hd
    have h0 : IsTab u x15_55 [qL [⟨#[49]⟩]] := hd ⟨55, .data⟩ (by simp) rfl
    have h1 : IsFracs u x3_4 (qL [⟨#[49]⟩]) := (Fact.fracs (qL [⟨#[49]⟩])).st _ _ _ hE K1.out
    have h2 : IsFracs u x3_5 ([(⟨#[]⟩, ⟨#[]⟩)]) := (Fact.fracs ([(⟨#[]⟩, ⟨#[]⟩)])).st _ _ _ hE K2.out
    exact lleast_ret _ _ _ _ _ _ _ u h0 h1 h2 (HENV.out.mono (Ext.trans _ _ _ HB.out hE)).tab kx34
  intro x15_58
  go_simp
  apply ro_runw (by rfl)
  · intro u hE hd
    have h0 : (Fact.fracsE ([], 20)).S x15_58 u := hd ⟨58, .data⟩ (by simp) rfl
    obtain ⟨l, e0, hl⟩ := h0
    subst e0
    go_simp
    exact ⟨_, _, ⟨rfl, rfl⟩, Ext.refl _, hl⟩
  intro x15_59
  go_simp
  refine ro_want (u := .int .i64 20) (by rfl) (fun u hE hd => ?_) ?_
  · have h0 : (Fact.fracsE ([], 20)).S x15_58 u := hd ⟨58, .data⟩ (by simp) rfl
    obtain ⟨l, e0, hl⟩ := h0
    subst e0
    go_simp
  go_simp
  apply ro_callD (by rfl)
  · intro u hE hd
    have hf : (Fact.boxF 101 (.int .i64 20)).S x15_52 u := hd ⟨52, .data⟩ (by simp) rfl
    have h0 : IsFracs u x15_59 ([]) := hd ⟨59, .data⟩ (by simp) rfl
    obtain ⟨g, e0, hg⟩ := hf
    subst e0
    refine ⟨101, #[x15_59, .int .i64 20, .pointer (some ⟨g, 0, none⟩)], by have eg := enters_of Tryz.func101 (by kernel_rfl) rfl; go_simp, ?_⟩
    refine (fails1_any g _ _ ([], 20) u hg h0).mono ?_
    rintro e w' ⟨e1, hE1⟩
    exact ⟨_, e1, congrArg Value.bool kx20, hE1⟩
  intro x15_61
  go_simp
  refine ro_want (u := .bool true) (by rfl) (fun u hE hd => ?_) ?_
  · have h0 : (x15_61 : Value) = .bool true := hd ⟨61, .data⟩ (by simp) rfl
    subst h0
    go_simp
  go_simp
  refine ro_want (u := .bool true) (by rfl) (fun u hE hd => ?_) ?_
  · go_simp
  go_simp
  apply ro_callw (by rfl) (fun w => by go_simp; exact ⟨rfl, rfl⟩)
  · intro u hE hd
    exact fails_any _ u
  intro x15_64
  go_simp
  refine ro_want (u := x3_4) (by rfl) (fun u hE hd => ?_) ?_
  · go_simp
  go_simp
  apply ro_runw (by rfl)
  · intro u hE hd
    have h0 : IsFracs u x3_4 (qL [⟨#[49]⟩]) := (Fact.fracs (qL [⟨#[49]⟩])).st _ _ _ hE K1.out
    obtain ⟨A0, c0, e0, _⟩ := id h0
    subst e0
    go_simp
    exact ⟨_, _, ⟨rfl, rfl⟩, Ext.alloc _ _, IsTab.one (Blk.new' _ rfl rfl) (h0.mono (Ext.alloc _ _))⟩
  intro x15_66
  go_simp
  apply ro_callw (by rfl) (fun w => by go_simp; exact ⟨rfl, rfl⟩)
  · intro u hE hd
    have h0 : IsTab u x15_66 [qL [⟨#[49]⟩]] := hd ⟨66, .data⟩ (by simp) rfl
    exact rows_any _ _ u h0
  intro x15_67
  go_simp
  refine ro_want (u := x3_5) (by rfl) (fun u hE hd => ?_) ?_
  · go_simp
  go_simp
  apply ro_callw (by rfl) (fun w => by go_simp; exact ⟨rfl, rfl⟩)
  · intro u hE hd
    have h0 : IsTab u x15_67 [qL [⟨#[49]⟩]] := hd ⟨67, .data⟩ (by simp) rfl
    have h1 : IsFracs u x3_5 ([(⟨#[]⟩, ⟨#[]⟩)]) := (Fact.fracs ([(⟨#[]⟩, ⟨#[]⟩)])).st _ _ _ hE K2.out
    have h2 : IsFracs u (.slice none 0 0) [] := ⟨none, 0, rfl, Nat.le_refl _, Nat.zero_le _, .inl rfl⟩
    exact lleast_ret _ _ _ _ _ _ _ u h0 h1 h2 (HENV.out.mono (Ext.trans _ _ _ HB.out hE)).tab kx35
  intro x15_69
  go_simp
  apply ro_runw (by rfl)
  · intro u hE hd
    have h0 : (Fact.fracsE ([], 20)).S x15_69 u := hd ⟨69, .data⟩ (by simp) rfl
    obtain ⟨l, e0, hl⟩ := h0
    subst e0
    go_simp
    exact ⟨_, _, ⟨rfl, rfl⟩, Ext.refl _, hl⟩
  intro x15_70
  go_simp
  refine ro_want (u := .int .i64 20) (by rfl) (fun u hE hd => ?_) ?_
  · have h0 : (Fact.fracsE ([], 20)).S x15_69 u := hd ⟨69, .data⟩ (by simp) rfl
    obtain ⟨l, e0, hl⟩ := h0
    subst e0
    go_simp
  go_simp
  apply ro_callD (by rfl)
  · intro u hE hd
    have hf : (Fact.boxF 101 (.int .i64 20)).S x15_64 u := hd ⟨64, .data⟩ (by simp) rfl
    have h0 : IsFracs u x15_70 ([]) := hd ⟨70, .data⟩ (by simp) rfl
    obtain ⟨g, e0, hg⟩ := hf
    subst e0
    refine ⟨101, #[x15_70, .int .i64 20, .pointer (some ⟨g, 0, none⟩)], by have eg := enters_of Tryz.func101 (by kernel_rfl) rfl; go_simp, ?_⟩
    refine (fails1_any g _ _ ([], 20) u hg h0).mono ?_
    rintro e w' ⟨e1, hE1⟩
    exact ⟨_, e1, congrArg Value.bool kx20, hE1⟩
  intro x15_72
  go_simp
  refine ro_want (u := .bool true) (by rfl) (fun u hE hd => ?_) ?_
  · have h0 : (x15_72 : Value) = .bool true := hd ⟨72, .data⟩ (by simp) rfl
    subst h0
    go_simp
  go_simp
  refine ro_done (fun u15 hE hf => ?_)
  clear hf
  simp only [List.drop_succ_cons, List.drop_zero]
  go_wp2
  exact hK.out _ _ _ _ _ _ _ _ _ _ _ _ _ _ _ _ _ _ _ _ _ _ _ _ _ _ _ _ _ _ _ _ _ _ _ _ _ _ _ _ _ _ _ hE
noncomputable def ops19 : {l : Array Oper // opsIn 19 (bodyOf Tryz.f7) = some l} := by
  have h : opsIn 19 (bodyOf Tryz.f7) = opsIn 19 (bodyOf Tryz.f7) := rfl
  conv at h => rhs; whnf
  exact ⟨_, h⟩
set_option maxHeartbeats 64000000 in
set_option maxRecDepth 100000 in
theorem kn19 (w W18 : World) (x3_4 x3_5 x4_2 x5_4 x6_2 x3_0 x3_1 x3_3 x4_0 x4_1 x5_1 x5_2 x5_3 x6_1 x7_1 x7_2 x7_3 x7_7 x7_9 x7_10 x7_11 x7_12 x7_17 x7_22 x7_24 x7_25 x7_26 x7_30 x7_31 x7_32 x7_37 x7_38 x7_39 x7_43 x7_44 x7_48 x7_49 x7_51 x7_54 x7_56 x7_59 x7_62 x7_64 x7_65 x7_66 x7_69 x8_1 x8_2 x8_3 x9_1 x9_2 x9_5 x10_1 x10_2 x10_6 x11_1 x11_2 x11_4 x11_5 x11_6 x12_1 x12_2 x12_6 x13_1 x13_2 x13_4 x13_5 x13_6 x13_7 x13_8 x14_23 x14_24 x14_25 x14_34 x14_36 x14_37 x14_39 x14_42 x14_44 x14_45 x14_47 x14_48 x14_50 x14_53 x14_55 x14_56 x14_57 x14_58 x14_60 x14_63 x14_66 x14_67 x14_68 x14_69 x14_70 x14_71 x14_73 x14_76 x14_77 x14_78 x14_79 x14_80 x14_81 x14_82 x14_83 x14_84 x14_86 x14_89 x14_90 x14_91 x14_92 x14_93 x14_94 x14_95 x14_96 x14_97 x14_98 x14_100 x14_103 x14_104 x14_105 x14_106 x14_107 x14_108 x14_109 x14_110 x14_111 x14_112 x14_113 x14_114 x14_116 x15_2 x15_4 x15_5 x15_7 x15_8 x15_9 x15_10 x15_12 x15_15 x15_17 x15_18 x15_20 x15_21 x15_22 x15_23 x15_25 x15_28 x15_30 x15_31 x15_32 x15_33 x15_35 x15_36 x15_38 x15_41 x15_43 x15_44 x15_46 x15_47 x15_49 x15_52 x15_54 x15_55 x15_58 x15_59 x15_61 x15_64 x15_66 x15_67 x15_69 x15_70 x15_72 x16_0 x18_1 x18_2 x18_3 x18_6 x18_7 x18_8 : Value) (gC9 gC10 gC11 gC12 gC13 gC16 gC17 gC18 : Nat) (HENV : Hid (Env w)) (HB : Hid (Ext w W18)) (K1 : Hid ((Fact.fracs (qL [⟨#[49]⟩])).S x3_4 W18)) (K2 : Hid ((Fact.fracs ([(⟨#[]⟩, ⟨#[]⟩)])).S x3_5 W18)) (K3 : Hid ((Fact.fracs (qL [⟨#[49]⟩, ⟨#[48]⟩, ⟨#[48]⟩, ⟨#[48]⟩, ⟨#[48]⟩, ⟨#[48]⟩, ⟨#[48]⟩, ⟨#[48]⟩, ⟨#[48]⟩, ⟨#[48]⟩])).S x4_2 W18)) (K4 : Hid ((Fact.tab (List.replicate 40 (qL [⟨#[49]⟩]))).S x5_4 W18)) (K5 : Hid ((Fact.fracs (List.replicate 40 (⟨#[49]⟩, ⟨#[49]⟩))).S x6_2 W18)) (X19 : Hid (∀ u, Ext W18 u → u.cell? ⟨gC16, 0, none⟩ = some (.string nines) ∧ u.cell? ⟨gC16, 1, none⟩ = some (.string ⟨#[49]⟩))) (X20 : Hid (∀ u, Ext W18 u → u.cell? ⟨gC17, 0, none⟩ = some (.string ⟨#[49]⟩) ∧ u.cell? ⟨gC17, 1, none⟩ = some (.string nines))) (Q : Exit → Act → World → Prop) (hK : Hid (∀ (u19 : World) (x19_1 x19_7 x19_9 x19_10 x19_11 x19_12 x19_13 x19_14 x19_15 x19_17 x19_20 x19_21 x19_23 x19_24 x19_25 x19_27 x19_29 x19_30 x19_32 x19_39 x19_40 x19_41 x19_42 x19_43 x19_44 x19_45 x19_46 x19_47 x19_48 x19_49 x19_50 x19_53 : Value), Ext W18 u19 → Q .normal ⟨#[.bool true, x3_4, x3_5, x4_2, x5_4, x6_2, Value.bool true, Value.int IntKind.i64 0, Value.int IntKind.i64 60, Value.pointer (some { block := gC9, off := 0 }), Value.int IntKind.i64 2, Value.pointer (some { block := gC10, off := 0 }), Value.int IntKind.i64 20, Value.pointer (some { block := gC11, off := 0 }), Value.int IntKind.i64 2, Value.pointer (some { block := gC12, off := 0 }), Value.int IntKind.i64 60, Value.pointer (some { block := gC13, off := 0 }), Value.int IntKind.i64 0, Value.pointer (some { block := gC16, off := 0 }), Value.pointer (some { block := gC17, off := 0 }), Value.pointer (some { block := gC18, off := 0 }), Value.int IntKind.i64 6, Value.bool true, Value.bool false, x3_0, x3_1, Value.agg #[Value.string { data := #[] }, Value.string { data := #[] }], x3_3, x4_0, x4_1, x3_4, x5_1, x5_2, x5_3, x3_4, x6_1, x4_2, x7_1, x7_2, x7_3, Value.bool true, Value.bool true, x4_2, x7_7, x3_4, x7_9, x7_10, x7_11, x7_12, Value.bool true, Value.bool true, Value.bool true, x5_4, x7_17, Value.bool true, Value.bool true, Value.bool true, x5_4, x7_22, x3_4, x7_24, x7_25, x7_26, Value.bool true, Value.bool true, Value.bool true, x7_30, x7_31, x7_32, Value.bool true, Value.bool true, Value.bool true, x3_5, x7_37, x7_38, x7_39, Value.bool true, Value.bool true, Value.bool true, x7_43, x7_44, x5_4, x6_2, x6_2, x7_48, x7_49, Value.int IntKind.i64 0, x7_51, Value.bool true, Value.bool true, x7_54, x5_4, x7_56, Value.int IntKind.i64 1, Value.int IntKind.i64 0, x7_59, Value.bool true, Value.bool true, x7_62, x4_2, x7_64, x7_65, x7_66, Value.int IntKind.i64 1, Value.int IntKind.i64 0, x7_69, Value.bool true, Value.tuple #[Value.int IntKind.i64 0, Value.int IntKind.i64 60], x3_5, x8_1, x8_2, x8_3, Value.int IntKind.i64 0, Value.int IntKind.i64 60, Value.tuple #[Value.agg #[Value.string ByteArray.empty, Value.string ByteArray.empty], Value.int IntKind.i64 2], x3_4, x9_1, x9_2, x3_4, x3_4, x9_5, Value.agg #[Value.string ByteArray.empty, Value.string ByteArray.empty], Value.int IntKind.i64 2, Value.tuple #[Value.agg #[Value.string ByteArray.empty, Value.string ByteArray.empty], Value.int IntKind.i64 20], x3_4, x10_1, x10_2, x3_4, x3_4, x3_5, x10_6, Value.agg #[Value.string ByteArray.empty, Value.string ByteArray.empty], Value.int IntKind.i64 20, Value.tuple #[Value.agg #[Value.string ByteArray.empty, Value.string ByteArray.empty], Value.int IntKind.i64 2], x3_4, x11_1, x11_2, x3_4, x11_4, x11_5, x11_6, Value.agg #[Value.string ByteArray.empty, Value.string ByteArray.empty], Value.int IntKind.i64 2, Value.tuple #[Value.agg #[Value.string ByteArray.empty, Value.string ByteArray.empty], Value.int IntKind.i64 60], x3_5, x12_1, x12_2, x3_5, x3_5, x3_5, x12_6, Value.agg #[Value.string ByteArray.empty, Value.string ByteArray.empty], Value.int IntKind.i64 60, Value.tuple #[Value.agg #[Value.string { data := #[48] }, Value.string { data := #[49] }], Value.int IntKind.i64 0], x3_4, x13_1, x13_2, x3_4, x13_4, x13_5, x13_6, x13_7, x13_8, Value.agg #[Value.string { data := #[48] }, Value.string { data := #[49] }], Value.int IntKind.i64 0, Value.bool true, Value.bool true, Value.int IntKind.i64 60, Value.bool true, Value.bool true, Value.bool true, Value.int IntKind.i64 2, Value.bool true, Value.bool true, Value.bool true, Value.int IntKind.i64 20, Value.bool true, Value.bool true, Value.bool true, Value.int IntKind.i64 2, Value.bool true, Value.bool true, Value.bool true, Value.int IntKind.i64 60, Value.bool true, Value.bool true, Value.bool true, Value.agg #[Value.string { data := #[48] }, Value.string { data := #[49] }], x14_23, x14_24, x14_25, Value.agg #[Value.string { data := #[48] }, Value.string { data := #[49] }], Value.bool true, Value.bool true, Value.bool true, Value.int IntKind.i64 0, Value.bool true, Value.bool true, Value.bool true, x14_34, x3_5, x14_36, x14_37, Value.int IntKind.i64 60, x14_39, Value.bool true, Value.bool true, x14_42, x3_4, x14_44, x14_45, x3_5, x14_47, x14_48, Value.int IntKind.i64 20, x14_50, Value.bool true, Value.bool true, x14_53, x3_4, x14_55, x14_56, x14_57, x14_58, Value.int IntKind.i64 2, x14_60, Value.bool true, Value.bool true, x14_63, x3_4, x3_4, x14_66, x14_67, x14_68, x14_69, x14_70, x14_71, Value.int IntKind.i64 2, x14_73, Value.bool true, Value.bool true, x14_76, x14_77, x14_78, x14_79, x14_80, x14_81, x14_82, x14_83, x14_84, Value.int IntKind.i64 7, x14_86, Value.bool true, Value.bool true, x14_89, x14_90, x14_91, x14_92, x14_93, x14_94, x14_95, x14_96, x14_97, x14_98, Value.int IntKind.i64 0, x14_100, Value.bool true, Value.bool true, x14_103, x14_104, x14_105, x14_106, x14_107, x14_108, x14_109, x14_110, x14_111, x14_112, x14_113, x14_114, Value.int IntKind.i64 0, x14_116, Value.bool true, Value.bool true, Value.bool true, x15_2, x3_4, x15_4, x15_5, x3_4, x15_7, x15_8, x15_9, x15_10, Value.int IntKind.i64 2, x15_12, Value.bool true, Value.bool true, x15_15, x3_4, x15_17, x15_18, x3_4, x15_20, x15_21, x15_22, x15_23, Value.int IntKind.i64 7, x15_25, Value.bool true, Value.bool true, x15_28, x3_4, x15_30, x15_31, x15_32, x15_33, x3_4, x15_35, x15_36, Value.int IntKind.i64 2, x15_38, Value.bool true, Value.bool true, x15_41, x3_4, x15_43, x15_44, x3_4, x15_46, x15_47, Value.int IntKind.i64 2, x15_49, Value.bool true, Value.bool true, x15_52, x3_4, x15_54, x15_55, x3_4, x3_5, x15_58, x15_59, Value.int IntKind.i64 20, x15_61, Value.bool true, Value.bool true, x15_64, x3_4, x15_66, x15_67, x3_5, x15_69, x15_70, Value.int IntKind.i64 20, x15_72, Value.bool true, x16_0, Value.agg #[Value.string nines, Value.string { data := #[49] }], Value.pointer (some { block := gC16, off := 0 }), Value.string nines, Value.agg #[Value.string { data := #[49] }, Value.string nines], Value.tuple #[Value.agg #[Value.string ByteArray.empty, Value.string ByteArray.empty], Value.int IntKind.i64 6], Value.agg #[Value.string nines, Value.string { data := #[49] }], x18_1, x18_2, x18_3, x3_4, x3_4, x18_6, x18_7, x18_8, Value.agg #[Value.string ByteArray.empty, Value.string ByteArray.empty], Value.int IntKind.i64 6, .bool true, x19_1, .bool true, .bool true, .bool true, .bool true, .bool true, x19_7, frV (⟨#[49]⟩, nines), x19_9, x19_10, x19_11, x19_12, x19_13, x19_14, x19_15, .int .i64 6, x19_17, .bool true, .bool true, x19_20, x19_21, frV (nines, ⟨#[49]⟩), x19_23, x19_24, x19_25, frV (nines, ⟨#[49]⟩), x19_27, x3_4, x19_29, x19_30, .int .i64 0, x19_32, .bool true, .bool true, .int .i64 6, .bool true, .bool true, .bool true, x19_39, x19_40, x19_41, x19_42, x19_43, x19_44, x19_45, x19_46, x19_47, x19_48, x19_49, x19_50, .int .i64 3, .int .i64 0, x19_53, .bool true], []⟩ u19)) :
    (Code.region 19 ops19.1 true).wp Tryz.prog Q ⟨#[Value.bool false, x3_4, x3_5, x4_2, x5_4, x6_2, Value.bool true, Value.int IntKind.i64 0, Value.int IntKind.i64 60, Value.pointer (some { block := gC9, off := 0 }), Value.int IntKind.i64 2, Value.pointer (some { block := gC10, off := 0 }), Value.int IntKind.i64 20, Value.pointer (some { block := gC11, off := 0 }), Value.int IntKind.i64 2, Value.pointer (some { block := gC12, off := 0 }), Value.int IntKind.i64 60, Value.pointer (some { block := gC13, off := 0 }), Value.int IntKind.i64 0, Value.pointer (some { block := gC16, off := 0 }), Value.pointer (some { block := gC17, off := 0 }), Value.pointer (some { block := gC18, off := 0 }), Value.int IntKind.i64 6, Value.bool true, Value.bool false, x3_0, x3_1, Value.agg #[Value.string { data := #[] }, Value.string { data := #[] }], x3_3, x4_0, x4_1, x3_4, x5_1, x5_2, x5_3, x3_4, x6_1, x4_2, x7_1, x7_2, x7_3, Value.bool true, Value.bool true, x4_2, x7_7, x3_4, x7_9, x7_10, x7_11, x7_12, Value.bool true, Value.bool true, Value.bool true, x5_4, x7_17, Value.bool true, Value.bool true, Value.bool true, x5_4, x7_22, x3_4, x7_24, x7_25, x7_26, Value.bool true, Value.bool true, Value.bool true, x7_30, x7_31, x7_32, Value.bool true, Value.bool true, Value.bool true, x3_5, x7_37, x7_38, x7_39, Value.bool true, Value.bool true, Value.bool true, x7_43, x7_44, x5_4, x6_2, x6_2, x7_48, x7_49, Value.int IntKind.i64 0, x7_51, Value.bool true, Value.bool true, x7_54, x5_4, x7_56, Value.int IntKind.i64 1, Value.int IntKind.i64 0, x7_59, Value.bool true, Value.bool true, x7_62, x4_2, x7_64, x7_65, x7_66, Value.int IntKind.i64 1, Value.int IntKind.i64 0, x7_69, Value.bool true, Value.tuple #[Value.int IntKind.i64 0, Value.int IntKind.i64 60], x3_5, x8_1, x8_2, x8_3, Value.int IntKind.i64 0, Value.int IntKind.i64 60, Value.tuple #[Value.agg #[Value.string ByteArray.empty, Value.string ByteArray.empty], Value.int IntKind.i64 2], x3_4, x9_1, x9_2, x3_4, x3_4, x9_5, Value.agg #[Value.string ByteArray.empty, Value.string ByteArray.empty], Value.int IntKind.i64 2, Value.tuple #[Value.agg #[Value.string ByteArray.empty, Value.string ByteArray.empty], Value.int IntKind.i64 20], x3_4, x10_1, x10_2, x3_4, x3_4, x3_5, x10_6, Value.agg #[Value.string ByteArray.empty, Value.string ByteArray.empty], Value.int IntKind.i64 20, Value.tuple #[Value.agg #[Value.string ByteArray.empty, Value.string ByteArray.empty], Value.int IntKind.i64 2], x3_4, x11_1, x11_2, x3_4, x11_4, x11_5, x11_6, Value.agg #[Value.string ByteArray.empty, Value.string ByteArray.empty], Value.int IntKind.i64 2, Value.tuple #[Value.agg #[Value.string ByteArray.empty, Value.string ByteArray.empty], Value.int IntKind.i64 60], x3_5, x12_1, x12_2, x3_5, x3_5, x3_5, x12_6, Value.agg #[Value.string ByteArray.empty, Value.string ByteArray.empty], Value.int IntKind.i64 60, Value.tuple #[Value.agg #[Value.string { data := #[48] }, Value.string { data := #[49] }], Value.int IntKind.i64 0], x3_4, x13_1, x13_2, x3_4, x13_4, x13_5, x13_6, x13_7, x13_8, Value.agg #[Value.string { data := #[48] }, Value.string { data := #[49] }], Value.int IntKind.i64 0, Value.bool true, Value.bool true, Value.int IntKind.i64 60, Value.bool true, Value.bool true, Value.bool true, Value.int IntKind.i64 2, Value.bool true, Value.bool true, Value.bool true, Value.int IntKind.i64 20, Value.bool true, Value.bool true, Value.bool true, Value.int IntKind.i64 2, Value.bool true, Value.bool true, Value.bool true, Value.int IntKind.i64 60, Value.bool true, Value.bool true, Value.bool true, Value.agg #[Value.string { data := #[48] }, Value.string { data := #[49] }], x14_23, x14_24, x14_25, Value.agg #[Value.string { data := #[48] }, Value.string { data := #[49] }], Value.bool true, Value.bool true, Value.bool true, Value.int IntKind.i64 0, Value.bool true, Value.bool true, Value.bool true, x14_34, x3_5, x14_36, x14_37, Value.int IntKind.i64 60, x14_39, Value.bool true, Value.bool true, x14_42, x3_4, x14_44, x14_45, x3_5, x14_47, x14_48, Value.int IntKind.i64 20, x14_50, Value.bool true, Value.bool true, x14_53, x3_4, x14_55, x14_56, x14_57, x14_58, Value.int IntKind.i64 2, x14_60, Value.bool true, Value.bool true, x14_63, x3_4, x3_4, x14_66, x14_67, x14_68, x14_69, x14_70, x14_71, Value.int IntKind.i64 2, x14_73, Value.bool true, Value.bool true, x14_76, x14_77, x14_78, x14_79, x14_80, x14_81, x14_82, x14_83, x14_84, Value.int IntKind.i64 7, x14_86, Value.bool true, Value.bool true, x14_89, x14_90, x14_91, x14_92, x14_93, x14_94, x14_95, x14_96, x14_97, x14_98, Value.int IntKind.i64 0, x14_100, Value.bool true, Value.bool true, x14_103, x14_104, x14_105, x14_106, x14_107, x14_108, x14_109, x14_110, x14_111, x14_112, x14_113, x14_114, Value.int IntKind.i64 0, x14_116, Value.bool true, Value.bool true, Value.bool true, x15_2, x3_4, x15_4, x15_5, x3_4, x15_7, x15_8, x15_9, x15_10, Value.int IntKind.i64 2, x15_12, Value.bool true, Value.bool true, x15_15, x3_4, x15_17, x15_18, x3_4, x15_20, x15_21, x15_22, x15_23, Value.int IntKind.i64 7, x15_25, Value.bool true, Value.bool true, x15_28, x3_4, x15_30, x15_31, x15_32, x15_33, x3_4, x15_35, x15_36, Value.int IntKind.i64 2, x15_38, Value.bool true, Value.bool true, x15_41, x3_4, x15_43, x15_44, x3_4, x15_46, x15_47, Value.int IntKind.i64 2, x15_49, Value.bool true, Value.bool true, x15_52, x3_4, x15_54, x15_55, x3_4, x3_5, x15_58, x15_59, Value.int IntKind.i64 20, x15_61, Value.bool true, Value.bool true, x15_64, x3_4, x15_66, x15_67, x3_5, x15_69, x15_70, Value.int IntKind.i64 20, x15_72, Value.bool true, x16_0, Value.agg #[Value.string nines, Value.string { data := #[49] }], Value.pointer (some { block := gC16, off := 0 }), Value.string nines, Value.agg #[Value.string { data := #[49] }, Value.string nines], Value.tuple #[Value.agg #[Value.string ByteArray.empty, Value.string ByteArray.empty], Value.int IntKind.i64 6], Value.agg #[Value.string nines, Value.string { data := #[49] }], x18_1, x18_2, x18_3, x3_4, x3_4, x18_6, x18_7, x18_8, Value.agg #[Value.string ByteArray.empty, Value.string ByteArray.empty], Value.int IntKind.i64 6, undef, undef, undef, undef, undef, undef, undef, undef, undef, undef, undef, undef, undef, undef, undef, undef, undef, undef, undef, undef, undef, undef, undef, undef, undef, undef, undef, undef, undef, undef, undef, undef, undef, undef, undef, undef, undef, undef, undef, undef, undef, undef, undef, undef, undef, undef, undef, undef, undef, undef, undef, undef, undef, undef, undef], []⟩ W18 := by
  unfold ops19
  dsimp only
  refine ro_region 55 [none, some (.val (.bool true)), none, none, none, none, none, some (.boxF 101 (.int .i64 6)), none, some (.fracs ([(⟨#[49]⟩, nines)])), some (.tab [[(⟨#[49]⟩, nines)]]), some (.tab [[(⟨#[49]⟩, nines)]]), some (.strs [⟨#[50]⟩]), some (.fracs (qL [⟨#[50]⟩])), some (.fracsE ([], 6)), some (.fracs ([])), none, some (.val (.bool true)), none, none, some (.strs [⟨#[49]⟩]), some (.isF 99 [⟨#[49]⟩]), none, some (.fracs ([(nines, ⟨#[49]⟩)])), some (.tab [[(nines, ⟨#[49]⟩)]]), some (.tab [[(nines, ⟨#[49]⟩)]]), none, some (.fracs ([(nines, ⟨#[49]⟩)])), none, some (.fracsE (qL [⟨#[49]⟩], 0)), some (.fracs (qL [⟨#[49]⟩])), none, some (.val (.bool true)), none, none, none, none, none, none, some (.boxF 100 (.int .i64 3)), some (.strs [⟨#[48]⟩, ⟨#[48]⟩, ⟨#[49]⟩]), some (.fracs (qL [⟨#[48]⟩, ⟨#[48]⟩, ⟨#[49]⟩])), some (.strs [⟨#[48]⟩, ⟨#[50]⟩, ⟨#[51]⟩]), some (.fracs (qL [⟨#[48]⟩, ⟨#[50]⟩, ⟨#[51]⟩])), some (.strs [⟨#[49]⟩, ⟨#[49]⟩, ⟨#[49]⟩]), some (.fracs (qL [⟨#[49]⟩, ⟨#[49]⟩, ⟨#[49]⟩])), some (.strs [⟨#[49]⟩, ⟨#[51]⟩, ⟨#[53]⟩]), some (.fracs (qL [⟨#[49]⟩, ⟨#[51]⟩, ⟨#[53]⟩])), some (.tab [qL [⟨#[48]⟩, ⟨#[48]⟩, ⟨#[49]⟩], qL [⟨#[48]⟩, ⟨#[50]⟩, ⟨#[51]⟩], qL [⟨#[49]⟩, ⟨#[49]⟩, ⟨#[49]⟩], qL [⟨#[49]⟩, ⟨#[51]⟩, ⟨#[53]⟩]]), some (.tab [qL [⟨#[48]⟩, ⟨#[48]⟩, ⟨#[49]⟩], qL [⟨#[48]⟩, ⟨#[50]⟩, ⟨#[51]⟩], qL [⟨#[49]⟩, ⟨#[49]⟩, ⟨#[49]⟩], qL [⟨#[49]⟩, ⟨#[51]⟩, ⟨#[53]⟩]]), some (.val (.tuple #[.int .i64 3, .int .i64 0])), none, none, some (.val (.bool true)), none] (by kernel_rfl) (by kernel_rfl) ?_
  go_simp
  refine ro_want (u := .bool true) (by rfl) (fun u hE hd => ?_) ?_
  · go_simp
  go_simp
  apply ro_callw (by rfl) (fun w => by go_simp; exact ⟨rfl, rfl⟩)
  · intro u hE hd
    exact works_ret u (HENV.out.mono (Ext.trans _ _ _ HB.out (Ext.trans _ _ _ (Ext.drew _) hE)))
  intro x19_1
  go_simp
  refine ro_want (u := .bool true) (by rfl) (fun u hE hd => ?_) ?_
  · have h0 : (x19_1 : Value) = .bool true := hd ⟨1, .data⟩ (by simp) rfl
    subst h0
    go_simp
  go_simp
  refine ro_want (u := .bool true) (by rfl) (fun u hE hd => ?_) ?_
  · go_simp
  go_simp
  refine ro_want (u := .bool true) (by rfl) (fun u hE hd => ?_) ?_
  · go_simp
  go_simp
  refine ro_want (u := .bool true) (by rfl) (fun u hE hd => ?_) ?_
  · go_simp
  go_simp
  refine ro_want (u := .bool true) (by rfl) (fun u hE hd => ?_) ?_
  · go_simp
  go_simp
  apply ro_callw (by rfl) (fun w => by go_simp; exact ⟨rfl, rfl⟩)
  · intro u hE hd
    exact fails_any _ u
  intro x19_7
  go_simp
  refine ro_want (u := frV (⟨#[49]⟩, nines)) (by rfl) (fun u hE hd => ?_) ?_
  · have hX := X20.out _ (Ext.trans _ _ _ (Ext.drew _) hE)
    unfold frV
    go_simp
  go_simp
  apply ro_runw (by rfl)
  · intro u hE hd
    unfold frV
    go_simp
    exact ⟨_, _, ⟨rfl, rfl⟩, Ext.alloc _ _, IsFracs.one (x := (⟨#[49]⟩, nines)) (Blk.new' _ rfl rfl)⟩
  intro x19_9
  go_simp
  apply ro_runw (by rfl)
  · intro u hE hd
    have h0 : IsFracs u x19_9 ([(⟨#[49]⟩, nines)]) := hd ⟨9, .data⟩ (by simp) rfl
    obtain ⟨A0, c0, e0, _⟩ := id h0
    subst e0
    go_simp
    exact ⟨_, _, ⟨rfl, rfl⟩, Ext.alloc _ _, IsTab.one (Blk.new' _ rfl rfl) (h0.mono (Ext.alloc _ _))⟩
  intro x19_10
  go_simp
  apply ro_callw (by rfl) (fun w => by go_simp; exact ⟨rfl, rfl⟩)
  · intro u hE hd
    have h0 : IsTab u x19_10 [[(⟨#[49]⟩, nines)]] := hd ⟨10, .data⟩ (by simp) rfl
    exact rows_any _ _ u h0
  intro x19_11
  go_simp
  apply ro_runw (by rfl)
  · intro u hE hd
    go_simp
    exact ⟨_, _, ⟨rfl, rfl⟩, Ext.alloc _ _, IsStrs.new (l := [⟨#[50]⟩]) (Blk.new' _ rfl rfl) (by decide)⟩
  intro x19_12
  go_simp
  apply ro_callw (by rfl) (fun w => by go_simp; exact ⟨rfl, rfl⟩)
  · intro u hE hd
    have h0 : IsStrs u x19_12 [⟨#[50]⟩] := hd ⟨12, .data⟩ (by simp) rfl
    exact q_ret _ _ u h0 (HENV.out.mono (Ext.trans _ _ _ HB.out (Ext.trans _ _ _ (Ext.drew _) hE))) (by decide) (by decide)
  intro x19_13
  go_simp
  apply ro_callw (by rfl) (fun w => by go_simp; exact ⟨rfl, rfl⟩)
  · intro u hE hd
    have h0 : IsTab u x19_11 [[(⟨#[49]⟩, nines)]] := hd ⟨11, .data⟩ (by simp) rfl
    have h1 : IsFracs u x19_13 (qL [⟨#[50]⟩]) := hd ⟨13, .data⟩ (by simp) rfl
    exact lsolve_ret _ _ _ _ _ u h0 h1 (HENV.out.mono (Ext.trans _ _ _ HB.out (Ext.trans _ _ _ (Ext.drew _) hE))).tab kx37
  intro x19_14
  go_simp
  apply ro_runw (by rfl)
  · intro u hE hd
    have h0 : (Fact.fracsE ([], 6)).S x19_14 u := hd ⟨14, .data⟩ (by simp) rfl
    obtain ⟨l, e0, hl⟩ := h0
    subst e0
    go_simp
    exact ⟨_, _, ⟨rfl, rfl⟩, Ext.refl _, hl⟩
  intro x19_15
  go_simp
  refine ro_want (u := .int .i64 6) (by rfl) (fun u hE hd => ?_) ?_
  · have h0 : (Fact.fracsE ([], 6)).S x19_14 u := hd ⟨14, .data⟩ (by simp) rfl
    obtain ⟨l, e0, hl⟩ := h0
    subst e0
    go_simp
  go_simp
  apply ro_callD (by rfl)
  · intro u hE hd
    have hf : (Fact.boxF 101 (.int .i64 6)).S x19_7 u := hd ⟨7, .data⟩ (by simp) rfl
    have h0 : IsFracs u x19_15 ([]) := hd ⟨15, .data⟩ (by simp) rfl
    obtain ⟨g, e0, hg⟩ := hf
    subst e0
    refine ⟨101, #[x19_15, .int .i64 6, .pointer (some ⟨g, 0, none⟩)], by have eg := enters_of Tryz.func101 (by kernel_rfl) rfl; go_simp, ?_⟩
    refine (fails1_any g _ _ ([], 6) u hg h0).mono ?_
    rintro e w' ⟨e1, hE1⟩
    exact ⟨_, e1, congrArg Value.bool kx38, hE1⟩
  intro x19_17
  go_simp
  refine ro_want (u := .bool true) (by rfl) (fun u hE hd => ?_) ?_
  · have h0 : (x19_17 : Value) = .bool true := hd ⟨17, .data⟩ (by simp) rfl
    subst h0
    go_simp
  go_simp
  refine ro_want (u := .bool true) (by rfl) (fun u hE hd => ?_) ?_
  · go_simp
  go_simp
  apply ro_runw (by rfl)
  · intro u hE hd
    go_simp
    exact ⟨_, _, ⟨rfl, rfl⟩, Ext.alloc _ _, IsStrs.new (l := [⟨#[49]⟩]) (Blk.new' _ rfl rfl) (by decide)⟩
  intro x19_20
  go_simp
  apply ro_callw (by rfl) (fun w => by go_simp; exact ⟨rfl, rfl⟩)
  · intro u hE hd
    have h0 : IsStrs u x19_20 [⟨#[49]⟩] := hd ⟨20, .data⟩ (by simp) rfl
    exact is_any _ _ u h0
  intro x19_21
  go_simp
  refine ro_want (u := frV (nines, ⟨#[49]⟩)) (by rfl) (fun u hE hd => ?_) ?_
  · have hX := X19.out _ (Ext.trans _ _ _ (Ext.drew _) hE)
    unfold frV
    go_simp
  go_simp
  apply ro_runw (by rfl)
  · intro u hE hd
    unfold frV
    go_simp
    exact ⟨_, _, ⟨rfl, rfl⟩, Ext.alloc _ _, IsFracs.one (x := (nines, ⟨#[49]⟩)) (Blk.new' _ rfl rfl)⟩
  intro x19_23
  go_simp
  apply ro_runw (by rfl)
  · intro u hE hd
    have h0 : IsFracs u x19_23 ([(nines, ⟨#[49]⟩)]) := hd ⟨23, .data⟩ (by simp) rfl
    obtain ⟨A0, c0, e0, _⟩ := id h0
    subst e0
    go_simp
    exact ⟨_, _, ⟨rfl, rfl⟩, Ext.alloc _ _, IsTab.one (Blk.new' _ rfl rfl) (h0.mono (Ext.alloc _ _))⟩
  intro x19_24
  go_simp
  apply ro_callw (by rfl) (fun w => by go_simp; exact ⟨rfl, rfl⟩)
  · intro u hE hd
    have h0 : IsTab u x19_24 [[(nines, ⟨#[49]⟩)]] := hd ⟨24, .data⟩ (by simp) rfl
    exact rows_any _ _ u h0
  intro x19_25
  go_simp
  refine ro_want (u := frV (nines, ⟨#[49]⟩)) (by rfl) (fun u hE hd => ?_) ?_
  · have hX := X19.out _ (Ext.trans _ _ _ (Ext.drew _) hE)
    unfold frV
    go_simp
  go_simp
  apply ro_runw (by rfl)
  · intro u hE hd
    unfold frV
    go_simp
    exact ⟨_, _, ⟨rfl, rfl⟩, Ext.alloc _ _, IsFracs.one (x := (nines, ⟨#[49]⟩)) (Blk.new' _ rfl rfl)⟩
  intro x19_27
  go_simp
  refine ro_want (u := x3_4) (by rfl) (fun u hE hd => ?_) ?_
  · go_simp
  go_simp
  apply ro_callw (by rfl) (fun w => by go_simp; exact ⟨rfl, rfl⟩)
  · intro u hE hd
    have h0 : IsTab u x19_25 [[(nines, ⟨#[49]⟩)]] := hd ⟨25, .data⟩ (by simp) rfl
    have h1 : IsFracs u x19_27 ([(nines, ⟨#[49]⟩)]) := hd ⟨27, .data⟩ (by simp) rfl
    have h2 : IsFracs u x3_4 (qL [⟨#[49]⟩]) := (Fact.fracs (qL [⟨#[49]⟩])).st _ _ _ (Ext.trans _ _ _ (Ext.drew _) hE) K1.out
    exact lleast_ret _ _ _ _ _ _ _ u h0 h1 h2 (HENV.out.mono (Ext.trans _ _ _ HB.out (Ext.trans _ _ _ (Ext.drew _) hE))).tab kx39
  intro x19_29
  go_simp
  apply ro_runw (by rfl)
  · intro u hE hd
    have h0 : (Fact.fracsE (qL [⟨#[49]⟩], 0)).S x19_29 u := hd ⟨29, .data⟩ (by simp) rfl
    obtain ⟨l, e0, hl⟩ := h0
    subst e0
    go_simp
    exact ⟨_, _, ⟨rfl, rfl⟩, Ext.refl _, hl⟩
  intro x19_30
  go_simp
  refine ro_want (u := .int .i64 0) (by rfl) (fun u hE hd => ?_) ?_
  · have h0 : (Fact.fracsE (qL [⟨#[49]⟩], 0)).S x19_29 u := hd ⟨29, .data⟩ (by simp) rfl
    obtain ⟨l, e0, hl⟩ := h0
    subst e0
    go_simp
  go_simp
  apply ro_callD (by rfl)
  · intro u hE hd
    have hf : (Fact.isF 99 [⟨#[49]⟩]).S x19_21 u := hd ⟨21, .data⟩ (by simp) rfl
    have h0 : IsFracs u x19_30 (qL [⟨#[49]⟩]) := hd ⟨30, .data⟩ (by simp) rfl
    obtain ⟨g, vs, e0, hg, hs⟩ := hf
    subst e0
    refine ⟨99, #[x19_30, .int .i64 0, .pointer (some ⟨g, 0, none⟩)], by have eg := enters_of Tryz.func99 (by kernel_rfl) rfl; go_simp, ?_⟩
    refine (is1_any g _ vs _ (qL [⟨#[49]⟩], 0) u hg hs h0 (HENV.out.mono (Ext.trans _ _ _ HB.out (Ext.trans _ _ _ (Ext.drew _) hE))) (by decide) (by decide)).mono ?_
    rintro e w' ⟨e1, hE1⟩
    exact ⟨_, e1, congrArg Value.bool kx7, hE1⟩
  intro x19_32
  go_simp
  refine ro_want (u := .bool true) (by rfl) (fun u hE hd => ?_) ?_
  · have h0 : (x19_32 : Value) = .bool true := hd ⟨32, .data⟩ (by simp) rfl
    subst h0
    go_simp
  go_simp
  refine ro_want (u := .bool true) (by rfl) (fun u hE hd => ?_) ?_
  · go_simp
  go_simp
  refine ro_want (u := .int .i64 6) (by rfl) (fun u hE hd => ?_) ?_
  · go_simp
  go_simp
  refine ro_want (u := .bool true) (by rfl) (fun u hE hd => ?_) ?_
  · go_simp
  go_simp
  refine ro_want (u := .bool true) (by rfl) (fun u hE hd => ?_) ?_
  · go_simp
  go_simp
  refine ro_want (u := .bool true) (by rfl) (fun u hE hd => ?_) ?_
  · go_simp
  go_simp
  apply ro_callw (by rfl) (fun w => by go_simp; exact ⟨rfl, rfl⟩)
  · intro u hE hd
    exact says_any _ u
  intro x19_39
  go_simp
  apply ro_runw (by rfl)
  · intro u hE hd
    go_simp
    exact ⟨_, _, ⟨rfl, rfl⟩, Ext.alloc _ _, IsStrs.new (l := [⟨#[48]⟩, ⟨#[48]⟩, ⟨#[49]⟩]) (Blk.new' _ rfl rfl) (by decide)⟩
  intro x19_40
  go_simp
  apply ro_callw (by rfl) (fun w => by go_simp; exact ⟨rfl, rfl⟩)
  · intro u hE hd
    have h0 : IsStrs u x19_40 [⟨#[48]⟩, ⟨#[48]⟩, ⟨#[49]⟩] := hd ⟨40, .data⟩ (by simp) rfl
    exact q_ret _ _ u h0 (HENV.out.mono (Ext.trans _ _ _ HB.out (Ext.trans _ _ _ (Ext.drew _) hE))) (by decide) (by decide)
  intro x19_41
  go_simp
  apply ro_runw (by rfl)
  · intro u hE hd
    go_simp
    exact ⟨_, _, ⟨rfl, rfl⟩, Ext.alloc _ _, IsStrs.new (l := [⟨#[48]⟩, ⟨#[50]⟩, ⟨#[51]⟩]) (Blk.new' _ rfl rfl) (by decide)⟩
  intro x19_42
  go_simp
  apply ro_callw (by rfl) (fun w => by go_simp; exact ⟨rfl, rfl⟩)
  · intro u hE hd
    have h0 : IsStrs u x19_42 [⟨#[48]⟩, ⟨#[50]⟩, ⟨#[51]⟩] := hd ⟨42, .data⟩ (by simp) rfl
    exact q_ret _ _ u h0 (HENV.out.mono (Ext.trans _ _ _ HB.out (Ext.trans _ _ _ (Ext.drew _) hE))) (by decide) (by decide)
  intro x19_43
  go_simp
  apply ro_runw (by rfl)
  · intro u hE hd
    go_simp
    exact ⟨_, _, ⟨rfl, rfl⟩, Ext.alloc _ _, IsStrs.new (l := [⟨#[49]⟩, ⟨#[49]⟩, ⟨#[49]⟩]) (Blk.new' _ rfl rfl) (by decide)⟩
  intro x19_44
  go_simp
  apply ro_callw (by rfl) (fun w => by go_simp; exact ⟨rfl, rfl⟩)
  · intro u hE hd
    have h0 : IsStrs u x19_44 [⟨#[49]⟩, ⟨#[49]⟩, ⟨#[49]⟩] := hd ⟨44, .data⟩ (by simp) rfl
    exact q_ret _ _ u h0 (HENV.out.mono (Ext.trans _ _ _ HB.out (Ext.trans _ _ _ (Ext.drew _) hE))) (by decide) (by decide)
  intro x19_45
  go_simp
  apply ro_runw (by rfl)
  · intro u hE hd
    go_simp
    exact ⟨_, _, ⟨rfl, rfl⟩, Ext.alloc _ _, IsStrs.new (l := [⟨#[49]⟩, ⟨#[51]⟩, ⟨#[53]⟩]) (Blk.new' _ rfl rfl) (by decide)⟩
  intro x19_46
  go_simp
  apply ro_callw (by rfl) (fun w => by go_simp; exact ⟨rfl, rfl⟩)
  · intro u hE hd
    have h0 : IsStrs u x19_46 [⟨#[49]⟩, ⟨#[51]⟩, ⟨#[53]⟩] := hd ⟨46, .data⟩ (by simp) rfl
    exact q_ret _ _ u h0 (HENV.out.mono (Ext.trans _ _ _ HB.out (Ext.trans _ _ _ (Ext.drew _) hE))) (by decide) (by decide)
  intro x19_47
  go_simp
  apply ro_runw (by rfl)
  · intro u hE hd
    have h0 : IsFracs u x19_41 (qL [⟨#[48]⟩, ⟨#[48]⟩, ⟨#[49]⟩]) := hd ⟨41, .data⟩ (by simp) rfl
    have h1 : IsFracs u x19_43 (qL [⟨#[48]⟩, ⟨#[50]⟩, ⟨#[51]⟩]) := hd ⟨43, .data⟩ (by simp) rfl
    have h2 : IsFracs u x19_45 (qL [⟨#[49]⟩, ⟨#[49]⟩, ⟨#[49]⟩]) := hd ⟨45, .data⟩ (by simp) rfl
    have h3 : IsFracs u x19_47 (qL [⟨#[49]⟩, ⟨#[51]⟩, ⟨#[53]⟩]) := hd ⟨47, .data⟩ (by simp) rfl
    obtain ⟨A0, c0, e0, _⟩ := id h0
    subst e0
    obtain ⟨A1, c1, e1, _⟩ := id h1
    subst e1
    obtain ⟨A2, c2, e2, _⟩ := id h2
    subst e2
    obtain ⟨A3, c3, e3, _⟩ := id h3
    subst e3
    go_simp
    exact ⟨_, _, ⟨rfl, rfl⟩, Ext.alloc _ _, IsTab.four (Blk.new' _ rfl rfl) (h0.mono (Ext.alloc _ _)) (h1.mono (Ext.alloc _ _)) (h2.mono (Ext.alloc _ _)) (h3.mono (Ext.alloc _ _))⟩
  intro x19_48
  go_simp
  apply ro_callw (by rfl) (fun w => by go_simp; exact ⟨rfl, rfl⟩)
  · intro u hE hd
    have h0 : IsTab u x19_48 [qL [⟨#[48]⟩, ⟨#[48]⟩, ⟨#[49]⟩], qL [⟨#[48]⟩, ⟨#[50]⟩, ⟨#[51]⟩], qL [⟨#[49]⟩, ⟨#[49]⟩, ⟨#[49]⟩], qL [⟨#[49]⟩, ⟨#[51]⟩, ⟨#[53]⟩]] := hd ⟨48, .data⟩ (by simp) rfl
    exact rows_any _ _ u h0
  intro x19_49
  go_simp
  apply ro_callw (by rfl) (fun w => by go_simp; exact ⟨rfl, rfl⟩)
  · intro u hE hd
    have h0 : IsTab u x19_49 [qL [⟨#[48]⟩, ⟨#[48]⟩, ⟨#[49]⟩], qL [⟨#[48]⟩, ⟨#[50]⟩, ⟨#[51]⟩], qL [⟨#[49]⟩, ⟨#[49]⟩, ⟨#[49]⟩], qL [⟨#[49]⟩, ⟨#[51]⟩, ⟨#[53]⟩]] := hd ⟨49, .data⟩ (by simp) rfl
    exact rank_ret _ _ _ u h0 (HENV.out.mono (Ext.trans _ _ _ HB.out (Ext.trans _ _ _ (Ext.drew _) hE))).tab kx40
  intro x19_50
  go_simp
  refine ro_want (u := .int .i64 3) (by rfl) (fun u hE hd => ?_) ?_
  · have h0 : (x19_50 : Value) = .tuple #[.int .i64 3, .int .i64 0] := hd ⟨50, .data⟩ (by simp) rfl
    subst h0
    go_simp
  go_simp
  refine ro_want (u := .int .i64 0) (by rfl) (fun u hE hd => ?_) ?_
  · have h0 : (x19_50 : Value) = .tuple #[.int .i64 3, .int .i64 0] := hd ⟨50, .data⟩ (by simp) rfl
    subst h0
    go_simp
  go_simp
  apply ro_callD (by rfl)
  · intro u hE hd
    have hf : (Fact.boxF 100 (.int .i64 3)).S x19_39 u := hd ⟨39, .data⟩ (by simp) rfl
    obtain ⟨g, e0, hg⟩ := hf
    subst e0
    refine ⟨100, #[.int .i64 3, .int .i64 0, .pointer (some ⟨g, 0, none⟩)], by have eg := enters_of Tryz.func100 (by kernel_rfl) rfl; go_simp, ?_⟩
    refine (says1_any g _ _ _ u hg).mono ?_
    rintro e w' ⟨e1, hE1⟩
    exact ⟨_, e1, congrArg Value.bool kx41, hE1⟩
  intro x19_53
  go_simp
  refine ro_want (u := .bool true) (by rfl) (fun u hE hd => ?_) ?_
  · have h0 : (x19_53 : Value) = .bool true := hd ⟨53, .data⟩ (by simp) rfl
    subst h0
    go_simp
  go_simp
  refine ro_done (fun u19 hE hf => ?_)
  clear hf
  simp only [List.drop_succ_cons, List.drop_zero]
  go_wp2
  exact hK.out _ _ _ _ _ _ _ _ _ _ _ _ _ _ _ _ _ _ _ _ _ _ _ _ _ _ _ _ _ _ _ _ _ (Ext.trans _ _ _ (Ext.drew _) hE)
end Go.Proofs.Xx
end
