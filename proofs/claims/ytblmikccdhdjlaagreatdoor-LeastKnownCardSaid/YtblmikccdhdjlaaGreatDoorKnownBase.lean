/- A part of the proof: the texts W80x. -/
import Derived.Test.YtblmikccdhdjlaaGreatDoorP46
set_option linter.unusedVariables false
set_option linter.unusedSimpArgs false
section
namespace Go.Proofs.Xx
open Go.RowKit Go.V Go.Grow Lin Go.Txt
set_option maxRecDepth 100000
/-- The operations of a region, found in a body by its number. -/
def opsIn (k : Nat) : Code → Option (Array Oper)
  | .region id ops _ => if id = k then some ops else none
  | .seq a b => match opsIn k a with | some l => some l | none => opsIn k b
  | .cond _ a b => match opsIn k a with | some l => some l | none => opsIn k b
  | .block _ b => opsIn k b
  | .loop b => opsIn k b
  | _ => none
def bodyOf (f : Func) : Code := f.body.getD .skip
theorem swap_ops {P : Program} {id : Nat} {ops ops' : Array Oper} {d : Bool} {Q : Exit → Act → World → Prop} {a : Act} {w : World} (h : ops' = ops) (k : (Code.region id ops' d).wp P Q a w) : (Code.region id ops d).wp P Q a w := h ▸ k
theorem kx0 : lcheckE [qL [⟨#[49]⟩, ⟨#[48]⟩, ⟨#[48]⟩, ⟨#[48]⟩, ⟨#[48]⟩, ⟨#[48]⟩, ⟨#[48]⟩, ⟨#[48]⟩, ⟨#[48]⟩, ⟨#[48]⟩]] = 0 := by kernel_rfl
theorem kx1 : lcheckE [qL [⟨#[49]⟩, ⟨#[48]⟩, ⟨#[48]⟩, ⟨#[48]⟩, ⟨#[48]⟩, ⟨#[48]⟩, ⟨#[48]⟩, ⟨#[48]⟩, ⟨#[48]⟩, ⟨#[48]⟩] ++ qL [⟨#[49]⟩]] = 60 := by kernel_rfl
theorem kx2 : lcheckE (List.replicate 40 (qL [⟨#[49]⟩])) = 0 := by kernel_rfl
theorem kx3 : lcheckE ((List.replicate 40 (qL [⟨#[49]⟩])) ++ [qL [⟨#[49]⟩]]) = 60 := by kernel_rfl
theorem kx4 : lcheckE [[]] = 60 := by kernel_rfl
theorem kx5 : lcheckE [[(⟨#[]⟩, ⟨#[]⟩)]] = 60 := by kernel_rfl
theorem kx6 : leastC (List.replicate 40 (qL [⟨#[49]⟩])) (List.replicate 40 (⟨#[49]⟩, ⟨#[49]⟩)) (List.replicate 40 (⟨#[49]⟩, ⟨#[49]⟩)) = (qL [⟨#[49]⟩], 0) := by kernel_rfl
theorem kx7 : isB [⟨#[49]⟩] (qL [⟨#[49]⟩], 0) = true := by kernel_rfl
theorem kx8 : rankV (List.replicate 40 (qL [⟨#[49]⟩])) = .tuple #[.int .i64 1, .int .i64 0] := by kernel_rfl
theorem kx9 : (decide ((1 : Int) = 1) && decide ((0 : Int) = 0)) = true := by kernel_rfl
theorem kx10 : rankV [qL [⟨#[49]⟩, ⟨#[48]⟩, ⟨#[48]⟩, ⟨#[48]⟩, ⟨#[48]⟩, ⟨#[48]⟩, ⟨#[48]⟩, ⟨#[48]⟩, ⟨#[48]⟩, ⟨#[48]⟩]] = .tuple #[.int .i64 1, .int .i64 0] := by kernel_rfl
theorem kx11 : rankV [[(⟨#[]⟩, ⟨#[]⟩)]] = .tuple #[.int .i64 0, .int .i64 60] := by kernel_rfl
theorem kx12 : measureC [qL [⟨#[49]⟩]] (qL [⟨#[49]⟩]) (qL [⟨#[49]⟩]) ([]) = ((.empty, .empty), 2) := by kernel_rfl
theorem kx13 : measureC [qL [⟨#[49]⟩]] (qL [⟨#[49]⟩]) (qL [⟨#[49]⟩]) ([(⟨#[]⟩, ⟨#[]⟩)]) = ((.empty, .empty), 20) := by kernel_rfl
theorem kx14 : measureC [qL [⟨#[49]⟩]] (qL [⟨#[49]⟩]) (qL [⟨#[45, 49]⟩]) ([]) = ((.empty, .empty), 2) := by kernel_rfl
theorem kx15 : measureC [[(⟨#[]⟩, ⟨#[]⟩)]] ([(⟨#[]⟩, ⟨#[]⟩)]) ([(⟨#[]⟩, ⟨#[]⟩)]) ([(⟨#[]⟩, ⟨#[]⟩)]) = ((.empty, .empty), 60) := by kernel_rfl
theorem kx16 : measureC [qL [⟨#[49]⟩]] (qL [⟨#[49]⟩]) (qL [⟨#[48]⟩]) (qL [⟨#[53]⟩]) = ((⟨#[48]⟩, ⟨#[49]⟩), 0) := by kernel_rfl
theorem kx17 : solveC [] ([(⟨#[]⟩, ⟨#[]⟩)]) = ([], 60) := by kernel_rfl
theorem kx18 : failsB 60 ([], 60) = true := by kernel_rfl
theorem kx19 : solveC [qL [⟨#[49]⟩]] ([(⟨#[]⟩, ⟨#[]⟩)]) = ([], 20) := by kernel_rfl
theorem kx20 : failsB 20 ([], 20) = true := by kernel_rfl
theorem kx21 : solveC [qL [⟨#[49]⟩]] ([]) = ([], 2) := by kernel_rfl
theorem kx22 : failsB 2 ([], 2) = true := by kernel_rfl
theorem kx23 : solveC [qL [⟨#[49]⟩], qL [⟨#[49]⟩]] (qL [⟨#[49]⟩, ⟨#[49]⟩]) = ([], 2) := by kernel_rfl
theorem kx24 : solveC [qL [⟨#[48]⟩]] (qL [⟨#[48]⟩]) = ([], 7) := by kernel_rfl
theorem kx25 : failsB 7 ([], 7) = true := by kernel_rfl
theorem kx26 : solveC [qL [⟨#[50, 47, 51]⟩]] (qL [⟨#[49, 47, 51]⟩]) = (qL [⟨#[49, 47, 50]⟩], 0) := by kernel_rfl
theorem kx27 : isB [⟨#[49, 47, 50]⟩] (qL [⟨#[49, 47, 50]⟩], 0) = true := by kernel_rfl
theorem kx28 : solveC [qL [⟨#[48]⟩, ⟨#[49]⟩], qL [⟨#[49]⟩, ⟨#[48]⟩]] (qL [⟨#[49]⟩, ⟨#[50]⟩]) = (qL [⟨#[50]⟩, ⟨#[49]⟩], 0) := by kernel_rfl
theorem kx29 : isB [⟨#[50]⟩, ⟨#[49]⟩] (qL [⟨#[50]⟩, ⟨#[49]⟩], 0) = true := by kernel_rfl
theorem kx30 : leastC [qL [⟨#[49]⟩]] (qL [⟨#[49]⟩]) (qL [⟨#[45, 49]⟩]) = ([], 2) := by kernel_rfl
theorem kx31 : leastC [qL [⟨#[49]⟩]] (qL [⟨#[49]⟩]) (qL [⟨#[48]⟩]) = ([], 7) := by kernel_rfl
theorem kx32 : leastC [qL [⟨#[49]⟩]] (qL [⟨#[49]⟩, ⟨#[49]⟩]) (qL [⟨#[49]⟩]) = ([], 2) := by kernel_rfl
theorem kx33 : leastC [qL [⟨#[49]⟩]] (qL [⟨#[49]⟩]) ([]) = ([], 2) := by kernel_rfl
theorem kx34 : leastC [qL [⟨#[49]⟩]] (qL [⟨#[49]⟩]) ([(⟨#[]⟩, ⟨#[]⟩)]) = ([], 20) := by kernel_rfl
theorem kx35 : leastC [qL [⟨#[49]⟩]] ([(⟨#[]⟩, ⟨#[]⟩)]) ([]) = ([], 20) := by kernel_rfl
theorem kx36 : measureC [[(nines, ⟨#[49]⟩)]] (qL [⟨#[49]⟩]) (qL [⟨#[49]⟩]) (qL [⟨#[50]⟩]) = ((.empty, .empty), 6) := by kernel_rfl
theorem kx37 : solveC [[(⟨#[49]⟩, nines)]] (qL [⟨#[50]⟩]) = ([], 6) := by kernel_rfl
theorem kx38 : failsB 6 ([], 6) = true := by kernel_rfl
theorem kx39 : leastC [[(nines, ⟨#[49]⟩)]] ([(nines, ⟨#[49]⟩)]) (qL [⟨#[49]⟩]) = (qL [⟨#[49]⟩], 0) := by kernel_rfl
theorem kx40 : rankV [qL [⟨#[48]⟩, ⟨#[48]⟩, ⟨#[49]⟩], qL [⟨#[48]⟩, ⟨#[50]⟩, ⟨#[51]⟩], qL [⟨#[49]⟩, ⟨#[49]⟩, ⟨#[49]⟩], qL [⟨#[49]⟩, ⟨#[51]⟩, ⟨#[53]⟩]] = .tuple #[.int .i64 3, .int .i64 0] := by kernel_rfl
theorem kx41 : (decide ((3 : Int) = 3) && decide ((0 : Int) = 0)) = true := by kernel_rfl
end Go.Proofs.Xx
end
