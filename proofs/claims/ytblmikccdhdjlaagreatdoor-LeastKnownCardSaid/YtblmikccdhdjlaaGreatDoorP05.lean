/- A part of the proof: the texts XOwn. -/
import Derived.Test.YtblmikccdhdjlaaGreatDoorP03
import Derived.Laws.MakeOwn
import Derived.Laws.Externs
set_option linter.unusedVariables false
set_option linter.unusedSimpArgs false
section
namespace Go.V
open Go.RowKit
/-- A block of numbers of the call's own. -/
def Own (w : World) (g : Nat) (xs : List Nat) : Prop := ∃ T, w.heap[g]? = some (.cells (u64s xs).toArray T (0, 0))
theorem Own.lt {w : World} {g : Nat} {xs : List Nat} (h : Own w g xs) : g < w.heap.size := by
  obtain ⟨T, h⟩ := h
  exact (Array.getElem?_eq_some_iff.1 h).1
theorem Own.cell {w : World} {g : Nat} {xs : List Nat} (h : Own w g xs) (i : Nat) (hi : i < xs.length) : w.cell? ⟨g, i, none⟩ = some (.int .u64 (xs.getD i 0 : Nat)) := by
  obtain ⟨T, h⟩ := h
  simp [World.cell?, h, u64s, List.getElem?_eq_getElem hi, List.getD_eq_getElem?_getD]
theorem Own.frozen {w : World} {g : Nat} {xs : List Nat} (h : Own w g xs) (i : Nat) : w.frozen? ⟨g, i, none⟩ = false := by
  obtain ⟨T, h⟩ := h
  simp [World.frozen?, h]
theorem Own.ext {w w' : World} {g : Nat} {xs : List Nat} (h : Own w g xs) (hE : Ext w w') : Own w' g xs := by
  have hl := h.lt
  obtain ⟨T, h⟩ := h
  exact ⟨T, (hE.block g hl).trans h⟩
theorem Own.set {w : World} {g : Nat} {xs : List Nat} (h : Own w g xs) (i v : Nat) : Own (w.setCell ⟨g, i, none⟩ (.int .u64 (v : Nat))) g (xs.set i v) := by
  obtain ⟨T, h⟩ := h
  refine ⟨T, ?_⟩
  simp only [World.setCell, Array.getElem?_modify, if_pos, h]
  simp [u64s, List.map_set]
theorem Own.new (w : World) (xs : List Nat) (T : TypeId) : Own (w.alloc (.cells (u64s xs).toArray T)) w.heap.size xs := ⟨T, heap_alloc_new w _⟩
theorem Own.row {w : World} {g : Nat} {xs : List Nat} (h : Own w g xs) : Row w (some ⟨g, 0, none⟩) (u64s xs) := by
  refine .inr ⟨g, 0, rfl, fun i v hv => ?_⟩
  obtain ⟨T, h⟩ := h
  rw [Nat.zero_add]
  simpa [World.cell?, h] using hv
theorem Own.reads {w : World} {g c : Nat} {xs : List Nat} (h : Own w g xs) (hc : xs.length ≤ c) (hm : c ≤ maxLen) : Reads w (.slice (some ⟨g, 0, none⟩) xs.length c) xs := ⟨_, c, rfl, hc, hm, h.row⟩

theorem made_zeros (m : Nat) : madeCells #[.int .u64 0] m = (u64s (List.replicate m 0)).toArray := by
  apply Array.ext
  · simp [madeCells, u64s]
  · intro i h1 h2
    simp [madeCells, u64s, Nat.mod_one]
end Go.V
end
