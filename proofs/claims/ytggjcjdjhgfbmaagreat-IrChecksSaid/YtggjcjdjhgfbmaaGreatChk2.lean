/- Small laws for the walk of ir.op. Conditions: none. -/
import Derived.Test.YtggjcjdjhgfbmaaGreatChk1
import Derived.Deep.Light
namespace Go.Proofs.YtggjcjdjhgfbmaaGreat
open Go.RowKit

theorem vOk_in {n : Nat} {v : Int} (h : vOk n v true = true) : 0 ≤ v ∧ v < n := by simpa [vOk] using h
/-- The table's row is laid ahead of the call, and filled behind it. -/
theorem fields_late {w w1 : World} {x y : Obj} {v0 v1 v2 v3 v4 v5 v6 v7 v8 : Value}
    (hb1 : Ext (((w.alloc x).alloc y).alloc (.cells #[.bool false, .bool false, .bool false, .bool false, .bool false, .bool false, .bool false, .bool false, .bool false] 94)).drew w1) :
    ∃ g : Nat, Value.pointer (some ⟨w.heap.size + 1 + 1, 0, none⟩) = .pointer (some ⟨g, 0, none⟩) ∧ w.heap.size + 1 < g ∧
      (((((((((w1.setCell ⟨w.heap.size + 1 + 1, 0, none⟩ v0).setCell ⟨w.heap.size + 1 + 1, 1, none⟩ v1).setCell ⟨w.heap.size + 1 + 1, 2, none⟩ v2).setCell ⟨w.heap.size + 1 + 1, 3, none⟩ v3).setCell ⟨w.heap.size + 1 + 1, 4, none⟩ v4).setCell ⟨w.heap.size + 1 + 1, 5, none⟩ v5).setCell ⟨w.heap.size + 1 + 1, 6, none⟩ v6).setCell ⟨w.heap.size + 1 + 1, 7, none⟩ v7).setCell ⟨w.heap.size + 1 + 1, 8, none⟩ v8).heap[g]? = some (.cells #[v0, v1, v2, v3, v4, v5, v6, v7, v8] 94 (0, 0)) ∧
      Ext ((w.alloc x).alloc y) (((((((((w1.setCell ⟨w.heap.size + 1 + 1, 0, none⟩ v0).setCell ⟨w.heap.size + 1 + 1, 1, none⟩ v1).setCell ⟨w.heap.size + 1 + 1, 2, none⟩ v2).setCell ⟨w.heap.size + 1 + 1, 3, none⟩ v3).setCell ⟨w.heap.size + 1 + 1, 4, none⟩ v4).setCell ⟨w.heap.size + 1 + 1, 5, none⟩ v5).setCell ⟨w.heap.size + 1 + 1, 6, none⟩ v6).setCell ⟨w.heap.size + 1 + 1, 7, none⟩ v7).setCell ⟨w.heap.size + 1 + 1, 8, none⟩ v8) := by
  have h0 := hb1.heap (b := w.heap.size + 1 + 1) (o := .cells #[.bool false, .bool false, .bool false, .bool false, .bool false, .bool false, .bool false, .bool false, .bool false] 94 (0, 0)) (by exact heap_alloc_at _ _ (by simp))
  refine ⟨_, rfl, by omega, ?_, ?_⟩
  · have h9 := setCell_heap (setCell_heap (setCell_heap (setCell_heap (setCell_heap (setCell_heap (setCell_heap (setCell_heap (setCell_heap h0 0 v0) 1 v1) 2 v2) 3 v3) 4 v4) 5 v5) 6 v6) 7 v7) 8 v8
    simpa using h9
  have hx := Ext.trans (Ext.drew (Ext.alloc (Ext.refl _) _)) hb1
  exact ((((((((hx.set (by simp) _ _).set (by simp) _ _).set (by simp) _ _).set (by simp) _ _).set (by simp) _ _).set (by simp) _ _).set (by simp) _ _).set (by simp) _ _).set (by simp) _ _
end Go.Proofs.YtggjcjdjhgfbmaaGreat
