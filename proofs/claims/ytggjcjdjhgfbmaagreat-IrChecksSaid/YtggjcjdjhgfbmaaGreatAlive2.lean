/- The chapter's example: the walk of alive (layer 18). Conditions: none. -/
import Derived.Test.YtggjcjdjhgfbmaaGreatAlive1
namespace Go.Proofs.YtggjcjdjhgfbmaaGreat
open Go.RowKit Go.BigFrame

set_option maxRecDepth 100000 in
set_option maxHeartbeats 8000000 in
theorem alive18_calls (w : World) : Calls Tryz.prog 9 #[] w fun e w' => e = .returned (.bool true) ∧ Ext w w' := by
  have hX0 : Ext w ((((w.alloc (.cells #[.bool false, .bool true] 4)).alloc (.cells #[.int .u8 1, .int .u8 0, .int .i64 0, .int .i64 0, .int .i64 0, .int .u64 7] 54)).alloc (.cells #[.slice (some ⟨w.heap.size + 1, 0, none⟩) 1 1, .int .u8 3, .int .i64 0, .int .i64 0, .int .i64 0] 38)).alloc (.cells #[.slice (some ⟨w.heap.size, 0, none⟩) 2 2, .slice none 0 0, .slice (some ⟨w.heap.size + 1 + 1, 0, none⟩) 1 1] 26)) := ((((Ext.refl w).alloc _).alloc _).alloc _).alloc _
  have hB : ((((w.alloc (.cells #[.bool false, .bool true] 4)).alloc (.cells #[.int .u8 1, .int .u8 0, .int .i64 0, .int .i64 0, .int .i64 0, .int .u64 7] 54)).alloc (.cells #[.slice (some ⟨w.heap.size + 1, 0, none⟩) 1 1, .int .u8 3, .int .i64 0, .int .i64 0, .int .i64 0] 38)).alloc (.cells #[.slice (some ⟨w.heap.size, 0, none⟩) 2 2, .slice none 0 0, .slice (some ⟨w.heap.size + 1 + 1, 0, none⟩) 1 1] 26)).heap[w.heap.size]? = some (.cells #[.bool false, .bool true] 4 (0, 0)) := heap_alloc_was (heap_alloc_was (heap_alloc_was (heap_alloc_self _ _) _) _) _
  have hC : ((((w.alloc (.cells #[.bool false, .bool true] 4)).alloc (.cells #[.int .u8 1, .int .u8 0, .int .i64 0, .int .i64 0, .int .i64 0, .int .u64 7] 54)).alloc (.cells #[.slice (some ⟨w.heap.size + 1, 0, none⟩) 1 1, .int .u8 3, .int .i64 0, .int .i64 0, .int .i64 0] 38)).alloc (.cells #[.slice (some ⟨w.heap.size, 0, none⟩) 2 2, .slice none 0 0, .slice (some ⟨w.heap.size + 1 + 1, 0, none⟩) 1 1] 26)).heap[w.heap.size + 1]? = some (.cells #[.int .u8 1, .int .u8 0, .int .i64 0, .int .i64 0, .int .i64 0, .int .u64 7] 54 (0, 0)) := heap_alloc_was (heap_alloc_was (heap_alloc_at _ _ (by simp)) _) _
  have hD : ((((w.alloc (.cells #[.bool false, .bool true] 4)).alloc (.cells #[.int .u8 1, .int .u8 0, .int .i64 0, .int .i64 0, .int .i64 0, .int .u64 7] 54)).alloc (.cells #[.slice (some ⟨w.heap.size + 1, 0, none⟩) 1 1, .int .u8 3, .int .i64 0, .int .i64 0, .int .i64 0] 38)).alloc (.cells #[.slice (some ⟨w.heap.size, 0, none⟩) 2 2, .slice none 0 0, .slice (some ⟨w.heap.size + 1 + 1, 0, none⟩) 1 1] 26)).heap[w.heap.size + 1 + 1]? = some (.cells #[.slice (some ⟨w.heap.size + 1, 0, none⟩) 1 1, .int .u8 3, .int .i64 0, .int .i64 0, .int .i64 0] 38 (0, 0)) := heap_alloc_was (heap_alloc_at _ _ (by simp)) _
  have hT : ((((w.alloc (.cells #[.bool false, .bool true] 4)).alloc (.cells #[.int .u8 1, .int .u8 0, .int .i64 0, .int .i64 0, .int .i64 0, .int .u64 7] 54)).alloc (.cells #[.slice (some ⟨w.heap.size + 1, 0, none⟩) 1 1, .int .u8 3, .int .i64 0, .int .i64 0, .int .i64 0] 38)).alloc (.cells #[.slice (some ⟨w.heap.size, 0, none⟩) 2 2, .slice none 0 0, .slice (some ⟨w.heap.size + 1 + 1, 0, none⟩) 1 1] 26)).heap[w.heap.size + 1 + 1 + 1]? = some (.cells #[.slice (some ⟨w.heap.size, 0, none⟩) 2 2, .slice none 0 0, .slice (some ⟨w.heap.size + 1 + 1, 0, none⟩) 1 1] 26 (0, 0)) := heap_alloc_at _ _ (by simp)
  have hp := alive_at hB hC hD
  clear hB hC hD
  go_enter Tryz.func9, Tryz.ntmps9
  go_upto_region 2 with fail
  generalize (((w.alloc (.cells #[.bool false, .bool true] 4)).alloc (.cells #[.int .u8 1, .int .u8 0, .int .i64 0, .int .i64 0, .int .i64 0, .int .u64 7] 54)).alloc (.cells #[.slice (some ⟨w.heap.size + 1, 0, none⟩) 1 1, .int .u8 3, .int .i64 0, .int .i64 0, .int .i64 0] 38)).alloc (.cells #[.slice (some ⟨w.heap.size, 0, none⟩) 2 2, .slice none 0 0, .slice (some ⟨w.heap.size + 1 + 1, 0, none⟩) 1 1] 26) = W1 at hX0 hT hp ⊢
  have t0 := box_cell hT
  have tl := (Array.getElem?_eq_some_iff.1 hT).1
  go_upto_region 3 with (go_at_call 19; refine (run9_calls ⟨some ⟨w.heap.size, 0, none⟩, 2, none, 0, some ⟨w.heap.size + 1 + 1, 0, none⟩, 1⟩ _ hp).mono ?_; rintro e w1 ⟨q1, d1, rfl, hb⟩; have hX1 := hb; clear hb)
  have hX2 : Ext W1 (w1.alloc (.cells #[.int .u8 3, .int .i64 0, .int .u64 7, .slice none 0 0, .slice q1 0 d1, .int .i64 2] 48)) := hX1.alloc _
  have hO : (w1.alloc (.cells #[.int .u8 3, .int .i64 0, .int .u64 7, .slice none 0 0, .slice q1 0 d1, .int .i64 2] 48)).heap[w1.heap.size]? = some (.cells #[.int .u8 3, .int .i64 0, .int .u64 7, .slice none 0 0, .slice q1 0 d1, .int .i64 2] 48 (0, 0)) := heap_alloc_self _ _
  generalize w1.alloc (.cells #[.int .u8 3, .int .i64 0, .int .u64 7, .slice none 0 0, .slice q1 0 d1, .int .i64 2] 48) = W2 at hX2 hO ⊢
  clear t0 tl
  have t0 := box_cell (hX2.heap hT)
  have tl := (Array.getElem?_eq_some_iff.1 (hX2.heap hT)).1
  go_upto_region 4 with (go_at_call 19; refine (runM_calls ⟨some ⟨w.heap.size, 0, none⟩, 2, none, 0, some ⟨w.heap.size + 1 + 1, 0, none⟩, 1⟩ _ (hp.ext hX2)).mono ?_; rintro e w2 ⟨rfl, hb⟩; have hX3 := hb; clear hb)
  have hX4 : Ext W2 (w2.alloc (.cells #[.int .u8 0, .int .i64 0, .int .u64 0, .slice none 0 0, .slice none 0 0, .int .i64 0] 48)) := hX3.alloc _
  generalize w2.alloc (.cells #[.int .u8 0, .int .i64 0, .int .u64 0, .slice none 0 0, .slice none 0 0, .int .i64 0] 48) = W3 at hX4 ⊢
  clear t0 tl
  have t0 := box_cell (hX4.heap (hX2.heap hT))
  have tl := (Array.getElem?_eq_some_iff.1 (hX4.heap (hX2.heap hT))).1
  go_upto_region 5 with (go_at_call 10; refine (copy0_calls ⟨some ⟨w.heap.size, 0, none⟩, 2, none, 0, some ⟨w.heap.size + 1 + 1, 0, none⟩, 1⟩ _ (hp.ext (hX2.trans hX4))).mono ?_; rintro e w3 ⟨mA, mc, nA, nc, rA, rc, ms, rfl, hown, hb⟩; have hX5 := hb; clear hb)
  have hX6 : Ext W3 (w3.alloc (.cells #[.slice mA 2 mc, .slice nA 0 nc, .slice rA 1 rc] 26)) := hX5.alloc _
  have hown4 := hown.ext (below_alloc1 (.cells #[.slice mA 2 mc, .slice nA 0 nc, .slice rA 1 rc] 26))
  have hQ : (w3.alloc (.cells #[.slice mA 2 mc, .slice nA 0 nc, .slice rA 1 rc] 26)).heap[w3.heap.size]? = some (.cells #[.slice mA 2 mc, .slice nA 0 nc, .slice rA 1 rc] 26 (0, 0)) := heap_alloc_self _ _
  generalize w3.alloc (.cells #[.slice mA 2 mc, .slice nA 0 nc, .slice rA 1 rc] 26) = W4 at hX6 hown4 hQ ⊢
  obtain ⟨g, A, c, k, eg, eA, hg, hk, hgl, hkl, hgc, hkc, hkf, hgk, ⟨cur, hkh⟩, hnew⟩ := own_turned (s := [false, true]) (b := ⟨[], 3, 0, 0, 0⟩) (o := ⟨1, 0, 0, 0, 0, 7⟩) hown4
  simp only at eg
  subst eg
  subst eA
  obtain ⟨v0, k0⟩ := hkc 0 (by omega)
  obtain ⟨v1, k1⟩ := hkc 1 (by omega)
  obtain ⟨v2, k2⟩ := hkc 2 (by omega)
  obtain ⟨v3, k3⟩ := hkc 3 (by omega)
  obtain ⟨v4, k4⟩ := hkc 4 (by omega)
  obtain ⟨v5, k5⟩ := hkc 5 (by omega)
  have r0 := box_cell hQ
  have rl := (Array.getElem?_eq_some_iff.1 hQ).1
  have hnw : k ≠ w3.heap.size := by
    intro e
    subst e
    rw [hQ] at hkh
    injection hkh with hkh
    injection hkh with _ hkh _
    cases hkh
  clear t0 tl hkc hkh
  go_upto_region 6 with fail
  obtain ⟨ms', hown5⟩ := hnew ⟨2, 0, 0, 1, 0, 0⟩
  have hX7 : Ext W3 (set6 W4 k ⟨2, 0, 0, 1, 0, 0⟩) := (((((hX6.set hk _ _).set hk _ _).set hk _ _).set hk _ _).set hk _ _).set hk _ _
  have hQ5 : (set6 W4 k ⟨2, 0, 0, 1, 0, 0⟩).heap[w3.heap.size]? = some (.cells #[.slice mA 2 mc, .slice nA 0 nc, .slice (some ⟨g, 0, none⟩) 1 rc] 26 (0, 0)) := by
    rw [setCell_heap_ne hnw, setCell_heap_ne hnw, setCell_heap_ne hnw, setCell_heap_ne hnw, setCell_heap_ne hnw, setCell_heap_ne hnw]
    exact hQ
  have hq : IrAt (set6 W4 k ⟨2, 0, 0, 1, 0, 0⟩) ⟨mA, mc, nA, nc, some ⟨g, 0, none⟩, rc⟩ q0 := hown5.at
  generalize hW5 : set6 W4 k ⟨2, 0, 0, 1, 0, 0⟩ = W5 at hX7 hQ5 hq
  simp only [set6] at hW5
  rw [hW5]
  clear hW5 hown5 hnew hown4 hown r0 rl k0 k1 k2 k3 k4 k5 hgc hkf hgl hkl
  have hXX := hX2.trans (hX4.trans hX7)
  have t0 := box_cell (hXX.heap hT)
  have tl := (Array.getElem?_eq_some_iff.1 (hXX.heap hT)).1
  have hO5 := (hX4.trans hX7).heap hO
  have o0 := box_cell hO5
  have ol := (Array.getElem?_eq_some_iff.1 hO5).1
  have r0 := box_cell hQ5
  have rl := (Array.getElem?_eq_some_iff.1 hQ5).1
  have hp5 := hp.ext hXX
  have hE := Ext.refl W5
  obtain ⟨hc, hf⟩ := hE.cells
  have hEnd := hX0.trans hXX
  clear hT hO hO5 hQ5 hX0 hX2 hX4 hX7 hXX hp hQ hX1 hX3 hX5 hX6
  go_wp2_with fail
  refine (check0_calls ⟨some ⟨w.heap.size, 0, none⟩, 2, none, 0, some ⟨w.heap.size + 1 + 1, 0, none⟩, 1⟩ _ (hp5.ext hE)).mono ?_; rintro e w6 ⟨rfl, hb⟩; replace hE := hE.trans hb; clear hb; clear hc hf; obtain ⟨hc, hf⟩ := hE.cells
  go_wp2_with fail
  refine (sameOut0 3 0 7 2 _ _ _).mono ?_; rintro e w7 ⟨rfl, hb⟩; replace hE := hE.trans hb; clear hb; clear hc hf; obtain ⟨hc, hf⟩ := hE.cells
  go_wp2_with fail
  refine (checkQ_calls ⟨mA, mc, nA, nc, some ⟨g, 0, none⟩, rc⟩ _ (hq.ext hE)).mono ?_; rintro e w8 ⟨rfl, hb⟩; replace hE := hE.trans hb; clear hb; clear hc hf; obtain ⟨hc, hf⟩ := hE.cells
  go_wp2_with fail
  refine (checkZ_calls _).mono ?_; rintro e w9 ⟨rfl, hb⟩; replace hE := hE.trans hb; clear hb; clear hc hf; obtain ⟨hc, hf⟩ := hE.cells
  go_wp2_with fail
  go_ret
  exact ⟨rfl, hEnd.trans hE⟩
end Go.Proofs.YtggjcjdjhgfbmaaGreat
