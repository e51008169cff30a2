/- The document's own answer for which programs may be: the walk of an end. Conditions: none. -/
import Derived.Test.YtggjcjdjhgfbmaaGreatRf3
import Derived.Test.YtggjcjdjhgfbmaaGreatChk3
namespace Go.Proofs.YtggjcjdjhgfbmaaGreat
open Go.RowKit

set_option maxRecDepth 100000 in
set_option maxHeartbeats 4000000 in
theorem rend_calls (L : Lay) (p : LIr) (A : Option Addr) (c : Nat) (b : LBlock) (w : World) (hp : IrAt w L p) :
    Calls Tryz.prog 27 #[L.val p, b.val A c] w fun e w' => e = .returned (.bool (endOk p.secret p.blocks.length b)) ∧ Ext w w' := by
  have hn := hp.ns
  have hnb := hp.rb.1
  have hpx := hp.ext ((Ext.alloc (Ext.refl w) (L.box p)).alloc (b.box A c))
  have hP : ((w.alloc (L.box p)).alloc (b.box A c)).heap[w.heap.size]? = some (L.box p) := heap_alloc_was (heap_alloc_self w (L.box p)) _
  have hE := Ext.refl ((w.alloc (L.box p)).alloc (b.box A c))
  have hE0 := (Ext.alloc (Ext.refl w) (L.box p)).alloc (b.box A c)
  rcases hp.secOr b.a with hv | ⟨hv, h0, h1, bb, off, eA, hbb, hcell⟩
  · go_enter Tryz.func27, Tryz.ntmps27
    go_upto_region 1 with fail
    generalize hW : (w.alloc (L.box p)).alloc (b.box A c) = W at hpx hP hE hE0 ⊢
    have b0 := box_cell hP
    have b1 : ∀ i, W.cell? ⟨w.heap.size + 1, i, none⟩ = #[Value.slice A b.ops.length c, .int .u8 b.fin, .int .i64 b.a, .int .i64 b.to, .int .i64 b.els][i]? := box_cell (by rw [← hW]; exact heap_alloc_at _ _ (by simp))
    have hz : w.heap.size + 1 < W.heap.size := by rw [← hW]; simp
    have hz0 : w.heap.size < W.heap.size := by omega
    clear hW
    go_wp2_with (go_at_call 52; refine (rvariable_calls L p _ _ _ hn).mono ?_; rintro e w1 ⟨rfl, hb⟩; replace hE := hE.trans hb; clear hb; obtain ⟨hc1, hf1⟩ := hE.cells)
    all_goals
      go_ret; refine ⟨ret_bool ?_, hE0.trans hE⟩; go_light; clear hE hE0 hpx hp hP b0 b1; simp only [endOk, blockOk]; grind
  · replace hcell : ((w.alloc (L.box p)).alloc (b.box A c)).cell? ⟨bb, off + b.a.toNat, none⟩ = some (.bool (secAt p.secret b.a)) := (hE0.cells.1 _ _ hbb).trans hcell
    replace hbb : bb < ((w.alloc (L.box p)).alloc (b.box A c)).heap.size := Nat.lt_of_lt_of_le hbb hE0.size
    obtain ⟨sA, sc, pA, pc, bA, bc⟩ := L
    obtain rfl : sA = some ⟨bb, off, none⟩ := eA
    go_enter Tryz.func27, Tryz.ntmps27
    go_upto_region 1 with fail
    generalize hW : (w.alloc ((Lay.mk (some ⟨bb, off, none⟩) sc pA pc bA bc).box p)).alloc (b.box A c) = W at hpx hP hE hE0 hcell hbb ⊢
    have b0 := box_cell hP
    have b1 : ∀ i, W.cell? ⟨w.heap.size + 1, i, none⟩ = #[Value.slice A b.ops.length c, .int .u8 b.fin, .int .i64 b.a, .int .i64 b.to, .int .i64 b.els][i]? := box_cell (by rw [← hW]; exact heap_alloc_at _ _ (by simp))
    have hz : w.heap.size + 1 < W.heap.size := by rw [← hW]; simp
    have hz0 : w.heap.size < W.heap.size := by omega
    clear hW
    go_wp2_with (go_at_call 52; refine (rvariable_calls (Lay.mk (some ⟨bb, off, none⟩) sc pA pc bA bc) p _ _ _ hn).mono ?_; rintro e w1 ⟨rfl, hb⟩; replace hE := hE.trans hb; clear hb; obtain ⟨hc1, hf1⟩ := hE.cells)
    all_goals
      go_ret; refine ⟨ret_bool ?_, hE0.trans hE⟩; go_light; clear hE hE0 hpx hp hP b0 b1; simp only [endOk, blockOk]; grind
end Go.Proofs.YtggjcjdjhgfbmaaGreat
