/- The walks of ir.variable, of the table of kinds, of what says whether an end may be. Conditions: none. -/
import Derived.Test.YtggjcjdjhgfbmaaGreatBase
import Derived.Deep.WholeRow
namespace Go.Proofs.YtggjcjdjhgfbmaaGreat
open Go.RowKit

set_option maxHeartbeats 400000 in
theorem variable_calls (L : Lay) (p : LIr) (v : Int) (is : Bool) (w : World) (_hn : p.secret.length ≤ 9223372036854775807) :
    Calls Tryz.prog 44 #[L.val p, .int .i64 v, .bool is] w fun e w' => e = .returned (.bool (vOk p.secret.length v is)) ∧ Ext w w' := by
  cases is
  all_goals
    go_enter Tryz.func44, Tryz.ntmps44
    go_wp2
  all_goals
    go_ret
    refine ⟨ret_bool ?_, below_alloc1 _⟩
    first | (simp [vOk, *]; done) | (simp [vOk, *]; omega)

set_option maxHeartbeats 400000 in
theorem opsec_calls (L : Lay) (p : LIr) (B : Nat) (v : Int) (is : Bool) (w : World) (hp : IrAt w L p) (hB : w.heap[B]? = some (L.box p)) (hv : is = true → 0 ≤ v ∧ v < p.secret.length) :
    Calls Tryz.prog 51 #[.int .i64 v, .bool is, .pointer (some ⟨B, 0, none⟩)] w fun e w' => e = .returned (.bool (is && secAt p.secret v)) ∧ w' = w := by
  have hn := hp.ns
  cases is with
  | false =>
    go_enter Tryz.func51, Tryz.ntmps51
    go_wp2
    go_ret
    exact ⟨rfl, rfl⟩
  | true =>
    obtain ⟨h0, h1⟩ := hv rfl
    obtain ⟨bb, off, eA, hbb, hc⟩ := hp.sec v h0 h1
    have c0 : w.cell? ⟨B, 0, none⟩ = some (.slice (some ⟨bb, off, none⟩) p.secret.length L.sc) := by simp [World.cell?, hB, eA]
    clear hv
    go_enter Tryz.func51, Tryz.ntmps51
    go_wp2
    go_ret
    exact ⟨ret_bool (by simp), rfl⟩

set_option maxHeartbeats 400000 in
theorem endblock_calls (L : Lay) (p : LIr) (B : Nat) (n : Int) (w : World) (hp : IrAt w L p) (hB : w.heap[B]? = some (L.box p)) :
    Calls Tryz.prog 48 #[.int .i64 n, .pointer (some ⟨B, 0, none⟩)] w fun e w' => e = .returned (.bool (blockOk p.blocks.length n)) ∧ Ext w w' := by
  have hn := hp.rb.1
  have c0 : w.cell? ⟨B, 2, none⟩ = some (.slice L.bA p.blocks.length L.bc) := by simp [World.cell?, hB]
  go_enter Tryz.func48, Tryz.ntmps48
  go_wp2
  all_goals
    go_ret
    refine ⟨ret_bool ?_, Ext.refl _⟩
    first | (simp [blockOk, *]; done) | (simp [blockOk, *]; omega)

/-! ### the table of kinds: fn, d, a, b, imm, publicA, publicB, flows, publicD -/
def kindsV : Value := .agg (#[
  #[false, false, false, false, false, false, false, false, false],
  #[false, true, false, false, true, false, false, false, false],
  #[false, true, true, false, false, false, false, true, false],
  #[true, true, true, true, false, false, false, true, false],
  #[true, true, true, false, false, true, false, false, false],
  #[true, false, true, true, false, true, false, false, false],
  #[false, false, true, true, false, true, true, false, false],
  #[false, false, true, true, false, true, true, false, false],
  #[false, false, true, false, false, true, false, false, false],
  #[true, true, true, false, false, true, false, false, true],
  #[false, false, true, true, false, true, true, false, false],
  #[false, false, true, false, false, true, false, false, false],
  #[false, true, true, false, false, false, false, false, false],
  #[false, false, false, false, false, false, false, false, false]].flatten.map Value.bool)

def kindsC : Array Value := kindsV.cells
theorem kindsC_eq : kindsV = .agg kindsC := rfl
set_option maxRecDepth 100000 in
set_option maxHeartbeats 4000000 in
theorem kinds_calls (w : World) : Calls Tryz.prog 50 #[] w fun e w' => e = .returned kindsV ∧ Ext w w' := by
  go_enter Tryz.func50, Tryz.ntmps50
  repeat (first | (refine wpList_store_row rfl 95 (.tmp 0) (.tmp 14) rfl w.heap.size kindsC rfl (by kernel_rfl) 95 _ (heap_alloc_last _ _) (by kernel_rfl) (by kernel_rfl) (by kernel_rfl) ?_) | go_step)
  rw [World.setRow_alloc_new]
  have hl := run_loadVar_new (P := Tryz.prog) w 95 kindsC 14 94 Tryz.underlying95 (by kernel_rfl)
  exact bodyPost_ret (v := kindsV) (results_cell1 rfl _ _ _ ⟨w.heap.size, 0, none⟩ kindsV (by kernel_rfl) hl) rfl ⟨rfl, below_alloc1 _⟩
end Go.Proofs.YtggjcjdjhgfbmaaGreat
