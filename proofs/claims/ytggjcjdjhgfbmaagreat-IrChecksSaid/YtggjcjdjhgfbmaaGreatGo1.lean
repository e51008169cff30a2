/- What ends a run: the deferred closure of goes, in a frame that panics by an 'over', and in one that returns. Conditions: none. -/
import Derived.Test.YtggjcjdjhgfbmaaGreatRun1
import Derived.Defers
import Derived.Recover
import Derived.WalkSmall
namespace Go.Proofs.YtggjcjdjhgfbmaaGreat
open Go.RowKit

set_option maxRecDepth 100000 in
set_option maxHeartbeats 2000000 in
theorem catch_over (B : Nat) (x n : Int) (older : List PanicEntry) (w : World) (hc : w.cell? ⟨B, 0, none⟩ = some (.int .i64 x)) (hz : w.frozen? ⟨B, 0, none⟩ = false) (hB : B < w.heap.size) :
    CallsD Tryz.prog 67 #[.pointer (some ⟨B, 0, none⟩)] (.panicking ({ v := .iface 121 (.agg #[.int .i64 n]), recovered := false } :: older)) w fun e u' w' =>
      e = .returned (.tuple #[]) ∧ u' = .panicking ({ v := .iface 121 (.agg #[.int .i64 n]), recovered := true } :: older) ∧ w' = (w.setCell ⟨B, 0, none⟩ (.int .i64 n)).alloc (.cells #[.int .i64 n] 121) := by
  have hta : ∀ (x : Int) (w : World), (Instr.typeAssert (.iface 121 (.agg #[.int .i64 x])) 20 121 true).run Tryz.prog w = .ok (.tuple #[.agg #[.int .i64 x], .bool true]) w := fun _ _ => by kernel_rfl
  have hbn : ∀ (x : Int) (w : World), (binOp .eql 20 (.iface 121 (.agg #[.int .i64 x])) .nilIface).run Tryz.prog w = .ok (.bool false) w := fun _ _ => by kernel_rfl
  refine callsD_of_wpS Tryz.func67 rfl fun c₀ cs hu => ?_
  apply wpS_seq
  apply wpS_region
  simp [wpOpsS, go_sem, recoverD, hu, Tryz.ntmps67, Exit.thenS]
  refine wpS_of_wp ?_
  go_wp2
  simp [bodyPostS, results, Tryz.results67]

set_option maxRecDepth 100000 in
set_option maxHeartbeats 2000000 in
theorem catch_none (B : Nat) (w : World) :
    CallsD Tryz.prog 67 #[.pointer (some ⟨B, 0, none⟩)] .returning w fun e u' w' => e = .returned (.tuple #[]) ∧ u' = .returning ∧ w' = w := by
  have hbn : ∀ (w : World), (binOp .eql 20 .nilIface .nilIface).run Tryz.prog w = .ok (.bool true) w := fun _ => by kernel_rfl
  refine callsD_of_wpS Tryz.func67 rfl fun c₀ cs hu => ?_
  apply wpS_seq
  apply wpS_region
  simp [wpOpsS, go_sem, recoverD, hu, Tryz.ntmps67, Exit.thenS]
  refine wpS_of_wp ?_
  go_wp2
  simp [bodyPostS, results, Tryz.results67]
  cases c₀
  simp_all
end Go.Proofs.YtggjcjdjhgfbmaaGreat
