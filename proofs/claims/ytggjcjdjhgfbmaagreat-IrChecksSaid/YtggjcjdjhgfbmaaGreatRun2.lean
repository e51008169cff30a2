/- A run without what is handed in: whether the input fits; nothing is laid. Conditions: no parameters. -/
import Derived.Test.YtggjcjdjhgfbmaaGreatGo3
namespace Go.Proofs.YtggjcjdjhgfbmaaGreat
open Go.RowKit Go.BigFrame

abbrev inV0 : Value := .agg #[.slice none 0 0, .slice none 0 0]
theorem idxStr0 (fv : Value) (w : World) : Calls Tryz.prog 81 #[.slice none 0 0, fv] w fun e w' => e = .returned (.int .i64 (-1)) ∧ w' = w := by
  go_enter Tryz.func81, Tryz.ntmps81
  go_wp2
  refine wp_loop_rounds 1 ?_
  rw [rounds_succ]
  go_wp2
  go_ret
  exact ⟨rfl, rfl⟩
theorem contStr0 (fv : Value) (w : World) : Calls Tryz.prog 65 #[.slice none 0 0, fv] w fun e w' => e = .returned (.bool false) ∧ w' = w := by
  go_enter Tryz.func65, Tryz.ntmps65
  go_wp2_with (go_at_call 81; refine (idxStr0 _ _).mono ?_; rintro e w1 ⟨rfl, rfl⟩)
  go_ret
  exact ⟨rfl, rfl⟩

set_option maxRecDepth 100000 in
set_option maxHeartbeats 2000000 in
theorem fits0_calls (L : Lay) (p : LIr) (w : World) (h0 : p.params = []) : Calls Tryz.prog 39 #[L.val p, inV0] w fun e w' => e = .returned (.bool true) ∧ Ext w w' := by
  obtain ⟨ps, pp, pb⟩ := p
  obtain rfl : pp = [] := h0
  obtain ⟨sA, sc, pA, pc, bA, bc⟩ := L
  have hE0 : Ext w ((w.alloc (Lay.box ⟨sA, sc, pA, pc, bA, bc⟩ ⟨ps, [], pb⟩)).alloc (.cells #[.slice none 0 0, .slice none 0 0] 43)) := ((Ext.refl w).alloc _).alloc _
  go_enter Tryz.func39, Tryz.ntmps39
  go_wp2
  refine wp_loop_rounds 1 ?_
  rw [rounds_succ]
  go_wp2_with (go_at_call 65; refine (contStr0 _ _).mono ?_; rintro e w1 ⟨rfl, rfl⟩)
  go_ret
  exact ⟨rfl, hE0⟩
set_option maxRecDepth 100000 in
set_option maxHeartbeats 2000000 in
theorem hand0_calls (L : Lay) (p : LIr) (M : Nat) (w : World) (h0 : p.params = []) : Calls Tryz.prog 40 #[.pointer (some ⟨M, 0, none⟩), L.val p, inV0] w fun e w' => e = .returned (.tuple #[]) ∧ Ext w w' := by
  obtain ⟨ps, pp, pb⟩ := p
  obtain rfl : pp = [] := h0
  obtain ⟨sA, sc, pA, pc, bA, bc⟩ := L
  have hE0 : Ext w ((w.alloc (Lay.box ⟨sA, sc, pA, pc, bA, bc⟩ ⟨ps, [], pb⟩)).alloc (.cells #[.slice none 0 0, .slice none 0 0] 43)) := ((Ext.refl w).alloc _).alloc _
  go_enter Tryz.func40, Tryz.ntmps40
  go_wp2
  refine wp_loop_rounds 1 ?_
  rw [rounds_succ]
  go_wp2
  go_end0
  exact ⟨rfl, hE0⟩
end Go.Proofs.YtggjcjdjhgfbmaaGreat
