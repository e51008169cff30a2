/- The walks of the machine's steps, 3: what is counted. Conditions: none. -/
import Derived.Test.YtggjcjdjhgfbmaaGreatMach2
import Derived.StillTailTactics
import Derived.Deep.QuietTactic
import Derived.BigQuiet
import Derived.WalkSmall
import Derived.Lib.VarintBits
namespace Go.Proofs.YtggjcjdjhgfbmaaGreat
open Go.RowKit

structure Mach.Ok (m : Mach) : Prop where
  s0 : 0 ≤ m.steps
  sf : m.steps ≤ m.fuel
  fl : m.fuel ≤ 1152921504606846976
  t0 : 0 ≤ m.taken
  ts : m.taken ≤ m.size
  sl : m.size ≤ 268435456
  v : ∀ x ∈ m.v, 0 ≤ x ∧ x < 18446744073709551616
  ll : m.left.length = m.arena.length

theorem eights_calls (n : Int) (h0 : 0 ≤ n) (h1 : n < 18446744073709551616) (w : World) : Calls Tryz.prog 96 #[.int .u64 n] w fun e w' => e = .returned (.int .u64 (eights n)) ∧ w' = w := by
  have hb : bits BinOp.and IntKind.u64 n 7 = n % 8 := bits_mask .u64 64 (by decide) wraps_u64 3 (by decide) n h0 h1
  go_enter Tryz.func96, Tryz.ntmps96
  go_wp2
  all_goals
    go_ret
    refine ⟨ret_int ?_, rfl⟩
    unfold eights
    try simp only [IntKind.wrap_u64]
    omega

def Post (w : World) (base : Nat) (S : Spot) : Res → Ending → World → Prop
  | .go m => Went w base S m
  | .over m n => Over w base S m n

set_option maxHeartbeats 4000000 in
theorem trap_calls (w : World) (base : Nat) (S : Spot) (m : Mach) (n : Int) (h : MachAt w base S m) :
    Calls Tryz.prog 71 #[.pointer (some ⟨S.M, 0, none⟩), .int .i64 n] w (Over w base S { m with fin := 4, trap := n } 0) := by
  have m0 := h.m_cell
  have ml := h.lt _ S.M_mem
  have hf := h.frozen
  go_enter Tryz.func71, Tryz.ntmps71
  go_wp2
  exact ⟨rfl, rfl, S, (h.setM 7 (.int .u8 4) { m with fin := 4 } rfl rfl rfl rfl rfl rfl).setM 8 (.int .i64 n) { m with fin := 4, trap := n } rfl rfl rfl rfl rfl rfl, (Turn.setM w S 7 _).trans (Turn.setM _ S 8 _)⟩

theorem pay_post (w : World) (base : Nat) (S : Spot) (m : Mach) (n : Int) : Post w base S (m.pay n) = if m.fuel - m.steps < n then Over w base S m 0 else Went w base S { m with steps := m.steps + n } := by
  unfold Mach.pay; split <;> rfl

set_option maxHeartbeats 4000000 in
theorem pay_calls (w : World) (base : Nat) (S : Spot) (m : Mach) (n : Int) (h : MachAt w base S m) (hk : m.Ok) (h0 : 0 ≤ n) (h1 : n < 18446744073709551616) :
    Calls Tryz.prog 69 #[.pointer (some ⟨S.M, 0, none⟩), .int .u64 n] w (Post w base S (m.pay n)) := by
  rw [pay_post]
  have m0 := h.m_cell
  have ml := h.lt _ S.M_mem
  have hf := h.frozen
  obtain ⟨s0, sf, fl, -, -, -, -, -⟩ := hk
  by_cases hp : m.fuel - m.steps < n
  · rw [if_pos hp]
    go_enter Tryz.func69, Tryz.ntmps69
    go_wp2
    go_quiet (fail)
    go_wp2
    have hx : Ext w (w.drewN nq) := (Ext.refl w).drewN nq
    exact ⟨rfl, rfl, S, h.ext hx, Turn.ext S hx⟩
  · rw [if_neg hp]
    replace hp : n ≤ m.fuel - m.steps := by omega
    go_enter Tryz.func69, Tryz.ntmps69
    go_wp2
    go_quiet (fail)
    go_wp2
    have hx : Ext w (w.drewN nq) := (Ext.refl w).drewN nq
    go_end0
    exact ⟨rfl, S, (h.ext hx).setM 12 (.int .i64 (m.steps + n)) { m with steps := m.steps + n } rfl rfl rfl rfl rfl rfl, (Turn.ext S hx).trans (Turn.setM _ S 12 _)⟩

set_option maxHeartbeats 4000000 in
theorem room_calls (w : World) (base : Nat) (S : Spot) (m : Mach) (n : Int) (h : MachAt w base S m) (hk : m.Ok) (h0 : 0 ≤ n) (h1 : n < 18446744073709551616) :
    Calls Tryz.prog 95 #[.pointer (some ⟨S.M, 0, none⟩), .int .u64 n] w fun e w' => e = .returned (.bool (m.room n)) ∧ ∃ q, w' = w.drewN q := by
  have m0 := h.m_cell
  have ml := h.lt _ S.M_mem
  obtain ⟨-, -, -, t0, ts, sl, -, -⟩ := hk
  have e0 : 0 ≤ eights n := by unfold eights; omega
  have e1 : eights n ≤ 2305843009213693952 := by unfold eights; omega
  have d0 : 0 ≤ (m.size - m.taken) / 8 := by omega
  have d1 : (m.size - m.taken) / 8 ≤ 268435456 := by omega
  go_enter Tryz.func95, Tryz.ntmps95
  go_wp2
  go_quiet ((go_at_call 96; exact Calls.quiet_of_same (eights_calls n h0 h1 _)))
  go_wp2
  go_ret
  exact ⟨rfl, _, rfl⟩
end Go.Proofs.YtggjcjdjhgfbmaaGreat
