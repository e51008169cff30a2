/- The document's own answer for which programs may be: the walks of its small functions; what is large. Conditions: none. -/
import Derived.Test.YtggjcjdjhgfbmaaGreatBase
import Derived.Deep.Light
namespace Go.Proofs.YtggjcjdjhgfbmaaGreat
open Go.RowKit

def opsSum (l : List LBlock) : Nat := (l.map fun b => b.ops.length).sum
def large (p : LIr) : Bool := decide (800 < p.secret.length) || decide (60 < p.params.length) || decide (500 < p.blocks.length) || decide (3000 < opsSum (p.blocks.take 600))
theorem opsSum_snoc (l : List LBlock) (b : LBlock) : opsSum (l ++ [b]) = opsSum l + b.ops.length := by simp [opsSum]

set_option maxRecDepth 100000 in
set_option maxHeartbeats 4000000 in
theorem large_calls (L : Lay) (p : LIr) (w : World) (hp : IrAt w L p) (hb : ∀ b ∈ p.blocks, b.ops.length ≤ 140737488355328) :
    Calls Tryz.prog 8 #[L.val p] w fun e w' => e = .returned (.bool (large p)) ∧ Ext w w' := by
  have hn := hp.ns
  have hpl := hp.rp.1
  have hbl := hp.rb.1
  have hE0 := Ext.alloc (Ext.refl w) (L.box p)
  have hpx := hp.ext hE0
  have hP := heap_alloc_self w (L.box p)
  have Hb := Lib.hid hb
  clear hb
  obtain ⟨sA, sc, pA, pc, bA, bc⟩ := L
  go_enter Tryz.func8, Tryz.ntmps8
  go_upto_region 1 with fail
  generalize hW : w.alloc (Lay.box ⟨sA, sc, pA, pc, bA, bc⟩ p) = W0 at hpx hP hE0 ⊢
  clear hW
  have b0 := box_cell hP
  dsimp only at b0
  go_wp2
  go_loop [3, 4] (fun n i => ∃ j m : Nat, j ≤ p.blocks.length ∧ j ≤ 600 ∧ i = .int .i64 j ∧ n = .int .i64 m ∧ m ≤ j * 140737488355328 ∧ Hid (m = opsSum (p.blocks.take j))) (fun _ i => p.blocks.length - (intOf i).toNat)
  case atStart => exact ⟨0, 0, Nat.zero_le _, by omega, rfl, rfl, by omega, Lib.hid rfl⟩
  case round =>
    obtain ⟨j, m, hj, hj6, rfl, rfl, hm, hv⟩ := hrel
    by_cases hlt : j < p.blocks.length
    · by_cases h6 : j < 600
      · obtain ⟨bb, off, A', c, rfl, hbb, ⟨h0, h1, h2, h3, h4⟩, hcl, hrops⟩ := hpx.rb.2 j hlt
        have hsb := Hb.out _ (List.getElem_mem hlt)
        have hdrop : Hid (p.blocks.take (j + 1) = p.blocks.take j ++ [p.blocks[j]]) := Lib.hid (List.take_succ_eq_append_getElem hlt)
        clear h1 h2 h3 h4 hrops
        generalize hh : p.blocks[j].ops.length = q at *
        have Hh := Lib.hid hh
        clear hh
        go_wp2
        go_round
        case rel =>
          refine ⟨j + 1, m + q, hlt, by omega, by go_num, by go_num, by omega, Lib.hid ?_⟩
          rw [hdrop.out, opsSum_snoc, hv.out, Hh.out]
        case measure => simp [intOf]; omega
      · go_wp2
        all_goals
          go_ret
          refine ⟨ret_bool ?_, hE0⟩
          obtain rfl : j = 600 := by omega
          have e := hv.out
          unfold large
          rw [← e]
          clear hv e Hb hpx hE0 hP b0 hp
          grind
    · obtain rfl : j = p.blocks.length := by omega
      have Hj := Lib.hid hj6
      have Ht : Hid (p.blocks.take 600 = p.blocks ∧ m = opsSum p.blocks) := Lib.hid ⟨List.take_of_length_le hj6, by have := hv.out; rwa [List.take_length] at this⟩
      clear hj6
      go_wp2
      all_goals
        go_ret
        refine ⟨ret_bool ?_, hE0⟩
        unfold large
        rw [Ht.out.1, ← Ht.out.2]
        clear hv Ht Hb hpx hE0 hP b0 hp Hj
        grind

set_option maxHeartbeats 400000 in
theorem rvariable_calls (L : Lay) (p : LIr) (v : Int) (is : Bool) (w : World) (_hn : p.secret.length ≤ 9223372036854775807) :
    Calls Tryz.prog 52 #[L.val p, .int .i64 v, .bool is] w fun e w' => e = .returned (.bool (vOk p.secret.length v is)) ∧ Ext w w' := by
  cases is
  all_goals
    go_enter Tryz.func52, Tryz.ntmps52
    go_wp2
  all_goals
    go_ret
    refine ⟨ret_bool ?_, below_alloc1 _⟩
    first | (simp [vOk, *]; done) | (simp [vOk, *]; omega)

theorem divides_calls (fn : Int) (w : World) : Calls Tryz.prog 54 #[.int .u8 fn] w fun e w' => e = .returned (.bool (fn == 13 || fn == 14)) ∧ w' = w := by
  go_enter Tryz.func54, Tryz.ntmps54
  go_wp2
  all_goals
    go_ret
    refine ⟨ret_bool ?_, rfl⟩
    simp [*]

abbrev hasV (k : Int) : Value := .agg #[.bool (hasFn k), .bool (hasD k), .bool (hasA k), .bool (hasB k), .bool (k == 1)]
set_option maxRecDepth 100000 in
set_option maxHeartbeats 4000000 in
theorem has_calls (k : Int) (w : World) : Calls Tryz.prog 53 #[.int .u8 k] w fun e w' => e = .returned (.tuple #[hasV k, .bool (decide (1 ≤ k) && decide (k ≤ 13))]) ∧ Ext w w' := by
  have : k = 1 ∨ k = 2 ∨ k = 3 ∨ k = 4 ∨ k = 5 ∨ k = 6 ∨ k = 7 ∨ k = 8 ∨ k = 9 ∨ k = 10 ∨ k = 11 ∨ k = 12 ∨ k = 13 ∨ (k ≤ 0 ∨ 13 < k) := by omega
  rcases this with rfl | rfl | rfl | rfl | rfl | rfl | rfl | rfl | rfl | rfl | rfl | rfl | rfl | h
  case inr.inr.inr.inr.inr.inr.inr.inr.inr.inr.inr.inr.inr =>
    have e1 : (k == 1) = false := by simp; omega
    have e2 : (k == 2) = false := by simp; omega
    have e3 : (k == 3) = false := by simp; omega
    have e4 : (k == 4) = false := by simp; omega
    have e5 : (k == 5) = false := by simp; omega
    have e6 : (k == 6) = false := by simp; omega
    have e7 : (k == 7) = false := by simp; omega
    have e8 : (k == 8) = false := by simp; omega
    have e9 : (k == 9) = false := by simp; omega
    have e10 : (k == 10) = false := by simp; omega
    have e11 : (k == 11) = false := by simp; omega
    have e12 : (k == 12) = false := by simp; omega
    have e13 : (k == 13) = false := by simp; omega
    have f0 : hasV k = .agg #[.bool false, .bool false, .bool false, .bool false, .bool false] := by
      have : hasA k = false := by simp [hasA]; omega
      simp [hasV, hasFn, hasD, hasB, *]
    have f1 : (decide (1 ≤ k) && decide (k ≤ 13)) = false := by simp; omega
    rw [f0, f1]
    clear h f0 f1
    go_enter Tryz.func53, Tryz.ntmps53
    go_wp2
    exact bodyPost_ret (v := .tuple #[.agg #[.bool false, .bool false, .bool false, .bool false, .bool false], .bool false]) (by simp [results, Tryz.results53, go_sem]) rfl ⟨rfl, below_alloc1 _⟩
  all_goals
    go_enter Tryz.func53, Tryz.ntmps53
    go_wp2
    exact bodyPost_ret (by simp [results, Tryz.results53, go_sem]; decide) rfl ⟨rfl, below_alloc1 _⟩
end Go.Proofs.YtggjcjdjhgfbmaaGreat
