/- The walk of ir.Check. Conditions: none. -/
import Derived.Test.YtggjcjdjhgfbmaaGreatChk4
namespace Go.Proofs.YtggjcjdjhgfbmaaGreat
open Go.RowKit

def checkE (p : LIr) : Int := if irOk p then 0 else 2
theorem ret_i64 {a b : Int} (h : a = b) : Ending.returned (.int .i64 a) = .returned (.int .i64 b) := by rw [h]
theorem blocksOk_cons (s : List Bool) (nb n : Nat) (b : LBlock) (l : List LBlock) : blocksOk s nb n (b :: l) = (decide (n + b.ops.length ≤ 32768) && endOk s nb b && b.ops.all (opOk s) && blocksOk s nb (n + b.ops.length) l) := rfl
theorem blocksOk_nil (s : List Bool) (nb n : Nat) : blocksOk s nb n [] = true := rfl

set_option maxRecDepth 100000 in
set_option maxHeartbeats 4000000 in
theorem check_calls (L : Lay) (p : LIr) (w : World) (hp : IrAt w L p) (hl : p.params.length ≤ 1000) (hfn : ∀ b ∈ p.blocks, ∀ o ∈ b.ops, 0 ≤ o.fn) (hsm : ∀ b ∈ p.blocks, b.ops.length ≤ 1000000) :
    Calls Tryz.prog 11 #[L.val p] w fun e w' => e = .returned (.int .i64 (checkE p)) ∧ Ext w w' := by
  have hn := hp.ns
  have hE0 := Ext.alloc (Ext.refl w) (L.box p)
  have hpx := hp.ext hE0
  have hP := heap_alloc_self w (L.box p)
  have Hfn := Lib.hid hfn
  have Hsm := Lib.hid hsm
  clear hfn hsm
  obtain ⟨sA, sc, pA, pc, bA, bc⟩ := L
  cases hpo' : paramsOk p with
  | false =>
    have hpo := Lib.hid hpo'
    clear hpo'
    go_enter Tryz.func11, Tryz.ntmps11
    go_upto_region 1 with fail
    generalize hW : w.alloc (Lay.box ⟨sA, sc, pA, pc, bA, bc⟩ p) = W0 at hpx hP hE0 ⊢
    have hz : w.heap.size < W0.heap.size := (Array.getElem?_eq_some_iff.1 hP).1
    clear hW
    have b0 := box_cell hP
    dsimp only at b0
    have hE := Ext.refl W0
    go_wp2_with (go_at_call 21; refine (params_calls _ p _ hpx hl).mono ?_; rw [hpo.out]; rintro e w1 ⟨rfl, hb⟩; replace hE := hE.trans hb; clear hb; obtain ⟨hc1, hf1⟩ := hE.cells)
    all_goals
      go_ret
      refine ⟨ret_i64 ?_, hE0.trans hE⟩
      unfold checkE
      rw [if_neg]
      simp only [irOk, Bool.and_eq_true, decide_eq_true_eq, not_and, Bool.not_eq_true]
      have hpo' := hpo.out
      clear hE hE0 hpx hp hP b0 Hfn Hsm hpo
      grind
  | true =>
    have hpo := Lib.hid hpo'
    clear hpo'
    go_enter Tryz.func11, Tryz.ntmps11
    go_upto_region 1 with fail
    generalize hW : w.alloc (Lay.box ⟨sA, sc, pA, pc, bA, bc⟩ p) = W0 at hpx hP hE0 ⊢
    have hz : w.heap.size < W0.heap.size := (Array.getElem?_eq_some_iff.1 hP).1
    clear hW
    have b0 := box_cell hP
    dsimp only at b0
    have hE := Ext.refl W0
    go_wp2_with (go_at_call 21; refine (params_calls _ p _ hpx hl).mono ?_; rw [hpo.out]; rintro e w1 ⟨rfl, hb⟩; replace hE := hE.trans hb; clear hb; obtain ⟨hc1, hf1⟩ := hE.cells)
    · have hpk : Hid (paramsOk p = true ∧ p.secret.length ≤ 4096 ∧ 1 ≤ p.blocks.length ∧ p.blocks.length ≤ 4096) := Lib.hid ⟨hpo.out, by omega, by omega, by omega⟩
      have hE1 := hE
      clear hE
      go_loopw [30, 3] (fun i n wr => ∃ j m : Nat, j ≤ p.blocks.length ∧ i = .int .i64 j ∧ n = .int .i64 m ∧ m ≤ 32768 ∧ Ext W0 wr ∧ Hid (blocksOk p.secret p.blocks.length 0 p.blocks = blocksOk p.secret p.blocks.length m (p.blocks.drop j))) (fun i _ _ => p.blocks.length - (intOf i).toNat)
      case atStart => exact ⟨0, 0, Nat.zero_le _, rfl, rfl, Nat.zero_le _, hE1, Lib.hid rfl⟩
      case round =>
        obtain ⟨j, m, hj, rfl, rfl, hm, hE, hv⟩ := hrel
        obtain ⟨hc, hf1⟩ := hE.cells
        by_cases hlt : j < p.blocks.length
        · obtain ⟨bb, off, A', c, rfl, hbb, ⟨h0, h1, h2, h3, h4⟩, hcl, hrops⟩ := hpx.rb.2 j hlt
          have hmem : p.blocks[j] ∈ p.blocks := List.getElem_mem _
          have hsb := Hsm.out _ hmem
          have hfb := Lib.hid (Hfn.out _ hmem)
          have hdrop : Hid (p.blocks.drop j = p.blocks[j] :: p.blocks.drop (j + 1)) := Lib.hid (List.drop_eq_getElem_cons hlt)
          generalize hh : p.blocks[j] = b at *
          clear hmem hh
          have hrow := Lib.hid hrops
          clear hrops
          go_upto_region 7 with fail
          generalize hW1 : wr.alloc (b.box A' c) = W1
          have hG : W1.heap[wr.heap.size]? = some (b.box A' c) := by rw [← hW1]; exact heap_alloc_self _ _
          have hEx : Ext W0 W1 := by rw [← hW1]; exact hE.alloc _
          clear hW1
          have g0 := box_cell hG
          have gl := (Array.getElem?_eq_some_iff.1 hG).1
          have hcx := hEx.cells.1
          have hz1' : w.heap.size < W1.heap.size := Nat.lt_of_lt_of_le hz hEx.size
          have hP1 := hEx.heap hP
          have c0 := box_cell hP1
          dsimp only at c0
          clear b0 hc hf1 h0 h1 h2 h3 h4 hcx
          have hX := Ext.refl W1
          have hxc := hX.cells
          obtain ⟨hc1, hf1⟩ := hxc
          go_wp2_with (first
            | (go_at_call 22; refine (end_calls _ p _ _ b _ (hpx.ext (hEx.trans hX))).mono ?_; rintro e w2 ⟨rfl, hb⟩; replace hX := hX.trans hb; clear hb; clear hc1 hf1; obtain ⟨hc1, hf1⟩ := hX.cells)
            | (go_at_call 23; refine (containsOps_calls _ p _ _ _ b.ops _ (hpx.ext (hEx.trans hX)) ((hEx.trans hX).heap hP) (hrow.out.ext (hEx.trans hX)) hfb.out).mono ?_; rintro e w3 ⟨rfl, hb⟩; replace hX := hX.trans hb; clear hb; clear hc1 hf1; obtain ⟨hc1, hf1⟩ := hX.cells))
          rotate_left 1
          · go_roundw
            case rel =>
              refine ⟨j + 1, m + b.ops.length, hlt, by go_num, by go_num, by omega, hEx.trans hX, Lib.hid ?_⟩
              have h1 := hv.out
              rw [hdrop.out, blocksOk_cons] at h1
              rw [h1]
              have k1 : decide (m + b.ops.length ≤ 32768) = true := by simp; omega
              have k2 : endOk p.secret p.blocks.length b = true := by assumption
              have k3 : b.ops.all (opOk p.secret) = true := by
                have h9 : (!b.ops.all (opOk p.secret)) = false := (by assumption : _ ∧ (!b.ops.all (opOk p.secret)) = false).2
                simpa using h9
              rw [k1, k2, k3]
              rfl
            case measure => simp [intOf]; omega
          all_goals
            go_ret
            refine ⟨ret_i64 ?_, hE0.trans (hEx.trans hX)⟩
            have h1 := hv.out
            rw [hdrop.out, blocksOk_cons] at h1
            unfold checkE
            rw [if_neg]
            simp only [irOk, h1]
            clear hE hE0 hpx hp hP Hfn Hsm hEx hX hf1 hc1 g0 c0 hG hP1 hv hrow
            grind
        · go_wp2
          go_ret
          refine ⟨ret_i64 ?_, hE0.trans hE⟩
          have h1 := hv.out
          rw [List.drop_eq_nil_of_le (by omega), blocksOk_nil] at h1
          obtain ⟨k1, k2, k3, k4⟩ := hpk.out
          simp [checkE, irOk, k1, k2, k3, k4, h1]
    all_goals
      go_ret
      refine ⟨ret_i64 ?_, hE0.trans hE⟩
      unfold checkE
      rw [if_neg]
      simp only [irOk, Bool.and_eq_true, decide_eq_true_eq, not_and, Bool.not_eq_true]
      have hpo' := hpo.out
      clear hE hE0 hpx hp hP b0 Hfn Hsm hpo
      grind
end Go.Proofs.YtggjcjdjhgfbmaaGreat
