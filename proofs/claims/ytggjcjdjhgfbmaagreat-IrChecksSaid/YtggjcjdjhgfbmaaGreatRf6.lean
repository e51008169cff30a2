/- The document's own answer for which programs may be: the walk of May. Conditions: sizes. -/
import Derived.Test.YtggjcjdjhgfbmaaGreatRf5
namespace Go.Proofs.YtggjcjdjhgfbmaaGreat
open Go.RowKit Go.BigFrame

theorem rblocksOk_cons (s : List Bool) (nb n : Nat) (b : LBlock) (l : List LBlock) : blocksOk s nb n (b :: l) = (decide (n + b.ops.length ≤ 32768) && endOk s nb b && b.ops.all (opOk s) && blocksOk s nb (n + b.ops.length) l) := rfl
theorem rblocksOk_nil (s : List Bool) (nb n : Nat) : blocksOk s nb n [] = true := rfl
def blkOne (p : LIr) (m : Nat) (b : LBlock) : Bool := decide (m + b.ops.length ≤ 32768) && endOk p.secret p.blocks.length b
theorem blk_not {p : LIr} {j m : Nat} {b : LBlock} (hv : blocksOk p.secret p.blocks.length 0 p.blocks = blocksOk p.secret p.blocks.length m (p.blocks.drop j)) (hd : p.blocks.drop j = b :: p.blocks.drop (j + 1))
    (h : (blkOne p m b && b.ops.all (opOk p.secret)) = false) : irOk p = false := by
  rw [hd, rblocksOk_cons] at hv
  unfold blkOne at h
  rw [h, Bool.false_and] at hv
  simp [irOk, hv]
theorem all_each {xs : List LOp} {q : LOp → Bool} (h : ∀ i (h : i < xs.length), q xs[i] = true) : xs.all q = true := by
  rw [List.all_eq_true]; intro o ho; obtain ⟨i, hi, rfl⟩ := List.getElem_of_mem ho; exact h i hi
theorem all_not {xs : List LOp} {q : LOp → Bool} (i : Nat) (hi : i < xs.length) (h : q xs[i] = false) : xs.all q = false := by
  rw [List.all_eq_false]; exact ⟨xs[i], List.getElem_mem hi, by simp [h]⟩

set_option maxRecDepth 100000 in
set_option maxHeartbeats 8000000 in
theorem may_calls (L : Lay) (p : LIr) (w : World) (hp : IrAt w L p) (hl : p.params.length ≤ 1000) (hsm : ∀ b ∈ p.blocks, b.ops.length ≤ 1000000) :
    Calls Tryz.prog 12 #[L.val p] w fun e w' => e = .returned (.bool (irOk p)) ∧ Ext w w' := by
  have hn := hp.ns
  have hnb := hp.rb.1
  have hE0 := Ext.alloc (Ext.refl w) (L.box p)
  have hpx := hp.ext hE0
  have hP := heap_alloc_self w (L.box p)
  have Hsm := Lib.hid hsm
  clear hsm
  obtain ⟨sA, sc, pA, pc, bA, bc⟩ := L
  cases hpo' : paramsOk p with
  | false =>
    have hpo := Lib.hid hpo'
    clear hpo'
    go_enter Tryz.func12, Tryz.ntmps12
    go_upto_region 1 with fail
    generalize hW : w.alloc (Lay.box ⟨sA, sc, pA, pc, bA, bc⟩ p) = W0 at hpx hP hE0 ⊢
    have hz : w.heap.size < W0.heap.size := (Array.getElem?_eq_some_iff.1 hP).1
    clear hW
    have b0 := box_cell hP
    dsimp only at b0
    have hE := Ext.refl W0
    go_wp2_with (go_at_call 26; refine (handed_calls _ p _ hpx ?_ hl).mono ?_; omega; rw [hpo.out]; rintro e w1 ⟨rfl, hb⟩; replace hE := hE.trans hb; clear hb; obtain ⟨hc1, hf1⟩ := hE.cells)
    all_goals
      go_ret
      refine ⟨ret_bool ?_, hE0.trans hE⟩
      have hpo' := hpo.out
      rw [eq_comm, Bool.eq_false_iff]
      simp only [irOk, ne_eq, Bool.and_eq_true, decide_eq_true_eq, not_and]
      clear hE hE0 hpx hp hP b0 Hsm hpo
      grind
  | true =>
    have hpo := Lib.hid hpo'
    clear hpo'
    go_enter Tryz.func12, Tryz.ntmps12
    go_upto_region 1 with fail
    generalize hW : w.alloc (Lay.box ⟨sA, sc, pA, pc, bA, bc⟩ p) = W0 at hpx hP hE0 ⊢
    have hz : w.heap.size < W0.heap.size := (Array.getElem?_eq_some_iff.1 hP).1
    clear hW
    have b0 := box_cell hP
    dsimp only at b0
    have hE := Ext.refl W0
    go_wp2_with (go_at_call 26; refine (handed_calls _ p _ hpx ?_ hl).mono ?_; omega; rw [hpo.out]; rintro e w1 ⟨rfl, hb⟩; replace hE := hE.trans hb; clear hb; obtain ⟨hc1, hf1⟩ := hE.cells)
    · have hpk : Hid (paramsOk p = true ∧ p.secret.length ≤ 4096 ∧ 1 ≤ p.blocks.length ∧ p.blocks.length ≤ 4096) := Lib.hid ⟨hpo.out, by omega, by omega, by omega⟩
      have hE1 := hE
      clear hE
      have d1 : decide ((4096 : Int) < (p.secret.length : Int)) = false := by simp; omega
      have d2 : decide ((p.blocks.length : Int) < 1) = false := by simp; omega
      have d3 : decide ((4096 : Int) < (p.blocks.length : Int)) = false := by simp; omega
      simp only [d1, d2, d3, Bool.or_false]
      clear d1 d2 d3
      go_loopw [4, 3] (fun i n wr => ∃ j m : Nat, j ≤ p.blocks.length ∧ i = .int .i64 j ∧ n = .int .i64 m ∧ m ≤ 32768 ∧ Ext W0 wr ∧ Hid (blocksOk p.secret p.blocks.length 0 p.blocks = blocksOk p.secret p.blocks.length m (p.blocks.drop j))) (fun i _ _ => p.blocks.length - (intOf i).toNat)
      case atStart => exact ⟨0, 0, Nat.zero_le _, rfl, rfl, Nat.zero_le _, hE1, Lib.hid rfl⟩
      case round =>
        obtain ⟨j, m, hj, rfl, rfl, hm, hE, hv⟩ := hrel
        obtain ⟨wo, rfl⟩ : ∃ wo : World, wo = wr := ⟨_, rfl⟩
        have hpr := hpx.ext hE
        have hPr := hE.heap hP
        have c0 := box_cell hPr
        dsimp only at c0
        have hzr : w.heap.size < wo.heap.size := Nat.lt_of_lt_of_le hz hE.size
        clear b0
        by_cases hlt : j < p.blocks.length
        · obtain ⟨bb, off, A', c, rfl, hbb, ⟨h0, h1, h2, h3, h4⟩, hcl, hrops⟩ := hpr.rb.2 j hlt
          have hmem : p.blocks[j] ∈ p.blocks := List.getElem_mem _
          have hsb := Hsm.out _ hmem
          have hdrop : Hid (p.blocks.drop j = p.blocks[j] :: p.blocks.drop (j + 1)) := Lib.hid (List.drop_eq_getElem_cons hlt)
          generalize hh : p.blocks[j] = b at *
          clear hmem hh
          have hrow := Lib.hid hrops
          have hlen := hrops.1
          clear hrops
          go_upto_region 8 with fail
          go_cut [55] (fun s wx => s = .bool (!blkOne p m b) ∧ Ext wo wx)
          case first =>
            refine wp_region_quiet_ext (by kernel_rfl) (by kernel_rfl) ?_
            by_cases hbig : m + b.ops.length ≤ 32768
            · have hbi : decide ((32768 : Int) < (m : Int) + (b.ops.length : Int)) = false := by simp; omega
              have hbn : decide (m + b.ops.length ≤ 32768) = true := by simpa using hbig
              clear hbig
              repeat (first
                | go_big_quiet_skip
                | (go_big_quiet_want; first
                    | (go_big_quiet_op; go_big_quiet_on)
                    | (unfold Oper.quiet
                       apply Exists.intro
                       refine ⟨fun W hW => ?_, ?_⟩
                       · first
                         | (obtain ⟨hcW, hfW⟩ := hW.cells; unfold Oper.quietAt; go_simp; exact rfl)
                         | (unfold Oper.quietAt; go_simp; go_at_call 27; exact Calls.ext_of hW (rend_calls ⟨sA, sc, pA, pc, some ⟨bb, off, none⟩, bc⟩ p A' c b _ (hpr.ext hW)))
                       go_big_quiet_on
                       dsimp only [Act.put]
                       simp only [List.setIfInBounds_toArray, List.set_cons_succ, List.set_cons_zero])))
              refine wpQuiet_nil ?_
              intro wx hx
              go_wp2_with fail
              go_meet
              refine ⟨congrArg Value.bool ?_, hx⟩
              simp [blkOne, *]
            · have hbi : decide ((32768 : Int) < (m : Int) + (b.ops.length : Int)) = true := by simp; omega
              have hbn : decide (m + b.ops.length ≤ 32768) = false := by simpa using hbig
              clear hbig
              repeat (first
                | go_big_quiet_skip
                | (go_big_quiet_want; first
                    | (go_big_quiet_op; go_big_quiet_on)
                    | (unfold Oper.quiet
                       apply Exists.intro
                       refine ⟨fun W hW => ?_, ?_⟩
                       · first
                         | (obtain ⟨hcW, hfW⟩ := hW.cells; unfold Oper.quietAt; go_simp; exact rfl)
                         | (unfold Oper.quietAt; go_simp; go_at_call 27; exact Calls.ext_of hW (rend_calls ⟨sA, sc, pA, pc, some ⟨bb, off, none⟩, bc⟩ p A' c b _ (hpr.ext hW)))
                       go_big_quiet_on
                       dsimp only [Act.put]
                       simp only [List.setIfInBounds_toArray, List.set_cons_succ, List.set_cons_zero])))
              refine wpQuiet_nil ?_
              intro wx hx
              go_wp2_with fail
              go_meet
              refine ⟨congrArg Value.bool ?_, hx⟩
              simp [blkOne, *]
          case rest =>
            obtain ⟨rfl, hx⟩ := hcut
            have hX := hE.trans hx
            cases hk : blkOne p m b with
            | false =>
              have hno : Hid (irOk p = false) := Lib.hid (blk_not hv.out hdrop.out (by rw [hk]; rfl))
              clear hk
              go_wp2
              go_ret
              exact ⟨congrArg (fun b => Ending.returned (.bool b)) hno.out.symm, hE0.trans hX⟩
            | true =>
              have Hk := Lib.hid hk
              have hm2 : m + b.ops.length ≤ 32768 := by
                have := hk
                simp only [blkOne, Bool.and_eq_true, decide_eq_true_eq] at this
                exact this.1
              clear hk
              simp only [Bool.not_true]
              obtain ⟨hc1, hf1⟩ := hx.cells
              go_wp2
              go_loopw [5] (fun k wy => ∃ q : Nat, q ≤ b.ops.length ∧ k = .int .i64 q ∧ Ext wo wy ∧ Hid (∀ i (h : i < b.ops.length), i < q → opOk p.secret b.ops[i] = true)) (fun k _ => b.ops.length - (intOf k).toNat)
              case atStart => exact ⟨0, Nat.zero_le _, rfl, hx, Lib.hid (fun i _ h => absurd h (Nat.not_lt_zero _))⟩
              case round =>
                obtain ⟨q, hq, rfl, hy, hvq⟩ := hrel
                obtain ⟨hcy, hfy⟩ := hy.cells
                clear hc1 hf1
                by_cases hql : q < b.ops.length
                · obtain ⟨ob, oo, rfl, hob, o0, o1, o2, o3, o4, o5⟩ := hrow.out.2 q hql
                  generalize hho : b.ops[q] = o at *
                  have Ho := Lib.hid hho
                  clear hho
                  go_upto_region 14 with fail
                  generalize hWs : wr.alloc o.box = W3
                  have hG3 : W3.heap[wr.heap.size]? = some o.box := by rw [← hWs]; exact heap_alloc_self _ _
                  have hY3 : Ext wo W3 := by rw [← hWs]; exact hy.alloc _
                  clear hWs
                  have g3 := box_cell hG3
                  have gl3 := (Array.getElem?_eq_some_iff.1 hG3).1
                  have p3 := box_cell (hY3.heap hPr)
                  have pl3 : w.heap.size < W3.heap.size := Nat.lt_of_lt_of_le hzr hY3.size
                  dsimp only at p3
                  clear o0 o1 o2 o3 o4 o5 hcy hfy c0 h0 h1 h2 h3 h4
                  have hZ := Ext.refl W3
                  obtain ⟨hc3, hf3⟩ := hZ.cells
                  have hp3 := hpr.ext hY3
                  cases hfo : opForm p.secret.length o with
                  | false =>
                    have hno : Hid (irOk p = false) := Lib.hid (blk_not hv.out hdrop.out (by rw [all_not q hql (by rw [Ho.out]; simp [opOk, hfo]), Bool.and_false]))
                    have Hfo := Lib.hid hfo
                    clear hfo
                    go_wp2_with (go_at_call 28; refine (rform_calls ⟨sA, sc, pA, pc, some ⟨bb, off, none⟩, bc⟩ p o _ hn).mono ?_; rw [Hfo.out]; rintro e w3 ⟨rfl, hb⟩; replace hZ := hZ.trans hb; clear hb; clear hc3 hf3; obtain ⟨hc3, hf3⟩ := hZ.cells)
                    go_ret
                    exact ⟨congrArg (fun b => Ending.returned (.bool b)) hno.out.symm, hE0.trans (hE.trans (hY3.trans hZ))⟩
                  | true =>
                    have Hfo := Lib.hid hfo
                    clear hfo
                    cases hao : opApart p.secret o with
                    | false =>
                      have hno : Hid (irOk p = false) := Lib.hid (blk_not hv.out hdrop.out (by rw [all_not q hql (by rw [Ho.out]; simp [opOk, hao]), Bool.and_false]))
                      have Hao := Lib.hid hao
                      clear hao
                      go_wp2_with (first
                        | (go_at_call 28; refine (rform_calls ⟨sA, sc, pA, pc, some ⟨bb, off, none⟩, bc⟩ p o _ hn).mono ?_; rw [Hfo.out]; rintro e w3 ⟨rfl, hb⟩; replace hZ := hZ.trans hb; clear hb; clear hc3 hf3; obtain ⟨hc3, hf3⟩ := hZ.cells)
                        | (go_at_call 29; refine (rapart_calls _ p o _ (hp3.ext hZ) Hfo.out).mono ?_; rw [Hao.out]; rintro e w3 ⟨rfl, hb⟩; replace hZ := hZ.trans hb; clear hb; clear hc3 hf3; obtain ⟨hc3, hf3⟩ := hZ.cells))
                      go_ret
                      exact ⟨congrArg (fun b => Ending.returned (.bool b)) hno.out.symm, hE0.trans (hE.trans (hY3.trans hZ))⟩
                    | true =>
                      have Hao := Lib.hid hao
                      clear hao
                      go_wp2_with (first
                        | (go_at_call 28; refine (rform_calls ⟨sA, sc, pA, pc, some ⟨bb, off, none⟩, bc⟩ p o _ hn).mono ?_; rw [Hfo.out]; rintro e w3 ⟨rfl, hb⟩; replace hZ := hZ.trans hb; clear hb; clear hc3 hf3; obtain ⟨hc3, hf3⟩ := hZ.cells)
                        | (go_at_call 29; refine (rapart_calls _ p o _ (hp3.ext hZ) Hfo.out).mono ?_; rw [Hao.out]; rintro e w3 ⟨rfl, hb⟩; replace hZ := hZ.trans hb; clear hb; clear hc3 hf3; obtain ⟨hc3, hf3⟩ := hZ.cells))
                      go_roundw
                      case rel =>
                        refine ⟨q + 1, hql, by go_num, hY3.trans hZ, Lib.hid fun i hi hiq => ?_⟩
                        rcases Nat.lt_succ_iff_lt_or_eq.1 hiq with h | rfl
                        · exact hvq.out i hi h
                        · rw [Ho.out]; simp [opOk, Hfo.out, Hao.out]
                      case measure => simp [intOf]; omega
                · have hall : Hid (b.ops.all (opOk p.secret) = true) := Lib.hid (all_each fun i hi => hvq.out i hi (by omega))
                  clear hvq
                  go_wp2
                  go_roundw
                  case rel =>
                    refine ⟨j + 1, m + b.ops.length, hlt, by go_num, by go_num, hm2, hE.trans hy, Lib.hid ?_⟩
                    have h1 := hv.out
                    rw [hdrop.out, rblocksOk_cons] at h1
                    have h2 := Hk.out
                    unfold blkOne at h2
                    rw [h1, h2, hall.out]
                    rfl
                  case measure => simp [intOf]; omega
        · go_wp2
          go_ret
          refine ⟨ret_bool ?_, hE0.trans hE⟩
          have h1 := hv.out
          rw [List.drop_eq_nil_of_le (by omega), rblocksOk_nil] at h1
          obtain ⟨k1, k2, k3, k4⟩ := hpk.out
          simp [irOk, k1, k2, k3, k4, h1]
    all_goals
      go_ret
      refine ⟨ret_bool ?_, hE0.trans hE⟩
      have hpo' := hpo.out
      rw [eq_comm, Bool.eq_false_iff]
      simp only [irOk, ne_eq, Bool.and_eq_true, decide_eq_true_eq, not_and]
      clear hE hE0 hpx hp hP b0 Hsm hpo
      grind
end Go.Proofs.YtggjcjdjhgfbmaaGreat
