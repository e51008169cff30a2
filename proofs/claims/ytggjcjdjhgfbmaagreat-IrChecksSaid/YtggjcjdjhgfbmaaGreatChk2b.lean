/- The walk of ir.op at some kinds of steps. Condition: Fn is not below 0. -/
import Derived.Test.YtggjcjdjhgfbmaaGreatChk2
namespace Go.Proofs.YtggjcjdjhgfbmaaGreat
open Go.RowKit

theorem row4 : ∀ w, (Instr.index 95 kindsV (.int .u8 4)).run Tryz.prog w = .ok (.agg #[.bool true, .bool true, .bool true, .bool false, .bool false, .bool true, .bool false, .bool false, .bool false]) w := fun _ => by kernel_rfl
set_option maxRecDepth 100000 in
set_option maxHeartbeats 8000000 in
theorem op4_calls (L : Lay) (p : LIr) (fn d a b imm : Int) (hfn : 0 ≤ fn) (w : World) (hp : IrAt w L p) :
    Calls Tryz.prog 25 #[L.val p, (LOp.mk 4 fn d a b imm).val] w fun e w' => e = .returned (.bool (opOk p.secret (LOp.mk 4 fn d a b imm))) ∧ Ext w w' := by
  have hrow := row4
  have hn := hp.ns
  go_enter Tryz.func25, Tryz.ntmps25
  go_upto_region 3 with fail
  go_cut [5] (fun s5 wx => ∃ g : Nat, s5 = .pointer (some ⟨g, 0, none⟩) ∧ w.heap.size + 1 < g ∧ wx.heap[g]? = some (.cells #[.bool true, .bool true, .bool true, .bool false, .bool false, .bool true, .bool false, .bool false, .bool false] 94 (0, 0)) ∧ Ext ((w.alloc (L.box p)).alloc (LOp.mk 4 fn d a b imm).box) wx)
  case first =>
    go_region_held3 (fun W => W.cell? ⟨w.heap.size + 1, 0, none⟩ = some (.int .u8 4)) (go_keep) ((go_at_call 50; refine (kinds_calls _).mono ?_; rintro e w1 ⟨rfl, hb1⟩; obtain ⟨hc1, hf1⟩ := hb1.cells))
    all_goals (go_wp2_with fail; go_meet)
    · exact ⟨_, rfl, by have := hb1.size; simp at this; omega, heap_alloc_self _ _, (Ext.trans (Ext.refl _).drew hb1).alloc _⟩
    · exact ⟨_, rfl, by have := hb1.size; simp at this; omega, heap_alloc_self _ _, (Ext.trans (Ext.refl _).drew hb1).alloc _⟩
    · exact fields_late hb1
  case rest =>
    obtain ⟨g, rfl, hg, hG, hX⟩ := hcut
    have hP := hX.heap (heap_alloc_was (heap_alloc_self w (L.box p)) _)
    have b0 := box_cell hP
    have b1 := box_cell (hX.heap (heap_alloc_at (w.alloc (L.box p)) (LOp.mk 4 fn d a b imm).box (n := w.heap.size + 1) (by simp)))
    have g0 := box_cell hG
    have hE := Ext.refl wc
    have hpx := (hp.ext ((Ext.alloc (Ext.refl w) (L.box p)).alloc (LOp.mk 4 fn d a b imm).box)).ext hX
    have gl := (Array.getElem?_eq_some_iff.1 hG).1
    have hl : w.heap.size + 1 < wc.heap.size := by omega
    have hl0 : w.heap.size < wc.heap.size := by omega
    go_upto_region 7 with (go_at_call 44; refine (variable_calls L p _ _ _ hn).mono ?_; rintro e w1 ⟨rfl, hb⟩; replace hE := hE.trans hb; clear hb; obtain ⟨hc1, hf1⟩ := hE.cells)
    all_goals first
      | (go_ret; refine ⟨ret_bool ?_, (Ext.trans ((Ext.alloc (Ext.refl w) (L.box p)).alloc (LOp.mk 4 fn d a b imm).box) hX).trans hE⟩; go_light; clear hX hE hpx hp hP hG b0 b1 g0; simp only [opOk, opForm, hasD, hasA, hasB, hasFn]; grind)
      | skip
    try have hvd := vOk_in (by assumption : vOk p.secret.length d true = true)
    try have hva := vOk_in (by assumption : vOk p.secret.length a true = true)
    try have hvb := vOk_in (by assumption : vOk p.secret.length b true = true)
    go_quiet ((go_at_call 51; exact Calls.quiet_of_same (opsec_calls L p w.heap.size _ _ _ (hpx.ext (hE.drewN _)) ((hE.drewN _).heap hP) (fun h => by first | assumption | cases h))))
    go_wp2
    all_goals
      go_ret; refine ⟨ret_bool ?_, (Ext.trans ((Ext.alloc (Ext.refl w) (L.box p)).alloc (LOp.mk 4 fn d a b imm).box) hX).trans (hE.drewN _)⟩; go_light; clear hX hE hpx hp hP hG b0 b1 g0; simp only [opOk, opForm, opApart, hasD, hasA, hasB, hasFn]; grind

theorem row5 : ∀ w, (Instr.index 95 kindsV (.int .u8 5)).run Tryz.prog w = .ok (.agg #[.bool true, .bool false, .bool true, .bool true, .bool false, .bool true, .bool false, .bool false, .bool false]) w := fun _ => by kernel_rfl
set_option maxRecDepth 100000 in
set_option maxHeartbeats 8000000 in
theorem op5_calls (L : Lay) (p : LIr) (fn d a b imm : Int) (hfn : 0 ≤ fn) (w : World) (hp : IrAt w L p) :
    Calls Tryz.prog 25 #[L.val p, (LOp.mk 5 fn d a b imm).val] w fun e w' => e = .returned (.bool (opOk p.secret (LOp.mk 5 fn d a b imm))) ∧ Ext w w' := by
  have hrow := row5
  have hn := hp.ns
  go_enter Tryz.func25, Tryz.ntmps25
  go_upto_region 3 with fail
  go_cut [5] (fun s5 wx => ∃ g : Nat, s5 = .pointer (some ⟨g, 0, none⟩) ∧ w.heap.size + 1 < g ∧ wx.heap[g]? = some (.cells #[.bool true, .bool false, .bool true, .bool true, .bool false, .bool true, .bool false, .bool false, .bool false] 94 (0, 0)) ∧ Ext ((w.alloc (L.box p)).alloc (LOp.mk 5 fn d a b imm).box) wx)
  case first =>
    go_region_held3 (fun W => W.cell? ⟨w.heap.size + 1, 0, none⟩ = some (.int .u8 5)) (go_keep) ((go_at_call 50; refine (kinds_calls _).mono ?_; rintro e w1 ⟨rfl, hb1⟩; obtain ⟨hc1, hf1⟩ := hb1.cells))
    all_goals (go_wp2_with fail; go_meet)
    · exact ⟨_, rfl, by have := hb1.size; simp at this; omega, heap_alloc_self _ _, (Ext.trans (Ext.refl _).drew hb1).alloc _⟩
    · exact ⟨_, rfl, by have := hb1.size; simp at this; omega, heap_alloc_self _ _, (Ext.trans (Ext.refl _).drew hb1).alloc _⟩
    · exact fields_late hb1
  case rest =>
    obtain ⟨g, rfl, hg, hG, hX⟩ := hcut
    have hP := hX.heap (heap_alloc_was (heap_alloc_self w (L.box p)) _)
    have b0 := box_cell hP
    have b1 := box_cell (hX.heap (heap_alloc_at (w.alloc (L.box p)) (LOp.mk 5 fn d a b imm).box (n := w.heap.size + 1) (by simp)))
    have g0 := box_cell hG
    have hE := Ext.refl wc
    have hpx := (hp.ext ((Ext.alloc (Ext.refl w) (L.box p)).alloc (LOp.mk 5 fn d a b imm).box)).ext hX
    have gl := (Array.getElem?_eq_some_iff.1 hG).1
    have hl : w.heap.size + 1 < wc.heap.size := by omega
    have hl0 : w.heap.size < wc.heap.size := by omega
    go_upto_region 7 with (go_at_call 44; refine (variable_calls L p _ _ _ hn).mono ?_; rintro e w1 ⟨rfl, hb⟩; replace hE := hE.trans hb; clear hb; obtain ⟨hc1, hf1⟩ := hE.cells)
    all_goals first
      | (go_ret; refine ⟨ret_bool ?_, (Ext.trans ((Ext.alloc (Ext.refl w) (L.box p)).alloc (LOp.mk 5 fn d a b imm).box) hX).trans hE⟩; go_light; clear hX hE hpx hp hP hG b0 b1 g0; simp only [opOk, opForm, hasD, hasA, hasB, hasFn]; grind)
      | skip
    try have hvd := vOk_in (by assumption : vOk p.secret.length d true = true)
    try have hva := vOk_in (by assumption : vOk p.secret.length a true = true)
    try have hvb := vOk_in (by assumption : vOk p.secret.length b true = true)
    go_quiet ((go_at_call 51; exact Calls.quiet_of_same (opsec_calls L p w.heap.size _ _ _ (hpx.ext (hE.drewN _)) ((hE.drewN _).heap hP) (fun h => by first | assumption | cases h))))
    go_wp2
    all_goals
      go_ret; refine ⟨ret_bool ?_, (Ext.trans ((Ext.alloc (Ext.refl w) (L.box p)).alloc (LOp.mk 5 fn d a b imm).box) hX).trans (hE.drewN _)⟩; go_light; clear hX hE hpx hp hP hG b0 b1 g0; simp only [opOk, opForm, opApart, hasD, hasA, hasB, hasFn]; grind

theorem row6 : ∀ w, (Instr.index 95 kindsV (.int .u8 6)).run Tryz.prog w = .ok (.agg #[.bool false, .bool false, .bool true, .bool true, .bool false, .bool true, .bool true, .bool false, .bool false]) w := fun _ => by kernel_rfl
set_option maxRecDepth 100000 in
set_option maxHeartbeats 8000000 in
theorem op6_calls (L : Lay) (p : LIr) (fn d a b imm : Int) (hfn : 0 ≤ fn) (w : World) (hp : IrAt w L p) :
    Calls Tryz.prog 25 #[L.val p, (LOp.mk 6 fn d a b imm).val] w fun e w' => e = .returned (.bool (opOk p.secret (LOp.mk 6 fn d a b imm))) ∧ Ext w w' := by
  have hrow := row6
  have hn := hp.ns
  go_enter Tryz.func25, Tryz.ntmps25
  go_upto_region 3 with fail
  go_cut [5] (fun s5 wx => ∃ g : Nat, s5 = .pointer (some ⟨g, 0, none⟩) ∧ w.heap.size + 1 < g ∧ wx.heap[g]? = some (.cells #[.bool false, .bool false, .bool true, .bool true, .bool false, .bool true, .bool true, .bool false, .bool false] 94 (0, 0)) ∧ Ext ((w.alloc (L.box p)).alloc (LOp.mk 6 fn d a b imm).box) wx)
  case first =>
    go_region_held3 (fun W => W.cell? ⟨w.heap.size + 1, 0, none⟩ = some (.int .u8 6)) (go_keep) ((go_at_call 50; refine (kinds_calls _).mono ?_; rintro e w1 ⟨rfl, hb1⟩; obtain ⟨hc1, hf1⟩ := hb1.cells))
    all_goals (go_wp2_with fail; go_meet)
    · exact ⟨_, rfl, by have := hb1.size; simp at this; omega, heap_alloc_self _ _, (Ext.trans (Ext.refl _).drew hb1).alloc _⟩
    · exact ⟨_, rfl, by have := hb1.size; simp at this; omega, heap_alloc_self _ _, (Ext.trans (Ext.refl _).drew hb1).alloc _⟩
    · exact fields_late hb1
  case rest =>
    obtain ⟨g, rfl, hg, hG, hX⟩ := hcut
    have hP := hX.heap (heap_alloc_was (heap_alloc_self w (L.box p)) _)
    have b0 := box_cell hP
    have b1 := box_cell (hX.heap (heap_alloc_at (w.alloc (L.box p)) (LOp.mk 6 fn d a b imm).box (n := w.heap.size + 1) (by simp)))
    have g0 := box_cell hG
    have hE := Ext.refl wc
    have hpx := (hp.ext ((Ext.alloc (Ext.refl w) (L.box p)).alloc (LOp.mk 6 fn d a b imm).box)).ext hX
    have gl := (Array.getElem?_eq_some_iff.1 hG).1
    have hl : w.heap.size + 1 < wc.heap.size := by omega
    have hl0 : w.heap.size < wc.heap.size := by omega
    go_upto_region 7 with (go_at_call 44; refine (variable_calls L p _ _ _ hn).mono ?_; rintro e w1 ⟨rfl, hb⟩; replace hE := hE.trans hb; clear hb; obtain ⟨hc1, hf1⟩ := hE.cells)
    all_goals first
      | (go_ret; refine ⟨ret_bool ?_, (Ext.trans ((Ext.alloc (Ext.refl w) (L.box p)).alloc (LOp.mk 6 fn d a b imm).box) hX).trans hE⟩; go_light; clear hX hE hpx hp hP hG b0 b1 g0; simp only [opOk, opForm, hasD, hasA, hasB, hasFn]; grind)
      | skip
    try have hvd := vOk_in (by assumption : vOk p.secret.length d true = true)
    try have hva := vOk_in (by assumption : vOk p.secret.length a true = true)
    try have hvb := vOk_in (by assumption : vOk p.secret.length b true = true)
    go_quiet ((go_at_call 51; exact Calls.quiet_of_same (opsec_calls L p w.heap.size _ _ _ (hpx.ext (hE.drewN _)) ((hE.drewN _).heap hP) (fun h => by first | assumption | cases h))))
    go_wp2
    all_goals
      go_ret; refine ⟨ret_bool ?_, (Ext.trans ((Ext.alloc (Ext.refl w) (L.box p)).alloc (LOp.mk 6 fn d a b imm).box) hX).trans (hE.drewN _)⟩; go_light; clear hX hE hpx hp hP hG b0 b1 g0; simp only [opOk, opForm, opApart, hasD, hasA, hasB, hasFn]; grind
end Go.Proofs.YtggjcjdjhgfbmaaGreat
