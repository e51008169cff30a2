/- The walks of ir.op, ir.end and of what looks for a step that may not be. Condition: Fn of a step is not below 0. -/
import Derived.Test.YtggjcjdjhgfbmaaGreatChk2a
import Derived.Test.YtggjcjdjhgfbmaaGreatChk2b
import Derived.Test.YtggjcjdjhgfbmaaGreatChk2c
import Derived.Test.YtggjcjdjhgfbmaaGreatChk2d
namespace Go.Proofs.YtggjcjdjhgfbmaaGreat
open Go.RowKit

set_option maxRecDepth 100000 in
set_option maxHeartbeats 2000000 in
theorem op_calls (L : Lay) (p : LIr) (o : LOp) (hfn : 0 ≤ o.fn) (w : World) (hp : IrAt w L p) :
    Calls Tryz.prog 25 #[L.val p, o.val] w fun e w' => e = .returned (.bool (opOk p.secret o)) ∧ Ext w w' := by
  obtain ⟨k, fn, d, a, b, imm⟩ := o
  by_cases h1 : 1 ≤ k
  · by_cases h2 : k ≤ 13
    · have : k = 1 ∨ k = 2 ∨ k = 3 ∨ k = 4 ∨ k = 5 ∨ k = 6 ∨ k = 7 ∨ k = 8 ∨ k = 9 ∨ k = 10 ∨ k = 11 ∨ k = 12 ∨ k = 13 := by omega
      rcases this with rfl | rfl | rfl | rfl | rfl | rfl | rfl | rfl | rfl | rfl | rfl | rfl | rfl
      · exact op1_calls L p fn d a b imm hfn w hp
      · exact op2_calls L p fn d a b imm hfn w hp
      · exact op3_calls L p fn d a b imm hfn w hp
      · exact op4_calls L p fn d a b imm hfn w hp
      · exact op5_calls L p fn d a b imm hfn w hp
      · exact op6_calls L p fn d a b imm hfn w hp
      · exact op7_calls L p fn d a b imm hfn w hp
      · exact op8_calls L p fn d a b imm hfn w hp
      · exact op9_calls L p fn d a b imm hfn w hp
      · exact op10_calls L p fn d a b imm hfn w hp
      · exact op11_calls L p fn d a b imm hfn w hp
      · exact op12_calls L p fn d a b imm hfn w hp
      · exact op13_calls L p fn d a b imm hfn w hp
    · have h3 : 13 < k := by omega
      go_enter Tryz.func25, Tryz.ntmps25
      go_wp2
      go_ret
      exact ⟨ret_bool (by simp [opOk, opForm]; omega), below_alloc2 _ _⟩
  · have h3 : k < 1 := by omega
    go_enter Tryz.func25, Tryz.ntmps25
    go_wp2
    go_ret
    exact ⟨ret_bool (by simp [opOk, opForm]; omega), below_alloc2 _ _⟩

set_option maxHeartbeats 400000 in
theorem check1_calls (L : Lay) (p : LIr) (B : Nat) (o : LOp) (hfn : 0 ≤ o.fn) (w : World) (hp : IrAt w L p) (hB : w.heap[B]? = some (L.box p)) :
    Calls Tryz.prog 24 #[o.val, .pointer (some ⟨B, 0, none⟩)] w fun e w' => e = .returned (.bool (!opOk p.secret o)) ∧ Ext w w' := by
  have b0 := box_cell hB
  have bl := (Array.getElem?_eq_some_iff.1 hB).1
  go_enter Tryz.func24, Tryz.ntmps24
  go_wp2_with (go_at_call 25; refine (op_calls L p o hfn _ ?_).mono ?_; exact hp.ext (below_alloc1 _); rintro e w1 ⟨rfl, hb⟩)
  go_ret
  exact ⟨rfl, (Ext.alloc (Ext.refl _) _).trans hb⟩

def Found (p : LIr) (xs : List LOp) (w : World) (e : Ending) (w' : World) : Prop := ∃ n : Int, e = .returned (.int .i64 n) ∧ decide (0 ≤ n) = !xs.all (opOk p.secret) ∧ Ext w w'
theorem all_of_each {xs : List LOp} {q : LOp → Bool} (h : ∀ i (h : i < xs.length), q xs[i] = true) : xs.all q = true := by
  rw [List.all_eq_true]; intro o ho; obtain ⟨i, hi, rfl⟩ := List.getElem_of_mem ho; exact h i hi
theorem not_all_of {xs : List LOp} {q : LOp → Bool} (i : Nat) (hi : i < xs.length) (h : q xs[i] = false) : xs.all q = false := by
  rw [List.all_eq_false]; exact ⟨xs[i], List.getElem_mem hi, by simp [h]⟩

set_option maxHeartbeats 400000 in
theorem indexOps_calls (L : Lay) (p : LIr) (B : Nat) (A : Option Addr) (c : Nat) (xs : List LOp) (w : World) (hp : IrAt w L p) (hB : w.heap[B]? = some (L.box p)) (hr : RowOps w A xs) (hf : ∀ o ∈ xs, 0 ≤ o.fn) :
    Calls Tryz.prog 49 #[.slice A xs.length c, .func (.func 24) #[] #[.pointer (some ⟨B, 0, none⟩)]] w (Found p xs w) := by
  have hlen := hr.1
  go_enter Tryz.func49, Tryz.ntmps49
  go_wp2
  go_loopw [8] (fun i wr => ∃ j : Nat, j ≤ xs.length ∧ i = .int .i64 j ∧ Ext w wr ∧ Hid (∀ i (h : i < xs.length), i < j → opOk p.secret xs[i] = true)) (fun i _ => xs.length - (intOf i).toNat)
  case atStart => exact ⟨0, Nat.zero_le _, rfl, Ext.refl _, Lib.hid (fun i _ h => absurd h (Nat.not_lt_zero _))⟩
  case round =>
    obtain ⟨j, hj, rfl, hb, hv⟩ := hrel
    obtain ⟨hc, hf1⟩ := hb.cells
    by_cases hlt : j < xs.length
    · obtain ⟨bb, off, rfl, hbb, h0, h1, h2, h3, h4, h5⟩ := hr.2 j hlt
      have hfj := hf _ (List.getElem_mem hlt)
      have Hf := Lib.hid hf
      clear hf
      go_wp2_with (go_at_call 24; refine (check1_calls L p B xs[j] hfj _ (hp.ext hb) (hb.heap hB)).mono ?_; rintro e w1 ⟨rfl, hb1⟩)
      · go_ret
        exact ⟨_, rfl, by rw [not_all_of j hlt (by simpa using (by assumption : (!opOk p.secret xs[j]) = true))]; simp, hb.trans hb1⟩
      · go_roundw
        case rel =>
          refine ⟨j + 1, hlt, by go_num, hb.trans hb1, Lib.hid fun i hi hij => ?_⟩
          by_cases e : i = j
          · subst e; simpa using (by assumption : (!opOk p.secret xs[i]) = false)
          · exact hv.out i hi (by omega)
        case measure => simp [intOf]; omega
    · go_wp2
      go_ret
      exact ⟨_, rfl, by rw [all_of_each (fun i hi => hv.out i hi (by omega))]; simp, hb⟩

set_option maxHeartbeats 400000 in
theorem containsOps_calls (L : Lay) (p : LIr) (B : Nat) (A : Option Addr) (c : Nat) (xs : List LOp) (w : World) (hp : IrAt w L p) (hB : w.heap[B]? = some (L.box p)) (hr : RowOps w A xs) (hf : ∀ o ∈ xs, 0 ≤ o.fn) :
    Calls Tryz.prog 23 #[.slice A xs.length c, .func (.func 24) #[] #[.pointer (some ⟨B, 0, none⟩)]] w fun e w' => e = .returned (.bool (!xs.all (opOk p.secret))) ∧ Ext w w' := by
  have hlen := hr.1
  go_enter Tryz.func23, Tryz.ntmps23
  go_wp2_with (go_at_call 49; refine (indexOps_calls L p B A c xs _ hp hB hr hf).mono ?_; rintro e w1 ⟨n, rfl, hn, hb⟩; have Hn := Lib.hid hn; clear hn)
  go_ret
  exact ⟨ret_bool Hn.out, hb⟩

/-- What holds where a variable of a program may be read, and where it may not. -/
theorem IrAt.secOr {w : World} {L : Lay} {p : LIr} (hp : IrAt w L p) (v : Int) :
    (vOk p.secret.length v true = false) ∨ (vOk p.secret.length v true = true ∧ 0 ≤ v ∧ v < p.secret.length ∧ ∃ bb off, L.sA = some ⟨bb, off, none⟩ ∧ bb < w.heap.size ∧ w.cell? ⟨bb, off + v.toNat, none⟩ = some (.bool (secAt p.secret v))) := by
  cases h : vOk p.secret.length v true with
  | false => exact .inl rfl
  | true => exact .inr ⟨rfl, (vOk_in h).1, (vOk_in h).2, hp.sec v (vOk_in h).1 (vOk_in h).2⟩

set_option maxRecDepth 100000 in
set_option maxHeartbeats 4000000 in
theorem end_calls (L : Lay) (p : LIr) (A : Option Addr) (c : Nat) (b : LBlock) (w : World) (hp : IrAt w L p) :
    Calls Tryz.prog 22 #[L.val p, b.val A c] w fun e w' => e = .returned (.bool (endOk p.secret p.blocks.length b)) ∧ Ext w w' := by
  have hn := hp.ns
  have hpx := hp.ext ((Ext.alloc (Ext.refl w) (L.box p)).alloc (b.box A c))
  have hP : ((w.alloc (L.box p)).alloc (b.box A c)).heap[w.heap.size]? = some (L.box p) := heap_alloc_was (heap_alloc_self w (L.box p)) _
  have hE := Ext.refl ((w.alloc (L.box p)).alloc (b.box A c))
  have hE0 := (Ext.alloc (Ext.refl w) (L.box p)).alloc (b.box A c)
  rcases hp.secOr b.a with hv | ⟨hv, h0, h1, bb, off, eA, hbb, hcell⟩
  · go_enter Tryz.func22, Tryz.ntmps22
    go_upto_region 1 with fail
    generalize hW : (w.alloc (L.box p)).alloc (b.box A c) = W at hpx hP hE hE0 ⊢
    have b0 := box_cell hP
    have b1 : ∀ i, W.cell? ⟨w.heap.size + 1, i, none⟩ = #[Value.slice A b.ops.length c, .int .u8 b.fin, .int .i64 b.a, .int .i64 b.to, .int .i64 b.els][i]? := box_cell (by rw [← hW]; exact heap_alloc_at _ _ (by simp))
    have hz : w.heap.size + 1 < W.heap.size := by rw [← hW]; simp
    have hz0 : w.heap.size < W.heap.size := by omega
    clear hW
    go_wp2_with (first
      | (go_at_call 48; refine (endblock_calls L p w.heap.size _ _ (hpx.ext hE) (hE.heap hP)).mono ?_; rintro e w1 ⟨rfl, hb⟩; replace hE := hE.trans hb; clear hb; obtain ⟨hc1, hf1⟩ := hE.cells)
      | (go_at_call 44; refine (variable_calls L p _ _ _ hn).mono ?_; rintro e w1 ⟨rfl, hb⟩; replace hE := hE.trans hb; clear hb; obtain ⟨hc1, hf1⟩ := hE.cells))
    all_goals
      go_ret; refine ⟨ret_bool ?_, hE0.trans hE⟩; go_light; clear hE hE0 hpx hp hP b0 b1; simp only [endOk]; grind
  · replace hcell : ((w.alloc (L.box p)).alloc (b.box A c)).cell? ⟨bb, off + b.a.toNat, none⟩ = some (.bool (secAt p.secret b.a)) := (hE0.cells.1 _ _ hbb).trans hcell
    replace hbb : bb < ((w.alloc (L.box p)).alloc (b.box A c)).heap.size := Nat.lt_of_lt_of_le hbb hE0.size
    obtain ⟨sA, sc, pA, pc, bA, bc⟩ := L
    obtain rfl : sA = some ⟨bb, off, none⟩ := eA
    go_enter Tryz.func22, Tryz.ntmps22
    go_upto_region 1 with fail
    generalize hW : (w.alloc ((Lay.mk (some ⟨bb, off, none⟩) sc pA pc bA bc).box p)).alloc (b.box A c) = W at hpx hP hE hE0 hcell hbb ⊢
    have b0 := box_cell hP
    have b1 : ∀ i, W.cell? ⟨w.heap.size + 1, i, none⟩ = #[Value.slice A b.ops.length c, .int .u8 b.fin, .int .i64 b.a, .int .i64 b.to, .int .i64 b.els][i]? := box_cell (by rw [← hW]; exact heap_alloc_at _ _ (by simp))
    have hz : w.heap.size + 1 < W.heap.size := by rw [← hW]; simp
    have hz0 : w.heap.size < W.heap.size := by omega
    clear hW
    go_wp2_with (first
      | (go_at_call 48; refine (endblock_calls (Lay.mk (some ⟨bb, off, none⟩) sc pA pc bA bc) p w.heap.size _ _ (hpx.ext hE) (hE.heap hP)).mono ?_; rintro e w1 ⟨rfl, hb⟩; replace hE := hE.trans hb; clear hb; obtain ⟨hc1, hf1⟩ := hE.cells)
      | (go_at_call 44; refine (variable_calls (Lay.mk (some ⟨bb, off, none⟩) sc pA pc bA bc) p _ _ _ hn).mono ?_; rintro e w1 ⟨rfl, hb⟩; replace hE := hE.trans hb; clear hb; obtain ⟨hc1, hf1⟩ := hE.cells))
    all_goals
      go_ret; refine ⟨ret_bool ?_, hE0.trans hE⟩; go_light; clear hE hE0 hpx hp hP b0 b1; simp only [endOk]; grind
end Go.Proofs.YtggjcjdjhgfbmaaGreat
