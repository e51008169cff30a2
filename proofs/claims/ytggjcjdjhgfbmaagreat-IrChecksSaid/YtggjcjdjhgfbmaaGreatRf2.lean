/- The document's own answer for which programs may be: the walks of form, of what keeps secrets apart, of an end. Conditions: none. -/
import Derived.Test.YtggjcjdjhgfbmaaGreatRf1
import Derived.Test.YtggjcjdjhgfbmaaGreatChk2
namespace Go.Proofs.YtggjcjdjhgfbmaaGreat
open Go.RowKit

theorem rform_eq (n : Nat) (o : LOp) : opForm n o = ((decide (1 ≤ o.kind) && decide (o.kind ≤ 13)) && vOk n o.d (hasD o.kind) && vOk n o.a (hasA o.kind) && vOk n o.b (hasB o.kind) && (o.imm == 0 || o.kind == 1) && (if o.kind == 3 then decide (1 ≤ o.fn) && decide (o.fn ≤ 14) else o.fn == 0 || o.fn == 1 && hasFn o.kind)) := rfl
theorem has_at (k : Int) (q1 q2 q3 q4 qk qi : Bool) (h1 : Hid (hasFn k = q1)) (h2 : Hid (hasD k = q2)) (h3 : Hid (hasA k = q3)) (h4 : Hid (hasB k = q4)) (h5 : Hid ((decide (1 ≤ k) && decide (k ≤ 13)) = qk)) (h6 : Hid ((k == 1) = qi)) (w : World) :
    Calls Tryz.prog 53 #[.int .u8 k] w fun e w' => e = .returned (.tuple #[.agg #[.bool q1, .bool q2, .bool q3, .bool q4, .bool qi], .bool qk]) ∧ Ext w w' := by
  obtain rfl := h1.out
  obtain rfl := h2.out
  obtain rfl := h3.out
  obtain rfl := h4.out
  obtain rfl := h5.out
  obtain rfl := h6.out
  exact has_calls k w
set_option maxRecDepth 100000 in
set_option maxHeartbeats 4000000 in
theorem rform_calls (L : Lay) (p : LIr) (o : LOp) (w : World) (hn : p.secret.length ≤ 9223372036854775807) :
    Calls Tryz.prog 28 #[L.val p, o.val] w fun e w' => e = .returned (.bool (opForm p.secret.length o)) ∧ Ext w w' := by
  have hE0 := (Ext.alloc (Ext.refl w) (L.box p)).alloc o.box
  have hP : ((w.alloc (L.box p)).alloc o.box).heap[w.heap.size]? = some (L.box p) := heap_alloc_was (heap_alloc_self w (L.box p)) _
  have hO : ((w.alloc (L.box p)).alloc o.box).heap[w.heap.size + 1]? = some o.box := heap_alloc_at _ _ (by simp)
  go_enter Tryz.func28, Tryz.ntmps28
  go_upto_region 1 with fail
  generalize hW : (w.alloc (L.box p)).alloc o.box = W at hP hO hE0 ⊢
  have hz : w.heap.size + 1 < W.heap.size := (Array.getElem?_eq_some_iff.1 hO).1
  have hz0 : w.heap.size < W.heap.size := by omega
  clear hW
  have b0 := box_cell hP
  have b1 := box_cell hO
  generalize hq1 : hasFn o.kind = q1
  generalize hq2 : hasD o.kind = q2
  generalize hq3 : hasA o.kind = q3
  generalize hq4 : hasB o.kind = q4
  generalize hq5 : (decide (1 ≤ o.kind) && decide (o.kind ≤ 13)) = qk
  generalize hq6 : (o.kind == 1) = qi
  have H1 := Lib.hid hq1
  have H2 := Lib.hid hq2
  have H3 := Lib.hid hq3
  have H4 := Lib.hid hq4
  have H5 := Lib.hid hq5
  have H6 := Lib.hid hq6
  clear hq1 hq2 hq3 hq4 hq5 hq6
  have hE := Ext.refl W
  go_upto_region 2 with (go_at_call 53; refine (has_at o.kind q1 q2 q3 q4 qk qi H1 H2 H3 H4 H5 H6 _).mono ?_; rintro e w1 ⟨rfl, hb⟩; replace hE := hE.trans hb; clear hb; obtain ⟨hc1, hf1⟩ := hE.cells)
  have hE1 : Ext W (w1.alloc (.cells #[.bool q1, .bool q2, .bool q3, .bool q4, .bool qi] 99)) := hE.alloc _
  have hG : (w1.alloc (.cells #[.bool q1, .bool q2, .bool q3, .bool q4, .bool qi] 99)).heap[w1.heap.size]? = some (.cells #[.bool q1, .bool q2, .bool q3, .bool q4, .bool qi] 99) := heap_alloc_self _ _
  generalize w1.alloc (.cells #[.bool q1, .bool q2, .bool q3, .bool q4, .bool qi] 99) = W1 at hE1 hG ⊢
  replace hP := hE1.heap hP
  replace hO := hE1.heap hO
  replace hE0 := hE0.trans hE1
  clear b0 b1 hE1 hz hz0 hE
  have b0 := box_cell hP
  have b1 := box_cell hO
  have b2 := box_cell hG
  have hz0 := (Array.getElem?_eq_some_iff.1 hP).1
  have hz1 := (Array.getElem?_eq_some_iff.1 hO).1
  have hz2 := (Array.getElem?_eq_some_iff.1 hG).1
  have hE := Ext.refl W1
  obtain ⟨hc1, hf1⟩ := hE.cells
  go_wp2_with (go_at_call 52; refine (rvariable_calls L p _ _ _ hn).mono ?_; rintro e w1 ⟨rfl, hb⟩; replace hE := hE.trans hb; clear hb; clear hc1 hf1; obtain ⟨hc1, hf1⟩ := hE.cells)
  all_goals
    go_ret; refine ⟨ret_bool ?_, hE0.trans hE⟩; go_light; clear hE hE0 hP hO hG b0 b1 b2; rw [rform_eq, H1.out, H2.out, H3.out, H4.out, H5.out, H6.out]; clear H1 H2 H3 H4 H5 H6; grind
end Go.Proofs.YtggjcjdjhgfbmaaGreat
