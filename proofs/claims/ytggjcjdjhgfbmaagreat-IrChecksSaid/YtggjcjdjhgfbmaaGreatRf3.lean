/- The document's own answer for which programs may be: the walk of what keeps secrets apart. Condition: the step has its form. -/
import Derived.Test.YtggjcjdjhgfbmaaGreatRf2
namespace Go.Proofs.YtggjcjdjhgfbmaaGreat
open Go.RowKit

theorem form_in {n : Nat} {o : LOp} (h : opForm n o = true) : (hasD o.kind = true → 0 ≤ o.d ∧ o.d < n) ∧ (hasA o.kind = true → 0 ≤ o.a ∧ o.a < n) ∧ (hasB o.kind = true → 0 ≤ o.b ∧ o.b < n) ∧ (o.kind = 3 → 1 ≤ o.fn ∧ o.fn ≤ 14) := by
  simp only [opForm, Bool.and_eq_true] at h
  obtain ⟨⟨⟨⟨⟨-, h1⟩, h2⟩, h3⟩, -⟩, h5⟩ := h
  refine ⟨fun e => ?_, fun e => ?_, fun e => ?_, fun e => ?_⟩
  · rw [e] at h1; exact vOk_in h1
  · rw [e] at h2; exact vOk_in h2
  · rw [e] at h3; exact vOk_in h3
  · rw [e] at h5; simpa using h5
theorem IrAt.secs {w : World} {L : Lay} {p : LIr} (hp : IrAt w L p) (h : 0 < p.secret.length) : ∃ bb off, L.sA = some ⟨bb, off, none⟩ ∧ bb < w.heap.size ∧ ∀ v : Int, 0 ≤ v → v < p.secret.length → w.cell? ⟨bb, off + v.toNat, none⟩ = some (.bool (secAt p.secret v)) := by
  obtain ⟨bb, off, e, hb, _⟩ := hp.sec 0 (by omega) (by omega)
  refine ⟨bb, off, e, hb, fun v h0 h1 => ?_⟩
  obtain ⟨bb', off', e', hb', hc⟩ := hp.sec v h0 h1
  rw [e] at e'
  injection e' with e'
  injection e' with e1 e2
  subst e1
  subst e2
  exact hc
theorem andNot (a b : Bool) : (!a && !b) = !(a || b) := by cases a <;> cases b <;> rfl

set_option maxRecDepth 100000 in
set_option maxHeartbeats 4000000 in
theorem rapart1_calls (L : Lay) (p : LIr) (fn d a b imm : Int) (w : World) (hp : IrAt w L p) (_hf : opForm p.secret.length ⟨1, fn, d, a, b, imm⟩ = true) :
    Calls Tryz.prog 29 #[L.val p, (LOp.mk 1 fn d a b imm).val] w fun e w' => e = .returned (.bool (opApart p.secret ⟨1, fn, d, a, b, imm⟩)) ∧ Ext w w' := by
  have hn := hp.ns
  have hE0 := (Ext.alloc (Ext.refl w) (L.box p)).alloc (LOp.mk 1 fn d a b imm).box
  have hP : ((w.alloc (L.box p)).alloc (LOp.mk 1 fn d a b imm).box).heap[w.heap.size]? = some (L.box p) := heap_alloc_was (heap_alloc_self w (L.box p)) _
  have hO : ((w.alloc (L.box p)).alloc (LOp.mk 1 fn d a b imm).box).heap[w.heap.size + 1]? = some (LOp.mk 1 fn d a b imm).box := heap_alloc_at _ _ (by simp)
  obtain ⟨sA, sc, pA, pc, bA, bc⟩ := L
  clear _hf
  go_enter Tryz.func29, Tryz.ntmps29
  go_upto_region 1 with fail
  generalize hW : (w.alloc ((Lay.mk sA sc pA pc bA bc).box p)).alloc (LOp.mk 1 fn d a b imm).box = W at hP hO hE0 ⊢
  clear hW
  have hz1 := (Array.getElem?_eq_some_iff.1 hO).1
  have hz0 := (Array.getElem?_eq_some_iff.1 hP).1
  have q0 := box_cell hP
  have q1 := box_cell hO
  dsimp only at q0 q1
  go_wp2
  all_goals
    go_ret
    refine ⟨ret_bool ?_, hE0⟩
    go_light
    clear hE0 hP hO q0 q1 hp
    simp only [opApart]
    first | rfl | (simp; done) | (simp [*]; done) | grind

set_option maxRecDepth 100000 in
set_option maxHeartbeats 4000000 in
theorem rapart2_calls (L : Lay) (p : LIr) (fn d a b imm : Int) (w : World) (hp : IrAt w L p) (hf : opForm p.secret.length ⟨2, fn, d, a, b, imm⟩ = true) :
    Calls Tryz.prog 29 #[L.val p, (LOp.mk 2 fn d a b imm).val] w fun e w' => e = .returned (.bool (opApart p.secret ⟨2, fn, d, a, b, imm⟩)) ∧ Ext w w' := by
  have hn := hp.ns
  have hE0 := (Ext.alloc (Ext.refl w) (L.box p)).alloc (LOp.mk 2 fn d a b imm).box
  have hP : ((w.alloc (L.box p)).alloc (LOp.mk 2 fn d a b imm).box).heap[w.heap.size]? = some (L.box p) := heap_alloc_was (heap_alloc_self w (L.box p)) _
  have hO : ((w.alloc (L.box p)).alloc (LOp.mk 2 fn d a b imm).box).heap[w.heap.size + 1]? = some (LOp.mk 2 fn d a b imm).box := heap_alloc_at _ _ (by simp)
  obtain ⟨d0, d1⟩ := (form_in hf).1 rfl
  obtain ⟨a0, a1⟩ := (form_in hf).2.1 rfl
  obtain ⟨bb, off, eA, hbb, hs⟩ := hp.secs (by omega)
  obtain ⟨sA, sc, pA, pc, bA, bc⟩ := L
  obtain rfl : sA = some ⟨bb, off, none⟩ := eA
  clear hf
  go_enter Tryz.func29, Tryz.ntmps29
  go_upto_region 1 with fail
  generalize hW : (w.alloc ((Lay.mk (some ⟨bb, off, none⟩) sc pA pc bA bc).box p)).alloc (LOp.mk 2 fn d a b imm).box = W at hP hO hE0 ⊢
  clear hW
  have hz1 := (Array.getElem?_eq_some_iff.1 hO).1
  have hz0 := (Array.getElem?_eq_some_iff.1 hP).1
  have q0 := box_cell hP
  have q1 := box_cell hO
  dsimp only at q0 q1
  have cd := (hE0.cells.1 _ _ hbb).trans (hs d d0 d1)
  generalize hsd : secAt p.secret d = sd at cd
  have ca := (hE0.cells.1 _ _ hbb).trans (hs a a0 a1)
  generalize hsa : secAt p.secret a = sa at ca
  have hbw := Nat.lt_of_lt_of_le hbb hE0.size
  clear hs
  have Hd := Lib.hid hsd
  clear hsd
  have Ha := Lib.hid hsa
  clear hsa
  go_wp2
  all_goals
    go_ret
    refine ⟨ret_bool ?_, hE0⟩
    go_light
    clear hE0 hP hO q0 q1 hp
    simp only [opApart, Hd.out, Ha.out]
    first | rfl | (simp; done) | (simp [*]; done) | grind

set_option maxRecDepth 100000 in
set_option maxHeartbeats 4000000 in
theorem rapart3_calls (L : Lay) (p : LIr) (fn d a b imm : Int) (w : World) (hp : IrAt w L p) (hf : opForm p.secret.length ⟨3, fn, d, a, b, imm⟩ = true) :
    Calls Tryz.prog 29 #[L.val p, (LOp.mk 3 fn d a b imm).val] w fun e w' => e = .returned (.bool (opApart p.secret ⟨3, fn, d, a, b, imm⟩)) ∧ Ext w w' := by
  have hn := hp.ns
  have hE0 := (Ext.alloc (Ext.refl w) (L.box p)).alloc (LOp.mk 3 fn d a b imm).box
  have hP : ((w.alloc (L.box p)).alloc (LOp.mk 3 fn d a b imm).box).heap[w.heap.size]? = some (L.box p) := heap_alloc_was (heap_alloc_self w (L.box p)) _
  have hO : ((w.alloc (L.box p)).alloc (LOp.mk 3 fn d a b imm).box).heap[w.heap.size + 1]? = some (LOp.mk 3 fn d a b imm).box := heap_alloc_at _ _ (by simp)
  obtain ⟨d0, d1⟩ := (form_in hf).1 rfl
  obtain ⟨a0, a1⟩ := (form_in hf).2.1 rfl
  obtain ⟨b0, b1⟩ := (form_in hf).2.2.1 rfl
  obtain ⟨f0, f1⟩ := (form_in hf).2.2.2 rfl
  obtain ⟨bb, off, eA, hbb, hs⟩ := hp.secs (by omega)
  obtain ⟨sA, sc, pA, pc, bA, bc⟩ := L
  obtain rfl : sA = some ⟨bb, off, none⟩ := eA
  clear hf
  go_enter Tryz.func29, Tryz.ntmps29
  go_upto_region 1 with fail
  generalize hW : (w.alloc ((Lay.mk (some ⟨bb, off, none⟩) sc pA pc bA bc).box p)).alloc (LOp.mk 3 fn d a b imm).box = W at hP hO hE0 ⊢
  clear hW
  have hz1 := (Array.getElem?_eq_some_iff.1 hO).1
  have hz0 := (Array.getElem?_eq_some_iff.1 hP).1
  have q0 := box_cell hP
  have q1 := box_cell hO
  dsimp only at q0 q1
  have cd := (hE0.cells.1 _ _ hbb).trans (hs d d0 d1)
  generalize hsd : secAt p.secret d = sd at cd
  have ca := (hE0.cells.1 _ _ hbb).trans (hs a a0 a1)
  generalize hsa : secAt p.secret a = sa at ca
  have cb := (hE0.cells.1 _ _ hbb).trans (hs b b0 b1)
  generalize hsb : secAt p.secret b = sb at cb
  have hbw := Nat.lt_of_lt_of_le hbb hE0.size
  clear hs
  have Hd := Lib.hid hsd
  clear hsd
  have Ha := Lib.hid hsa
  clear hsa
  have Hb := Lib.hid hsb
  clear hsb
  go_wp2_with (go_at_call 54; refine (divides_calls _ _).mono ?_; rintro e w1 ⟨rfl, rfl⟩)
  all_goals
    go_ret
    refine ⟨ret_bool ?_, hE0⟩
    go_light
    clear hE0 hP hO q0 q1 hp
    simp only [opApart, Hd.out, Ha.out, Hb.out]
    first | rfl | (simp; done) | (simp [*]; done) | grind

set_option maxRecDepth 100000 in
set_option maxHeartbeats 4000000 in
theorem rapart4_calls (L : Lay) (p : LIr) (fn d a b imm : Int) (w : World) (hp : IrAt w L p) (hf : opForm p.secret.length ⟨4, fn, d, a, b, imm⟩ = true) :
    Calls Tryz.prog 29 #[L.val p, (LOp.mk 4 fn d a b imm).val] w fun e w' => e = .returned (.bool (opApart p.secret ⟨4, fn, d, a, b, imm⟩)) ∧ Ext w w' := by
  have hn := hp.ns
  have hE0 := (Ext.alloc (Ext.refl w) (L.box p)).alloc (LOp.mk 4 fn d a b imm).box
  have hP : ((w.alloc (L.box p)).alloc (LOp.mk 4 fn d a b imm).box).heap[w.heap.size]? = some (L.box p) := heap_alloc_was (heap_alloc_self w (L.box p)) _
  have hO : ((w.alloc (L.box p)).alloc (LOp.mk 4 fn d a b imm).box).heap[w.heap.size + 1]? = some (LOp.mk 4 fn d a b imm).box := heap_alloc_at _ _ (by simp)
  obtain ⟨d0, d1⟩ := (form_in hf).1 rfl
  obtain ⟨a0, a1⟩ := (form_in hf).2.1 rfl
  obtain ⟨bb, off, eA, hbb, hs⟩ := hp.secs (by omega)
  obtain ⟨sA, sc, pA, pc, bA, bc⟩ := L
  obtain rfl : sA = some ⟨bb, off, none⟩ := eA
  clear hf
  go_enter Tryz.func29, Tryz.ntmps29
  go_upto_region 1 with fail
  generalize hW : (w.alloc ((Lay.mk (some ⟨bb, off, none⟩) sc pA pc bA bc).box p)).alloc (LOp.mk 4 fn d a b imm).box = W at hP hO hE0 ⊢
  clear hW
  have hz1 := (Array.getElem?_eq_some_iff.1 hO).1
  have hz0 := (Array.getElem?_eq_some_iff.1 hP).1
  have q0 := box_cell hP
  have q1 := box_cell hO
  dsimp only at q0 q1
  have cd := (hE0.cells.1 _ _ hbb).trans (hs d d0 d1)
  generalize hsd : secAt p.secret d = sd at cd
  have ca := (hE0.cells.1 _ _ hbb).trans (hs a a0 a1)
  generalize hsa : secAt p.secret a = sa at ca
  have hbw := Nat.lt_of_lt_of_le hbb hE0.size
  clear hs
  have Hd := Lib.hid hsd
  clear hsd
  have Ha := Lib.hid hsa
  clear hsa
  go_wp2
  all_goals
    go_ret
    refine ⟨ret_bool ?_, hE0⟩
    go_light
    clear hE0 hP hO q0 q1 hp
    simp only [opApart, Hd.out, Ha.out]
    first | rfl | (simp; done) | (simp [*]; done) | grind

set_option maxRecDepth 100000 in
set_option maxHeartbeats 4000000 in
theorem rapart5_calls (L : Lay) (p : LIr) (fn d a b imm : Int) (w : World) (hp : IrAt w L p) (hf : opForm p.secret.length ⟨5, fn, d, a, b, imm⟩ = true) :
    Calls Tryz.prog 29 #[L.val p, (LOp.mk 5 fn d a b imm).val] w fun e w' => e = .returned (.bool (opApart p.secret ⟨5, fn, d, a, b, imm⟩)) ∧ Ext w w' := by
  have hn := hp.ns
  have hE0 := (Ext.alloc (Ext.refl w) (L.box p)).alloc (LOp.mk 5 fn d a b imm).box
  have hP : ((w.alloc (L.box p)).alloc (LOp.mk 5 fn d a b imm).box).heap[w.heap.size]? = some (L.box p) := heap_alloc_was (heap_alloc_self w (L.box p)) _
  have hO : ((w.alloc (L.box p)).alloc (LOp.mk 5 fn d a b imm).box).heap[w.heap.size + 1]? = some (LOp.mk 5 fn d a b imm).box := heap_alloc_at _ _ (by simp)
  obtain ⟨a0, a1⟩ := (form_in hf).2.1 rfl
  obtain ⟨b0, b1⟩ := (form_in hf).2.2.1 rfl
  obtain ⟨bb, off, eA, hbb, hs⟩ := hp.secs (by omega)
  obtain ⟨sA, sc, pA, pc, bA, bc⟩ := L
  obtain rfl : sA = some ⟨bb, off, none⟩ := eA
  clear hf
  go_enter Tryz.func29, Tryz.ntmps29
  go_upto_region 1 with fail
  generalize hW : (w.alloc ((Lay.mk (some ⟨bb, off, none⟩) sc pA pc bA bc).box p)).alloc (LOp.mk 5 fn d a b imm).box = W at hP hO hE0 ⊢
  clear hW
  have hz1 := (Array.getElem?_eq_some_iff.1 hO).1
  have hz0 := (Array.getElem?_eq_some_iff.1 hP).1
  have q0 := box_cell hP
  have q1 := box_cell hO
  dsimp only at q0 q1
  have ca := (hE0.cells.1 _ _ hbb).trans (hs a a0 a1)
  generalize hsa : secAt p.secret a = sa at ca
  have cb := (hE0.cells.1 _ _ hbb).trans (hs b b0 b1)
  generalize hsb : secAt p.secret b = sb at cb
  have hbw := Nat.lt_of_lt_of_le hbb hE0.size
  clear hs
  have Ha := Lib.hid hsa
  clear hsa
  have Hb := Lib.hid hsb
  clear hsb
  go_wp2
  all_goals
    go_ret
    refine ⟨ret_bool ?_, hE0⟩
    go_light
    clear hE0 hP hO q0 q1 hp
    simp only [opApart, Ha.out, Hb.out]
    first | rfl | (simp; done) | (simp [*]; done) | grind

set_option maxRecDepth 100000 in
set_option maxHeartbeats 4000000 in
theorem rapart6_calls (L : Lay) (p : LIr) (fn d a b imm : Int) (w : World) (hp : IrAt w L p) (hf : opForm p.secret.length ⟨6, fn, d, a, b, imm⟩ = true) :
    Calls Tryz.prog 29 #[L.val p, (LOp.mk 6 fn d a b imm).val] w fun e w' => e = .returned (.bool (opApart p.secret ⟨6, fn, d, a, b, imm⟩)) ∧ Ext w w' := by
  have hn := hp.ns
  have hE0 := (Ext.alloc (Ext.refl w) (L.box p)).alloc (LOp.mk 6 fn d a b imm).box
  have hP : ((w.alloc (L.box p)).alloc (LOp.mk 6 fn d a b imm).box).heap[w.heap.size]? = some (L.box p) := heap_alloc_was (heap_alloc_self w (L.box p)) _
  have hO : ((w.alloc (L.box p)).alloc (LOp.mk 6 fn d a b imm).box).heap[w.heap.size + 1]? = some (LOp.mk 6 fn d a b imm).box := heap_alloc_at _ _ (by simp)
  obtain ⟨a0, a1⟩ := (form_in hf).2.1 rfl
  obtain ⟨b0, b1⟩ := (form_in hf).2.2.1 rfl
  obtain ⟨bb, off, eA, hbb, hs⟩ := hp.secs (by omega)
  obtain ⟨sA, sc, pA, pc, bA, bc⟩ := L
  obtain rfl : sA = some ⟨bb, off, none⟩ := eA
  clear hf
  go_enter Tryz.func29, Tryz.ntmps29
  go_upto_region 1 with fail
  generalize hW : (w.alloc ((Lay.mk (some ⟨bb, off, none⟩) sc pA pc bA bc).box p)).alloc (LOp.mk 6 fn d a b imm).box = W at hP hO hE0 ⊢
  clear hW
  have hz1 := (Array.getElem?_eq_some_iff.1 hO).1
  have hz0 := (Array.getElem?_eq_some_iff.1 hP).1
  have q0 := box_cell hP
  have q1 := box_cell hO
  dsimp only at q0 q1
  have ca := (hE0.cells.1 _ _ hbb).trans (hs a a0 a1)
  generalize hsa : secAt p.secret a = sa at ca
  have cb := (hE0.cells.1 _ _ hbb).trans (hs b b0 b1)
  generalize hsb : secAt p.secret b = sb at cb
  have hbw := Nat.lt_of_lt_of_le hbb hE0.size
  clear hs
  have Ha := Lib.hid hsa
  clear hsa
  have Hb := Lib.hid hsb
  clear hsb
  go_wp2
  all_goals
    go_ret
    refine ⟨ret_bool ?_, hE0⟩
    go_light
    clear hE0 hP hO q0 q1 hp
    simp only [opApart, Ha.out, Hb.out]
    first | rfl | (simp; done) | (simp [*]; done) | grind

set_option maxRecDepth 100000 in
set_option maxHeartbeats 4000000 in
theorem rapart7_calls (L : Lay) (p : LIr) (fn d a b imm : Int) (w : World) (hp : IrAt w L p) (hf : opForm p.secret.length ⟨7, fn, d, a, b, imm⟩ = true) :
    Calls Tryz.prog 29 #[L.val p, (LOp.mk 7 fn d a b imm).val] w fun e w' => e = .returned (.bool (opApart p.secret ⟨7, fn, d, a, b, imm⟩)) ∧ Ext w w' := by
  have hn := hp.ns
  have hE0 := (Ext.alloc (Ext.refl w) (L.box p)).alloc (LOp.mk 7 fn d a b imm).box
  have hP : ((w.alloc (L.box p)).alloc (LOp.mk 7 fn d a b imm).box).heap[w.heap.size]? = some (L.box p) := heap_alloc_was (heap_alloc_self w (L.box p)) _
  have hO : ((w.alloc (L.box p)).alloc (LOp.mk 7 fn d a b imm).box).heap[w.heap.size + 1]? = some (LOp.mk 7 fn d a b imm).box := heap_alloc_at _ _ (by simp)
  obtain ⟨a0, a1⟩ := (form_in hf).2.1 rfl
  obtain ⟨b0, b1⟩ := (form_in hf).2.2.1 rfl
  obtain ⟨bb, off, eA, hbb, hs⟩ := hp.secs (by omega)
  obtain ⟨sA, sc, pA, pc, bA, bc⟩ := L
  obtain rfl : sA = some ⟨bb, off, none⟩ := eA
  clear hf
  go_enter Tryz.func29, Tryz.ntmps29
  go_upto_region 1 with fail
  generalize hW : (w.alloc ((Lay.mk (some ⟨bb, off, none⟩) sc pA pc bA bc).box p)).alloc (LOp.mk 7 fn d a b imm).box = W at hP hO hE0 ⊢
  clear hW
  have hz1 := (Array.getElem?_eq_some_iff.1 hO).1
  have hz0 := (Array.getElem?_eq_some_iff.1 hP).1
  have q0 := box_cell hP
  have q1 := box_cell hO
  dsimp only at q0 q1
  have ca := (hE0.cells.1 _ _ hbb).trans (hs a a0 a1)
  generalize hsa : secAt p.secret a = sa at ca
  have cb := (hE0.cells.1 _ _ hbb).trans (hs b b0 b1)
  generalize hsb : secAt p.secret b = sb at cb
  have hbw := Nat.lt_of_lt_of_le hbb hE0.size
  clear hs
  have Ha := Lib.hid hsa
  clear hsa
  have Hb := Lib.hid hsb
  clear hsb
  go_wp2
  all_goals
    go_ret
    refine ⟨ret_bool ?_, hE0⟩
    go_light
    clear hE0 hP hO q0 q1 hp
    simp only [opApart, Ha.out, Hb.out]
    first | rfl | (simp; done) | (simp [*]; done) | grind

set_option maxRecDepth 100000 in
set_option maxHeartbeats 4000000 in
theorem rapart8_calls (L : Lay) (p : LIr) (fn d a b imm : Int) (w : World) (hp : IrAt w L p) (hf : opForm p.secret.length ⟨8, fn, d, a, b, imm⟩ = true) :
    Calls Tryz.prog 29 #[L.val p, (LOp.mk 8 fn d a b imm).val] w fun e w' => e = .returned (.bool (opApart p.secret ⟨8, fn, d, a, b, imm⟩)) ∧ Ext w w' := by
  have hn := hp.ns
  have hE0 := (Ext.alloc (Ext.refl w) (L.box p)).alloc (LOp.mk 8 fn d a b imm).box
  have hP : ((w.alloc (L.box p)).alloc (LOp.mk 8 fn d a b imm).box).heap[w.heap.size]? = some (L.box p) := heap_alloc_was (heap_alloc_self w (L.box p)) _
  have hO : ((w.alloc (L.box p)).alloc (LOp.mk 8 fn d a b imm).box).heap[w.heap.size + 1]? = some (LOp.mk 8 fn d a b imm).box := heap_alloc_at _ _ (by simp)
  obtain ⟨a0, a1⟩ := (form_in hf).2.1 rfl
  obtain ⟨bb, off, eA, hbb, hs⟩ := hp.secs (by omega)
  obtain ⟨sA, sc, pA, pc, bA, bc⟩ := L
  obtain rfl : sA = some ⟨bb, off, none⟩ := eA
  clear hf
  go_enter Tryz.func29, Tryz.ntmps29
  go_upto_region 1 with fail
  generalize hW : (w.alloc ((Lay.mk (some ⟨bb, off, none⟩) sc pA pc bA bc).box p)).alloc (LOp.mk 8 fn d a b imm).box = W at hP hO hE0 ⊢
  clear hW
  have hz1 := (Array.getElem?_eq_some_iff.1 hO).1
  have hz0 := (Array.getElem?_eq_some_iff.1 hP).1
  have q0 := box_cell hP
  have q1 := box_cell hO
  dsimp only at q0 q1
  have ca := (hE0.cells.1 _ _ hbb).trans (hs a a0 a1)
  generalize hsa : secAt p.secret a = sa at ca
  have hbw := Nat.lt_of_lt_of_le hbb hE0.size
  clear hs
  have Ha := Lib.hid hsa
  clear hsa
  go_wp2
  all_goals
    go_ret
    refine ⟨ret_bool ?_, hE0⟩
    go_light
    clear hE0 hP hO q0 q1 hp
    simp only [opApart, Ha.out]
    first | rfl | (simp; done) | (simp [*]; done) | grind

set_option maxRecDepth 100000 in
set_option maxHeartbeats 4000000 in
theorem rapart9_calls (L : Lay) (p : LIr) (fn d a b imm : Int) (w : World) (hp : IrAt w L p) (hf : opForm p.secret.length ⟨9, fn, d, a, b, imm⟩ = true) :
    Calls Tryz.prog 29 #[L.val p, (LOp.mk 9 fn d a b imm).val] w fun e w' => e = .returned (.bool (opApart p.secret ⟨9, fn, d, a, b, imm⟩)) ∧ Ext w w' := by
  have hn := hp.ns
  have hE0 := (Ext.alloc (Ext.refl w) (L.box p)).alloc (LOp.mk 9 fn d a b imm).box
  have hP : ((w.alloc (L.box p)).alloc (LOp.mk 9 fn d a b imm).box).heap[w.heap.size]? = some (L.box p) := heap_alloc_was (heap_alloc_self w (L.box p)) _
  have hO : ((w.alloc (L.box p)).alloc (LOp.mk 9 fn d a b imm).box).heap[w.heap.size + 1]? = some (LOp.mk 9 fn d a b imm).box := heap_alloc_at _ _ (by simp)
  obtain ⟨d0, d1⟩ := (form_in hf).1 rfl
  obtain ⟨a0, a1⟩ := (form_in hf).2.1 rfl
  obtain ⟨bb, off, eA, hbb, hs⟩ := hp.secs (by omega)
  obtain ⟨sA, sc, pA, pc, bA, bc⟩ := L
  obtain rfl : sA = some ⟨bb, off, none⟩ := eA
  clear hf
  go_enter Tryz.func29, Tryz.ntmps29
  go_upto_region 1 with fail
  generalize hW : (w.alloc ((Lay.mk (some ⟨bb, off, none⟩) sc pA pc bA bc).box p)).alloc (LOp.mk 9 fn d a b imm).box = W at hP hO hE0 ⊢
  clear hW
  have hz1 := (Array.getElem?_eq_some_iff.1 hO).1
  have hz0 := (Array.getElem?_eq_some_iff.1 hP).1
  have q0 := box_cell hP
  have q1 := box_cell hO
  dsimp only at q0 q1
  have cd := (hE0.cells.1 _ _ hbb).trans (hs d d0 d1)
  generalize hsd : secAt p.secret d = sd at cd
  have ca := (hE0.cells.1 _ _ hbb).trans (hs a a0 a1)
  generalize hsa : secAt p.secret a = sa at ca
  have hbw := Nat.lt_of_lt_of_le hbb hE0.size
  clear hs
  have Hd := Lib.hid hsd
  clear hsd
  have Ha := Lib.hid hsa
  clear hsa
  go_wp2
  all_goals
    go_ret
    refine ⟨ret_bool ?_, hE0⟩
    go_light
    clear hE0 hP hO q0 q1 hp
    simp only [opApart, Hd.out, Ha.out]
    first | rfl | (simp; done) | (simp [*]; done) | grind

set_option maxRecDepth 100000 in
set_option maxHeartbeats 4000000 in
theorem rapart10_calls (L : Lay) (p : LIr) (fn d a b imm : Int) (w : World) (hp : IrAt w L p) (hf : opForm p.secret.length ⟨10, fn, d, a, b, imm⟩ = true) :
    Calls Tryz.prog 29 #[L.val p, (LOp.mk 10 fn d a b imm).val] w fun e w' => e = .returned (.bool (opApart p.secret ⟨10, fn, d, a, b, imm⟩)) ∧ Ext w w' := by
  have hn := hp.ns
  have hE0 := (Ext.alloc (Ext.refl w) (L.box p)).alloc (LOp.mk 10 fn d a b imm).box
  have hP : ((w.alloc (L.box p)).alloc (LOp.mk 10 fn d a b imm).box).heap[w.heap.size]? = some (L.box p) := heap_alloc_was (heap_alloc_self w (L.box p)) _
  have hO : ((w.alloc (L.box p)).alloc (LOp.mk 10 fn d a b imm).box).heap[w.heap.size + 1]? = some (LOp.mk 10 fn d a b imm).box := heap_alloc_at _ _ (by simp)
  obtain ⟨a0, a1⟩ := (form_in hf).2.1 rfl
  obtain ⟨b0, b1⟩ := (form_in hf).2.2.1 rfl
  obtain ⟨bb, off, eA, hbb, hs⟩ := hp.secs (by omega)
  obtain ⟨sA, sc, pA, pc, bA, bc⟩ := L
  obtain rfl : sA = some ⟨bb, off, none⟩ := eA
  clear hf
  go_enter Tryz.func29, Tryz.ntmps29
  go_upto_region 1 with fail
  generalize hW : (w.alloc ((Lay.mk (some ⟨bb, off, none⟩) sc pA pc bA bc).box p)).alloc (LOp.mk 10 fn d a b imm).box = W at hP hO hE0 ⊢
  clear hW
  have hz1 := (Array.getElem?_eq_some_iff.1 hO).1
  have hz0 := (Array.getElem?_eq_some_iff.1 hP).1
  have q0 := box_cell hP
  have q1 := box_cell hO
  dsimp only at q0 q1
  have ca := (hE0.cells.1 _ _ hbb).trans (hs a a0 a1)
  generalize hsa : secAt p.secret a = sa at ca
  have cb := (hE0.cells.1 _ _ hbb).trans (hs b b0 b1)
  generalize hsb : secAt p.secret b = sb at cb
  have hbw := Nat.lt_of_lt_of_le hbb hE0.size
  clear hs
  have Ha := Lib.hid hsa
  clear hsa
  have Hb := Lib.hid hsb
  clear hsb
  go_wp2
  all_goals
    go_ret
    refine ⟨ret_bool ?_, hE0⟩
    go_light
    clear hE0 hP hO q0 q1 hp
    simp only [opApart, Ha.out, Hb.out]
    first | rfl | (simp; done) | (simp [*]; done) | grind

set_option maxRecDepth 100000 in
set_option maxHeartbeats 4000000 in
theorem rapart11_calls (L : Lay) (p : LIr) (fn d a b imm : Int) (w : World) (hp : IrAt w L p) (hf : opForm p.secret.length ⟨11, fn, d, a, b, imm⟩ = true) :
    Calls Tryz.prog 29 #[L.val p, (LOp.mk 11 fn d a b imm).val] w fun e w' => e = .returned (.bool (opApart p.secret ⟨11, fn, d, a, b, imm⟩)) ∧ Ext w w' := by
  have hn := hp.ns
  have hE0 := (Ext.alloc (Ext.refl w) (L.box p)).alloc (LOp.mk 11 fn d a b imm).box
  have hP : ((w.alloc (L.box p)).alloc (LOp.mk 11 fn d a b imm).box).heap[w.heap.size]? = some (L.box p) := heap_alloc_was (heap_alloc_self w (L.box p)) _
  have hO : ((w.alloc (L.box p)).alloc (LOp.mk 11 fn d a b imm).box).heap[w.heap.size + 1]? = some (LOp.mk 11 fn d a b imm).box := heap_alloc_at _ _ (by simp)
  obtain ⟨a0, a1⟩ := (form_in hf).2.1 rfl
  obtain ⟨bb, off, eA, hbb, hs⟩ := hp.secs (by omega)
  obtain ⟨sA, sc, pA, pc, bA, bc⟩ := L
  obtain rfl : sA = some ⟨bb, off, none⟩ := eA
  clear hf
  go_enter Tryz.func29, Tryz.ntmps29
  go_upto_region 1 with fail
  generalize hW : (w.alloc ((Lay.mk (some ⟨bb, off, none⟩) sc pA pc bA bc).box p)).alloc (LOp.mk 11 fn d a b imm).box = W at hP hO hE0 ⊢
  clear hW
  have hz1 := (Array.getElem?_eq_some_iff.1 hO).1
  have hz0 := (Array.getElem?_eq_some_iff.1 hP).1
  have q0 := box_cell hP
  have q1 := box_cell hO
  dsimp only at q0 q1
  have ca := (hE0.cells.1 _ _ hbb).trans (hs a a0 a1)
  generalize hsa : secAt p.secret a = sa at ca
  have hbw := Nat.lt_of_lt_of_le hbb hE0.size
  clear hs
  have Ha := Lib.hid hsa
  clear hsa
  go_wp2
  all_goals
    go_ret
    refine ⟨ret_bool ?_, hE0⟩
    go_light
    clear hE0 hP hO q0 q1 hp
    simp only [opApart, Ha.out]
    first | rfl | (simp; done) | (simp [*]; done) | grind

set_option maxRecDepth 100000 in
set_option maxHeartbeats 4000000 in
theorem rapart12_calls (L : Lay) (p : LIr) (fn d a b imm : Int) (w : World) (hp : IrAt w L p) (_hf : opForm p.secret.length ⟨12, fn, d, a, b, imm⟩ = true) :
    Calls Tryz.prog 29 #[L.val p, (LOp.mk 12 fn d a b imm).val] w fun e w' => e = .returned (.bool (opApart p.secret ⟨12, fn, d, a, b, imm⟩)) ∧ Ext w w' := by
  have hn := hp.ns
  have hE0 := (Ext.alloc (Ext.refl w) (L.box p)).alloc (LOp.mk 12 fn d a b imm).box
  have hP : ((w.alloc (L.box p)).alloc (LOp.mk 12 fn d a b imm).box).heap[w.heap.size]? = some (L.box p) := heap_alloc_was (heap_alloc_self w (L.box p)) _
  have hO : ((w.alloc (L.box p)).alloc (LOp.mk 12 fn d a b imm).box).heap[w.heap.size + 1]? = some (LOp.mk 12 fn d a b imm).box := heap_alloc_at _ _ (by simp)
  obtain ⟨sA, sc, pA, pc, bA, bc⟩ := L
  clear _hf
  go_enter Tryz.func29, Tryz.ntmps29
  go_upto_region 1 with fail
  generalize hW : (w.alloc ((Lay.mk sA sc pA pc bA bc).box p)).alloc (LOp.mk 12 fn d a b imm).box = W at hP hO hE0 ⊢
  clear hW
  have hz1 := (Array.getElem?_eq_some_iff.1 hO).1
  have hz0 := (Array.getElem?_eq_some_iff.1 hP).1
  have q0 := box_cell hP
  have q1 := box_cell hO
  dsimp only at q0 q1
  go_wp2
  all_goals
    go_ret
    refine ⟨ret_bool ?_, hE0⟩
    go_light
    clear hE0 hP hO q0 q1 hp
    simp only [opApart]
    first | rfl | (simp; done) | (simp [*]; done) | grind

set_option maxRecDepth 100000 in
set_option maxHeartbeats 4000000 in
theorem rapart13_calls (L : Lay) (p : LIr) (fn d a b imm : Int) (w : World) (hp : IrAt w L p) (_hf : opForm p.secret.length ⟨13, fn, d, a, b, imm⟩ = true) :
    Calls Tryz.prog 29 #[L.val p, (LOp.mk 13 fn d a b imm).val] w fun e w' => e = .returned (.bool (opApart p.secret ⟨13, fn, d, a, b, imm⟩)) ∧ Ext w w' := by
  have hn := hp.ns
  have hE0 := (Ext.alloc (Ext.refl w) (L.box p)).alloc (LOp.mk 13 fn d a b imm).box
  have hP : ((w.alloc (L.box p)).alloc (LOp.mk 13 fn d a b imm).box).heap[w.heap.size]? = some (L.box p) := heap_alloc_was (heap_alloc_self w (L.box p)) _
  have hO : ((w.alloc (L.box p)).alloc (LOp.mk 13 fn d a b imm).box).heap[w.heap.size + 1]? = some (LOp.mk 13 fn d a b imm).box := heap_alloc_at _ _ (by simp)
  obtain ⟨sA, sc, pA, pc, bA, bc⟩ := L
  clear _hf
  go_enter Tryz.func29, Tryz.ntmps29
  go_upto_region 1 with fail
  generalize hW : (w.alloc ((Lay.mk sA sc pA pc bA bc).box p)).alloc (LOp.mk 13 fn d a b imm).box = W at hP hO hE0 ⊢
  clear hW
  have hz1 := (Array.getElem?_eq_some_iff.1 hO).1
  have hz0 := (Array.getElem?_eq_some_iff.1 hP).1
  have q0 := box_cell hP
  have q1 := box_cell hO
  dsimp only at q0 q1
  go_wp2
  all_goals
    go_ret
    refine ⟨ret_bool ?_, hE0⟩
    go_light
    clear hE0 hP hO q0 q1 hp
    simp only [opApart]
    first | rfl | (simp; done) | (simp [*]; done) | grind

set_option maxHeartbeats 1000000 in
theorem rapart_calls (L : Lay) (p : LIr) (o : LOp) (w : World) (hp : IrAt w L p) (hf : opForm p.secret.length o = true) :
    Calls Tryz.prog 29 #[L.val p, o.val] w fun e w' => e = .returned (.bool (opApart p.secret o)) ∧ Ext w w' := by
  obtain ⟨k, fn, d, a, b, imm⟩ := o
  have hk : 1 ≤ k ∧ k ≤ 13 := by
    have h := hf
    simp only [opForm, Bool.and_eq_true, decide_eq_true_eq] at h
    exact h.1.1.1.1.1
  have : k = 1 ∨ k = 2 ∨ k = 3 ∨ k = 4 ∨ k = 5 ∨ k = 6 ∨ k = 7 ∨ k = 8 ∨ k = 9 ∨ k = 10 ∨ k = 11 ∨ k = 12 ∨ k = 13 := by omega
  rcases this with rfl | rfl | rfl | rfl | rfl | rfl | rfl | rfl | rfl | rfl | rfl | rfl | rfl
  · exact rapart1_calls L p fn d a b imm w hp hf
  · exact rapart2_calls L p fn d a b imm w hp hf
  · exact rapart3_calls L p fn d a b imm w hp hf
  · exact rapart4_calls L p fn d a b imm w hp hf
  · exact rapart5_calls L p fn d a b imm w hp hf
  · exact rapart6_calls L p fn d a b imm w hp hf
  · exact rapart7_calls L p fn d a b imm w hp hf
  · exact rapart8_calls L p fn d a b imm w hp hf
  · exact rapart9_calls L p fn d a b imm w hp hf
  · exact rapart10_calls L p fn d a b imm w hp hf
  · exact rapart11_calls L p fn d a b imm w hp hf
  · exact rapart12_calls L p fn d a b imm w hp hf
  · exact rapart13_calls L p fn d a b imm w hp hf
end Go.Proofs.YtggjcjdjhgfbmaaGreat
