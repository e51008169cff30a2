/- The walks of the machine's steps, 2. Conditions: none. -/
import Derived.Test.YtggjcjdjhgfbmaaGreatMach4
namespace Go.Proofs.YtggjcjdjhgfbmaaGreat
open Go.RowKit
set_option maxRecDepth 100000 in
set_option maxHeartbeats 4000000 in
theorem move_calls (w : World) (base : Nat) (S : Spot) (m : Mach) (o : LOp) (h : MachAt w base S m) (hd0 : 0 ≤ o.d) (hd1 : o.d < m.v.length) (ha0 : 0 ≤ o.a) (ha1 : o.a < m.v.length) :
    Calls Tryz.prog 83 #[.pointer (some ⟨S.M, 0, none⟩), o.val] w (Went w base S (m.put o.d (m.rd o.a))) := by
  have hE := Ext.alloc (Ext.refl w) o.box
  have hG := heap_alloc_self w o.box
  have h1 := h.ext hE
  go_enter Tryz.func83, Tryz.ntmps83
  go_upto_region 1 with fail
  generalize hW : w.alloc o.box = W0 at hE hG h1 ⊢
  clear hW
  have g0 := box_cell hG
  have gl := (Array.getElem?_eq_some_iff.1 hG).1
  have m0 := h1.m_cell
  have ml := h1.lt _ S.M_mem
  have vl := h1.lt _ S.vB_mem
  have hf := h1.frozen
  have ha := h.apart.Mv
  have ha' := Ne.symm ha
  have n1 : S.vB ≠ w.heap.size := Nat.ne_of_lt (h.lt _ S.vB_mem)
  have n2 := Ne.symm n1
  have n3 : S.M ≠ w.heap.size := Nat.ne_of_lt (h.lt _ S.M_mem)
  have n4 := Ne.symm n3
  have vcd := h1.v_cell o.d hd1 hd0
  have vca := h1.v_cell o.a ha1 ha0
  go_still_tail 15, (by kernel_rfl)
  change wpList _ _ _ _ _ W0.drew
  go_wp2
  go_end0
  exact ⟨rfl, S, drewM (h1.put _ _), (Turn.ext S hE).trans (drewT (Turn.put W0 S _ _))⟩

set_option maxRecDepth 100000 in
set_option maxHeartbeats 4000000 in
theorem less_calls (w : World) (base : Nat) (S : Spot) (m : Mach) (o : LOp) (h : MachAt w base S m) (ha0 : 0 ≤ o.a) (ha1 : o.a < m.v.length) (hb0 : 0 ≤ o.b) (hb1 : o.b < m.v.length) :
    Calls Tryz.prog 87 #[.pointer (some ⟨S.M, 0, none⟩), o.val] w (Post w base S (if m.rd o.b ≤ m.rd o.a then m.trapped 1 else .go m)) := by
  by_cases hcmp : m.rd o.b ≤ m.rd o.a
  · rw [if_pos hcmp]
    show Calls _ _ _ _ (Over w base S _ 0)
    have hE := Ext.alloc (Ext.refl w) o.box
    have hG := heap_alloc_self w o.box
    have h1 := h.ext hE
    go_enter Tryz.func87, Tryz.ntmps87
    go_upto_region 1 with fail
    generalize hW : w.alloc o.box = W0 at hE hG h1 ⊢
    clear hW
    have g0 := box_cell hG
    have gl := (Array.getElem?_eq_some_iff.1 hG).1
    have m0 := h1.m_cell
    have ml := h1.lt _ S.M_mem
    have vl := h1.lt _ S.vB_mem
    have hf := h1.frozen
    have ha := h.apart.Mv
    have ha' := Ne.symm ha
    have n1 : S.vB ≠ w.heap.size := Nat.ne_of_lt (h.lt _ S.vB_mem)
    have n2 := Ne.symm n1
    have n3 : S.M ≠ w.heap.size := Nat.ne_of_lt (h.lt _ S.M_mem)
    have n4 := Ne.symm n3
    have vca := h1.v_cell o.a ha1 ha0
    have vcb := h1.v_cell o.b hb1 hb0
    go_quiet (fail)
    have h2 := h1.ext ((Ext.refl W0).drewN nq)
    have hE2 := hE.trans ((Ext.refl W0).drewN nq)
    go_wp2_with (go_at_call 71; refine (trap_calls _ base S m 1 h2).mono ?_; rintro e w1 ⟨rfl, S', hM, hT⟩)
    exact ⟨rfl, rfl, S', hM, (Turn.ext S hE2).trans hT⟩
  · rw [if_neg hcmp]
    replace hcmp : m.rd o.a < m.rd o.b := by omega
    show Calls _ _ _ _ (Went w base S m)
    have hE := Ext.alloc (Ext.refl w) o.box
    have hG := heap_alloc_self w o.box
    have h1 := h.ext hE
    go_enter Tryz.func87, Tryz.ntmps87
    go_upto_region 1 with fail
    generalize hW : w.alloc o.box = W0 at hE hG h1 ⊢
    clear hW
    have g0 := box_cell hG
    have gl := (Array.getElem?_eq_some_iff.1 hG).1
    have m0 := h1.m_cell
    have ml := h1.lt _ S.M_mem
    have vl := h1.lt _ S.vB_mem
    have hf := h1.frozen
    have ha := h.apart.Mv
    have ha' := Ne.symm ha
    have n1 : S.vB ≠ w.heap.size := Nat.ne_of_lt (h.lt _ S.vB_mem)
    have n2 := Ne.symm n1
    have n3 : S.M ≠ w.heap.size := Nat.ne_of_lt (h.lt _ S.M_mem)
    have n4 := Ne.symm n3
    have vca := h1.v_cell o.a ha1 ha0
    have vcb := h1.v_cell o.b hb1 hb0
    go_quiet (fail)
    have h2 := h1.ext ((Ext.refl W0).drewN nq)
    have hE2 := hE.trans ((Ext.refl W0).drewN nq)
    go_wp2
    go_end0
    exact ⟨rfl, S, h2, Turn.ext S hE2⟩

set_option maxRecDepth 100000 in
set_option maxHeartbeats 4000000 in
theorem most_calls (w : World) (base : Nat) (S : Spot) (m : Mach) (o : LOp) (h : MachAt w base S m) (ha0 : 0 ≤ o.a) (ha1 : o.a < m.v.length) (hb0 : 0 ≤ o.b) (hb1 : o.b < m.v.length) :
    Calls Tryz.prog 88 #[.pointer (some ⟨S.M, 0, none⟩), o.val] w (Post w base S (if m.rd o.b < m.rd o.a then m.trapped 1 else .go m)) := by
  by_cases hcmp : m.rd o.b < m.rd o.a
  · rw [if_pos hcmp]
    show Calls _ _ _ _ (Over w base S _ 0)
    have hE := Ext.alloc (Ext.refl w) o.box
    have hG := heap_alloc_self w o.box
    have h1 := h.ext hE
    go_enter Tryz.func88, Tryz.ntmps88
    go_upto_region 1 with fail
    generalize hW : w.alloc o.box = W0 at hE hG h1 ⊢
    clear hW
    have g0 := box_cell hG
    have gl := (Array.getElem?_eq_some_iff.1 hG).1
    have m0 := h1.m_cell
    have ml := h1.lt _ S.M_mem
    have vl := h1.lt _ S.vB_mem
    have hf := h1.frozen
    have ha := h.apart.Mv
    have ha' := Ne.symm ha
    have n1 : S.vB ≠ w.heap.size := Nat.ne_of_lt (h.lt _ S.vB_mem)
    have n2 := Ne.symm n1
    have n3 : S.M ≠ w.heap.size := Nat.ne_of_lt (h.lt _ S.M_mem)
    have n4 := Ne.symm n3
    have vca := h1.v_cell o.a ha1 ha0
    have vcb := h1.v_cell o.b hb1 hb0
    go_quiet (fail)
    have h2 := h1.ext ((Ext.refl W0).drewN nq)
    have hE2 := hE.trans ((Ext.refl W0).drewN nq)
    go_wp2_with (go_at_call 71; refine (trap_calls _ base S m 1 h2).mono ?_; rintro e w1 ⟨rfl, S', hM, hT⟩)
    exact ⟨rfl, rfl, S', hM, (Turn.ext S hE2).trans hT⟩
  · rw [if_neg hcmp]
    replace hcmp : m.rd o.a ≤ m.rd o.b := by omega
    show Calls _ _ _ _ (Went w base S m)
    have hE := Ext.alloc (Ext.refl w) o.box
    have hG := heap_alloc_self w o.box
    have h1 := h.ext hE
    go_enter Tryz.func88, Tryz.ntmps88
    go_upto_region 1 with fail
    generalize hW : w.alloc o.box = W0 at hE hG h1 ⊢
    clear hW
    have g0 := box_cell hG
    have gl := (Array.getElem?_eq_some_iff.1 hG).1
    have m0 := h1.m_cell
    have ml := h1.lt _ S.M_mem
    have vl := h1.lt _ S.vB_mem
    have hf := h1.frozen
    have ha := h.apart.Mv
    have ha' := Ne.symm ha
    have n1 : S.vB ≠ w.heap.size := Nat.ne_of_lt (h.lt _ S.vB_mem)
    have n2 := Ne.symm n1
    have n3 : S.M ≠ w.heap.size := Nat.ne_of_lt (h.lt _ S.M_mem)
    have n4 := Ne.symm n3
    have vca := h1.v_cell o.a ha1 ha0
    have vcb := h1.v_cell o.b hb1 hb0
    go_quiet (fail)
    have h2 := h1.ext ((Ext.refl W0).drewN nq)
    have hE2 := hE.trans ((Ext.refl W0).drewN nq)
    go_wp2
    go_end0
    exact ⟨rfl, S, h2, Turn.ext S hE2⟩

set_option maxRecDepth 100000 in
set_option maxHeartbeats 4000000 in
theorem some_calls (w : World) (base : Nat) (S : Spot) (m : Mach) (o : LOp) (h : MachAt w base S m) (ha0 : 0 ≤ o.a) (ha1 : o.a < m.v.length) :
    Calls Tryz.prog 89 #[.pointer (some ⟨S.M, 0, none⟩), o.val] w (Post w base S (if m.rd o.a = 0 then m.trapped 2 else .go m)) := by
  by_cases hcmp : m.rd o.a = 0
  · rw [if_pos hcmp]
    show Calls _ _ _ _ (Over w base S _ 0)
    have hE := Ext.alloc (Ext.refl w) o.box
    have hG := heap_alloc_self w o.box
    have h1 := h.ext hE
    go_enter Tryz.func89, Tryz.ntmps89
    go_upto_region 1 with fail
    generalize hW : w.alloc o.box = W0 at hE hG h1 ⊢
    clear hW
    have g0 := box_cell hG
    have gl := (Array.getElem?_eq_some_iff.1 hG).1
    have m0 := h1.m_cell
    have ml := h1.lt _ S.M_mem
    have vl := h1.lt _ S.vB_mem
    have hf := h1.frozen
    have ha := h.apart.Mv
    have ha' := Ne.symm ha
    have n1 : S.vB ≠ w.heap.size := Nat.ne_of_lt (h.lt _ S.vB_mem)
    have n2 := Ne.symm n1
    have n3 : S.M ≠ w.heap.size := Nat.ne_of_lt (h.lt _ S.M_mem)
    have n4 := Ne.symm n3
    have vca := h1.v_cell o.a ha1 ha0
    go_quiet (fail)
    have h2 := h1.ext ((Ext.refl W0).drewN nq)
    have hE2 := hE.trans ((Ext.refl W0).drewN nq)
    go_wp2_with (go_at_call 71; refine (trap_calls _ base S m 2 h2).mono ?_; rintro e w1 ⟨rfl, S', hM, hT⟩)
    exact ⟨rfl, rfl, S', hM, (Turn.ext S hE2).trans hT⟩
  · rw [if_neg hcmp]
    replace hcmp : ¬ m.rd o.a = 0 := by omega
    show Calls _ _ _ _ (Went w base S m)
    have hE := Ext.alloc (Ext.refl w) o.box
    have hG := heap_alloc_self w o.box
    have h1 := h.ext hE
    go_enter Tryz.func89, Tryz.ntmps89
    go_upto_region 1 with fail
    generalize hW : w.alloc o.box = W0 at hE hG h1 ⊢
    clear hW
    have g0 := box_cell hG
    have gl := (Array.getElem?_eq_some_iff.1 hG).1
    have m0 := h1.m_cell
    have ml := h1.lt _ S.M_mem
    have vl := h1.lt _ S.vB_mem
    have hf := h1.frozen
    have ha := h.apart.Mv
    have ha' := Ne.symm ha
    have n1 : S.vB ≠ w.heap.size := Nat.ne_of_lt (h.lt _ S.vB_mem)
    have n2 := Ne.symm n1
    have n3 : S.M ≠ w.heap.size := Nat.ne_of_lt (h.lt _ S.M_mem)
    have n4 := Ne.symm n3
    have vca := h1.v_cell o.a ha1 ha0
    go_quiet (fail)
    have h2 := h1.ext ((Ext.refl W0).drewN nq)
    have hE2 := hE.trans ((Ext.refl W0).drewN nq)
    go_wp2
    go_end0
    exact ⟨rfl, S, h2, Turn.ext S hE2⟩

set_option maxRecDepth 100000 in
set_option maxHeartbeats 4000000 in
theorem seal_calls (w : World) (base : Nat) (S : Spot) (m : Mach) (o : LOp) (h : MachAt w base S m) :
    Calls Tryz.prog 94 #[.pointer (some ⟨S.M, 0, none⟩), o.val] w (Went w base S m) := by
  have hE := Ext.alloc (Ext.refl w) o.box
  have h1 := h.ext hE
  go_enter Tryz.func94, Tryz.ntmps94
  go_wp2
  go_end0
  exact ⟨rfl, S, h1, Turn.ext S hE⟩

end Go.Proofs.YtggjcjdjhgfbmaaGreat
