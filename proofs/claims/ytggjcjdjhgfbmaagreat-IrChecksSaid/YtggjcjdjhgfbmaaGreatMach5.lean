/- The walk of machine.cost. Conditions: none. -/
import Derived.Test.YtggjcjdjhgfbmaaGreatMach3
namespace Go.Proofs.YtggjcjdjhgfbmaaGreat
open Go.RowKit

theorem rd_range {m : Mach} (hk : m.Ok) (i : Int) : 0 ≤ m.rd i ∧ m.rd i < 18446744073709551616 := by
  unfold Mach.rd
  rw [List.getD_eq_getElem?_getD]
  cases h : m.v[i.toNat]? with
  | none => simp
  | some x => exact hk.v x (List.mem_of_getElem? h)
theorem eights_range (n : Int) (h0 : 0 ≤ n) (h1 : n < 18446744073709551616) : 0 ≤ eights n ∧ eights n ≤ 2305843009213693952 := by unfold eights; omega

set_option maxRecDepth 100000 in
set_option maxHeartbeats 4000000 in
theorem cost9_calls (w : World) (base : Nat) (S : Spot) (m : Mach) (fn d a b imm : Int) (h : MachAt w base S m) (hk : m.Ok) (ha0 : 0 ≤ a) (ha1 : a < m.v.length) :
    Calls Tryz.prog 70 #[.pointer (some ⟨S.M, 0, none⟩), (LOp.mk 9 fn d a b imm).val] w fun e w' => e = .returned (.int .u64 (if m.room (m.rd a) then 1 + eights (m.rd a) else 1)) ∧ Ext w w' := by
  cases hr : m.room (m.rd a) with
  | true =>
      obtain ⟨r0, r1⟩ := rd_range hk a
      obtain ⟨e0, e1⟩ := eights_range _ r0 r1
      have hroom : m.room (m.rd a) = true := hr
      have hE := Ext.alloc (Ext.refl w) (LOp.mk 9 fn d a b imm).box
      have hG := heap_alloc_self w (LOp.mk 9 fn d a b imm).box
      have h1 := h.ext hE
      go_enter Tryz.func70, Tryz.ntmps70
      go_upto_region 1 with fail
      generalize hW : w.alloc (LOp.mk 9 fn d a b imm).box = W0 at hE hG h1 ⊢
      clear hW
      have g0 := box_cell hG
      have gl := (Array.getElem?_eq_some_iff.1 hG).1
      have m0 := h1.m_cell
      have ml := h1.lt _ S.M_mem
      have vl := h1.lt _ S.vB_mem
      have hf := h1.frozen
      have ha := h.apart.Mv
      have ha' := Ne.symm ha
      have n1 : S.vB ≠ w.heap.size := Nat.ne_of_lt (h.lt _ S.vB_mem)
      have n2 := Ne.symm n1
      have n3 : S.M ≠ w.heap.size := Nat.ne_of_lt (h.lt _ S.M_mem)
      have n4 := Ne.symm n3
      have vca := h1.v_cell a ha1 ha0
      go_quiet ((go_at_call 95; exact Calls.quiet_of (room_calls _ base S m _ (h1.ext ((Ext.refl W0).drewN _)) hk r0 r1)))
      go_wp2
      have hX := (Ext.refl W0).drewN nq
      generalize W0.drewN nq = W1 at hX ⊢
      replace hE := hE.trans hX
      replace hG := hX.heap hG
      replace h1 := h1.ext hX
      clear hX g0 gl m0 ml vl hf vca
      have g0 := box_cell hG
      have gl := (Array.getElem?_eq_some_iff.1 hG).1
      have m0 := h1.m_cell
      have ml := h1.lt _ S.M_mem
      have vl := h1.lt _ S.vB_mem
      have vca := h1.v_cell a ha1 ha0
      go_quiet ((go_at_call 96; exact Calls.quiet_of_same (eights_calls _ r0 r1 _)))
      go_wp2
      go_ret
      refine ⟨ret_int ?_, (hE).drewN _⟩
      first | rfl | (simp [*]; done) | (simp only [IntKind.wrap_u64, hroom]; simp; omega) | (simp only [IntKind.wrap_u64]; omega)
  | false =>
      obtain ⟨r0, r1⟩ := rd_range hk a
      obtain ⟨e0, e1⟩ := eights_range _ r0 r1
      have hroom : m.room (m.rd a) = false := hr
      have hE := Ext.alloc (Ext.refl w) (LOp.mk 9 fn d a b imm).box
      have hG := heap_alloc_self w (LOp.mk 9 fn d a b imm).box
      have h1 := h.ext hE
      go_enter Tryz.func70, Tryz.ntmps70
      go_upto_region 1 with fail
      generalize hW : w.alloc (LOp.mk 9 fn d a b imm).box = W0 at hE hG h1 ⊢
      clear hW
      have g0 := box_cell hG
      have gl := (Array.getElem?_eq_some_iff.1 hG).1
      have m0 := h1.m_cell
      have ml := h1.lt _ S.M_mem
      have vl := h1.lt _ S.vB_mem
      have hf := h1.frozen
      have ha := h.apart.Mv
      have ha' := Ne.symm ha
      have n1 : S.vB ≠ w.heap.size := Nat.ne_of_lt (h.lt _ S.vB_mem)
      have n2 := Ne.symm n1
      have n3 : S.M ≠ w.heap.size := Nat.ne_of_lt (h.lt _ S.M_mem)
      have n4 := Ne.symm n3
      have vca := h1.v_cell a ha1 ha0
      go_quiet ((go_at_call 95; exact Calls.quiet_of (room_calls _ base S m _ (h1.ext ((Ext.refl W0).drewN _)) hk r0 r1)))
      go_wp2
      go_ret
      refine ⟨ret_int ?_, (hE).drewN _⟩
      first | rfl | (simp [*]; done) | (simp only [IntKind.wrap_u64, hroom]; simp; omega) | (simp only [IntKind.wrap_u64]; omega)

set_option maxRecDepth 100000 in
set_option maxHeartbeats 4000000 in
theorem cost10_calls (w : World) (base : Nat) (S : Spot) (m : Mach) (fn d a b imm : Int) (h : MachAt w base S m) (hk : m.Ok) (hb0 : 0 ≤ b) (hb1 : b < m.v.length) :
    Calls Tryz.prog 70 #[.pointer (some ⟨S.M, 0, none⟩), (LOp.mk 10 fn d a b imm).val] w fun e w' => e = .returned (.int .u64 (1 + eights (m.rd b))) ∧ Ext w w' := by
  obtain ⟨r0, r1⟩ := rd_range hk b
  obtain ⟨e0, e1⟩ := eights_range _ r0 r1
  have hE := Ext.alloc (Ext.refl w) (LOp.mk 10 fn d a b imm).box
  have hG := heap_alloc_self w (LOp.mk 10 fn d a b imm).box
  have h1 := h.ext hE
  go_enter Tryz.func70, Tryz.ntmps70
  go_upto_region 1 with fail
  generalize hW : w.alloc (LOp.mk 10 fn d a b imm).box = W0 at hE hG h1 ⊢
  clear hW
  have g0 := box_cell hG
  have gl := (Array.getElem?_eq_some_iff.1 hG).1
  have m0 := h1.m_cell
  have ml := h1.lt _ S.M_mem
  have vl := h1.lt _ S.vB_mem
  have hf := h1.frozen
  have ha := h.apart.Mv
  have ha' := Ne.symm ha
  have n1 : S.vB ≠ w.heap.size := Nat.ne_of_lt (h.lt _ S.vB_mem)
  have n2 := Ne.symm n1
  have n3 : S.M ≠ w.heap.size := Nat.ne_of_lt (h.lt _ S.M_mem)
  have n4 := Ne.symm n3
  have vcb := h1.v_cell b hb1 hb0
  go_quiet (fail)
  go_wp2
  have hX := (Ext.refl W0).drewN nq
  generalize W0.drewN nq = W1 at hX ⊢
  replace hE := hE.trans hX
  replace hG := hX.heap hG
  replace h1 := h1.ext hX
  clear hX g0 gl m0 ml vl hf vcb
  have g0 := box_cell hG
  have gl := (Array.getElem?_eq_some_iff.1 hG).1
  have m0 := h1.m_cell
  have ml := h1.lt _ S.M_mem
  have vl := h1.lt _ S.vB_mem
  have vcb := h1.v_cell b hb1 hb0
  go_quiet ((go_at_call 96; exact Calls.quiet_of_same (eights_calls _ r0 r1 _)))
  go_wp2
  go_ret
  refine ⟨ret_int ?_, (hE).drewN _⟩
  first | rfl | (simp [*]; done) | (simp only [IntKind.wrap_u64, hroom]; simp; omega) | (simp only [IntKind.wrap_u64]; omega)

set_option maxRecDepth 100000 in
set_option maxHeartbeats 4000000 in
theorem cost1_calls (w : World) (base : Nat) (S : Spot) (m : Mach) (kind fn d a b imm : Int) (h : MachAt w base S m) (_hk : m.Ok) (hk9 : ¬ kind = 9) (hk10 : ¬ kind = 10) :
    Calls Tryz.prog 70 #[.pointer (some ⟨S.M, 0, none⟩), (LOp.mk kind fn d a b imm).val] w fun e w' => e = .returned (.int .u64 (1)) ∧ Ext w w' := by
  have hd9 : (kind == 9) = false := by simpa using hk9
  have hd10 : (kind == 10) = false := by simpa using hk10
  have hE := Ext.alloc (Ext.refl w) (LOp.mk kind fn d a b imm).box
  have hG := heap_alloc_self w (LOp.mk kind fn d a b imm).box
  have h1 := h.ext hE
  go_enter Tryz.func70, Tryz.ntmps70
  go_upto_region 1 with fail
  generalize hW : w.alloc (LOp.mk kind fn d a b imm).box = W0 at hE hG h1 ⊢
  clear hW
  have g0 := box_cell hG
  have gl := (Array.getElem?_eq_some_iff.1 hG).1
  have m0 := h1.m_cell
  have ml := h1.lt _ S.M_mem
  have vl := h1.lt _ S.vB_mem
  have hf := h1.frozen
  have ha := h.apart.Mv
  have ha' := Ne.symm ha
  have n1 : S.vB ≠ w.heap.size := Nat.ne_of_lt (h.lt _ S.vB_mem)
  have n2 := Ne.symm n1
  have n3 : S.M ≠ w.heap.size := Nat.ne_of_lt (h.lt _ S.M_mem)
  have n4 := Ne.symm n3
  go_quiet (fail)
  go_wp2
  go_ret
  refine ⟨ret_int ?_, (hE).drewN _⟩
  first | rfl | (simp [*]; done) | (simp only [IntKind.wrap_u64, hroom]; simp; omega) | (simp only [IntKind.wrap_u64]; omega)


end Go.Proofs.YtggjcjdjhgfbmaaGreat
