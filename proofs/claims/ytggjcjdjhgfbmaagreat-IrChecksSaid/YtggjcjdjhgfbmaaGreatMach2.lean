/- The walks of the machine's steps, 1. Conditions: none. -/
import Derived.Test.YtggjcjdjhgfbmaaGreatMach1
import Derived.Deep.RegionHeld3
namespace Go.Proofs.YtggjcjdjhgfbmaaGreat
open Go.RowKit

def Went (w : World) (base : Nat) (S : Spot) (m : Mach) (e : Ending) (w' : World) : Prop := e = .returned (.tuple #[]) ∧ ∃ S', MachAt w' base S' m ∧ Turn w w' S S'
def Over (w : World) (base : Nat) (S : Spot) (m : Mach) (n : Int) (e : Ending) (w' : World) : Prop :=
  e = .panicked [{ v := .iface 121 (.agg #[.int .i64 n]), recovered := false }] ∧ ∃ S', MachAt w' base S' m ∧ Turn w w' S S'

theorem drewM {w : World} {base : Nat} {S : Spot} {m : Mach} (h : MachAt w base S m) : MachAt w.drew base S m := h.ext (Ext.drew (Ext.refl _))
theorem drewT {w w' : World} {S S' : Spot} (h : Turn w w' S S') : Turn w w'.drew S S' := h.trans (Turn.ext S' (Ext.drew (Ext.refl _)))

set_option maxRecDepth 100000 in
set_option maxHeartbeats 4000000 in
theorem konst_calls (w : World) (base : Nat) (S : Spot) (m : Mach) (o : LOp) (h : MachAt w base S m) (hd0 : 0 ≤ o.d) (hd1 : o.d < m.v.length) :
    Calls Tryz.prog 82 #[.pointer (some ⟨S.M, 0, none⟩), o.val] w (Went w base S (m.put o.d o.imm)) := by
  have hE := Ext.alloc (Ext.refl w) o.box
  have hG := heap_alloc_self w o.box
  have h1 := h.ext hE
  go_enter Tryz.func82, Tryz.ntmps82
  go_upto_region 1 with fail
  generalize hW : w.alloc o.box = W0 at hE hG h1 ⊢
  clear hW
  have g0 := box_cell hG
  have gl := (Array.getElem?_eq_some_iff.1 hG).1
  have m0 := h1.m_cell
  have ml := h1.lt _ S.M_mem
  have vl := h1.lt _ S.vB_mem
  have vc := h1.v_cell o.d hd1 hd0
  have hf := h1.frozen
  have ha := h.apart.Mv
  have ha' := Ne.symm ha
  have n1 : S.vB ≠ w.heap.size := Nat.ne_of_lt (h.lt _ S.vB_mem)
  have n2 := Ne.symm n1
  have n3 : S.M ≠ w.heap.size := Nat.ne_of_lt (h.lt _ S.M_mem)
  have n4 := Ne.symm n3
  go_region_held3 (fun W => W.cell? ⟨S.M, 0, none⟩ = some (.slice (some ⟨S.vB, 0, none⟩) m.v.length m.v.length) ∧ W.cell? ⟨w.heap.size, 2, none⟩ = some (.int .i64 o.d) ∧ W.cell? ⟨w.heap.size, 5, none⟩ = some (.int .u64 o.imm)) (go_keep) (fail)
  go_end0
  exact ⟨rfl, S, drewM (h1.put o.d o.imm), (Turn.ext S hE).trans (drewT (Turn.put W0 S _ _))⟩
end Go.Proofs.YtggjcjdjhgfbmaaGreat
