/- The walk of goes, ahead of its loops: what keeps the machine; the door. Conditions: none. -/
import Derived.Test.YtggjcjdjhgfbmaaGreatGo1
import Derived.Test.YtggjcjdjhgfbmaaGreatIr2
import Derived.Test.YtggjcjdjhgfbmaaGreatMach5
namespace Go.Proofs.YtggjcjdjhgfbmaaGreat
open Go.RowKit

theorem look_step {w : World} {g : Nat} (hg : w.heap[g]? = some (.map (stepEs 13) 13)) (k : Int) (h1 : 1 ≤ k) (h2 : k ≤ 13) :
    (Instr.lookup 122 (.map (some g)) (.int .u8 k) false).run Tryz.prog w = .ok (.func (.func (fnOf k.toNat)) #[] #[]) w := by
  have hck : (Instr.checkKey (stepEs 13).isEmpty 10000 5 (.int .u8 k)).run Tryz.prog w = .ok () w := MapKept.run_checkKey Tryz.underlying5 (by simp [MapKept.IsKey]) _ _
  have : k = 1 ∨ k = 2 ∨ k = 3 ∨ k = 4 ∨ k = 5 ∨ k = 6 ∨ k = 7 ∨ k = 8 ∨ k = 9 ∨ k = 10 ∨ k = 11 ∨ k = 12 ∨ k = 13 := by omega
  rcases this with rfl | rfl | rfl | rfl | rfl | rfl | rfl | rfl | rfl | rfl | rfl | rfl | rfl
  all_goals
    simp only [Instr.lookup, Sem.run_bind, run_underlying Tryz.underlying122, Result.andThen_ok, MapKept.run_getObj_map hg, Sem.run_pure, hck, Instr.findKey, run_underlying Tryz.underlying5]
    rfl

/-- A block that is none of the machine's may turn. -/
theorem MachAt.far {w w' : World} {base : Nat} {S : Spot} {m : Mach} (h : MachAt w base S m) {g : Nat} (hg : w.grownBy w' (some g)) (hn : g ∉ S.blocks) : MachAt w' base S m := by
  have hne : ∀ k ∈ S.blocks, k ≠ g := fun k hk e => hn (e ▸ hk)
  obtain ⟨r1, r2, r3, r4, r5⟩ := h.rows hg (fun k hk => hne k (by simp [Spot.blocks, hk]))
  exact ⟨(hg.block _ (h.lt _ S.M_mem) (fun e => hne _ S.M_mem (by injection e))).trans h.mh, (hg.block _ (h.lt _ S.vB_mem) (fun e => hne _ S.vB_mem (by injection e))).trans h.vh, r1, r2, r3, r4, h.hm, h.am, r5, h.nd, h.lo, h.vl⟩
theorem Turn.newSet {w wx : World} {S Sx : Spot} (h : Turn w wx S Sx) {g : Nat} (hg : w.heap.size ≤ g) (i : Nat) (v : Value) : Turn w (wx.setCell ⟨g, i, none⟩ v) S Sx :=
  ⟨h.os, h.tape, h.output, by simpa [World.setCell] using h.size, fun k hk hn => (Below.heap_setCell wx _ v k (fun e => by simp only at e; omega)).trans (h.block k hk hn), h.own, h.M, h.vB⟩
theorem Turn.after {w wx wy : World} {S Sx : Spot} (h : Turn w wx S Sx) (hx : Ext wx wy) : Turn w wy S Sx := h.trans (Turn.ext Sx hx)

def GoneTo (w : World) (base : Nat) (S : Spot) (m : Mach) (n : Int) (e : Ending) (w' : World) : Prop := e = .returned (.int .i64 n) ∧ ∃ S', MachAt w' base S' m ∧ Turn w w' S S'

set_option maxRecDepth 100000 in
/-- The door, behind a panic by an 'over'. -/
theorem door_over {w wx : World} {base : Nat} {S Sx : Spot} {mx : Mach} {n : Int} {Be : Nat} {tmps : Array Value} (hR : wx.heap[Be]? = some (.cells #[.int .i64 0] 30 (0, 0))) (hM : MachAt wx base Sx mx) (hT : Turn w wx S Sx) (hB : w.heap.size ≤ Be) (hn : Be ∉ Sx.blocks)
    (ht : tmps.getD 4 undef = .pointer (some ⟨Be, 0, none⟩)) :
    Leaves Tryz.prog Tryz.f41 tmps (GoneTo w base S mx n) [{ target := .fn (.func 67) #[.pointer (some ⟨Be, 0, none⟩)], args := #[] }] (.panicking [{ v := .iface 121 (.agg #[.int .i64 n]), recovered := false }]) wx := by
  have hl := (Array.getElem?_eq_some_iff.1 hR).1
  refine leaves_cons (f := 67) (args := #[.pointer (some ⟨Be, 0, none⟩)]) (by simp) (by simp [go_sem]) ?_
  refine (catch_over Be 0 n [] wx (by rw [box_cell hR]; rfl) (by simp [World.frozen?, hR]) hl).mono ?_
  rintro e u' w'' ⟨rfl, rfl, rfl⟩
  have h2 : ((wx.setCell ⟨Be, 0, none⟩ (.int .i64 n)).alloc (.cells #[.int .i64 n] 121)).heap[Be]? = some (.cells #[.int .i64 n] 30 (0, 0)) := heap_alloc_was (by rw [setCell_heap hR]; rfl) _
  have hc := box_cell h2 0
  refine ⟨.int .i64 n, ?_, rfl, Sx, (hM.far (grown_set _ _ _ _) hn).ext (below_alloc1 _), (hT.newSet hB 0 _).after (below_alloc1 _)⟩
  exact results_cell1 rfl _ _ _ ⟨Be, 0, none⟩ (.int .i64 n) ht (by simp at hc; simp [go_sem, hc])
set_option maxRecDepth 100000 in
/-- The door, behind a return. -/
theorem door_ret {w wx : World} {base : Nat} {S Sx : Spot} {mx : Mach} {n : Int} {Be : Nat} {tmps : Array Value} (hR : wx.heap[Be]? = some (.cells #[.int .i64 n] 30 (0, 0))) (hM : MachAt wx base Sx mx) (hT : Turn w wx S Sx)
    (ht : tmps.getD 4 undef = .pointer (some ⟨Be, 0, none⟩)) :
    Leaves Tryz.prog Tryz.f41 tmps (GoneTo w base S mx n) [{ target := .fn (.func 67) #[.pointer (some ⟨Be, 0, none⟩)], args := #[] }] .returning wx := by
  refine leaves_cons (f := 67) (args := #[.pointer (some ⟨Be, 0, none⟩)]) (by simp) (by simp [go_sem]) ?_
  refine (catch_none Be wx).mono ?_
  rintro e u' w'' ⟨rfl, rfl, rfl⟩
  have hc := box_cell hR 0
  refine ⟨.int .i64 n, ?_, rfl, Sx, hM, hT⟩
  exact results_cell1 rfl _ _ _ ⟨Be, 0, none⟩ (.int .i64 n) ht (by simp at hc; simp [go_sem, hc])

set_option maxHeartbeats 1000000 in
theorem cost_calls (w : World) (base : Nat) (S : Spot) (m : Mach) (o : LOp) (h : MachAt w base S m) (hk : m.Ok) (ha : o.kind = 9 → 0 ≤ o.a ∧ o.a < m.v.length) (hb : o.kind = 10 → 0 ≤ o.b ∧ o.b < m.v.length) :
    Calls Tryz.prog 70 #[.pointer (some ⟨S.M, 0, none⟩), o.val] w fun e w' => e = .returned (.int .u64 (m.cost o)) ∧ Ext w w' := by
  obtain ⟨k, fn, d, a, b, imm⟩ := o
  by_cases h9 : k = 9
  · subst h9
    exact cost9_calls w base S m fn d a b imm h hk (ha rfl).1 (ha rfl).2
  · by_cases h10 : k = 10
    · subst h10
      exact cost10_calls w base S m fn d a b imm h hk (hb rfl).1 (hb rfl).2
    · have : m.cost ⟨k, fn, d, a, b, imm⟩ = 1 := by
        simp [Mach.cost, h9, h10]
      rw [this]
      exact cost1_calls w base S m k fn d a b imm h hk h9 h10
theorem cost_range {m : Mach} (hk : m.Ok) (o : LOp) : 1 ≤ m.cost o ∧ m.cost o < 18446744073709551616 := by
  have ha := rd_range hk o.a
  have hb := rd_range hk o.b
  have e1 := eights_range _ ha.1 ha.2
  have e2 := eights_range _ hb.1 hb.2
  unfold Mach.cost
  split
  · omega
  · split <;> omega
end Go.Proofs.YtggjcjdjhgfbmaaGreat
