/- A run without what is handed in. Conditions: no parameters; what each step comes to is handed in; the run is not at fault. -/
import Derived.Test.YtggjcjdjhgfbmaaGreatRun2
import Derived.Test.YtggjcjdjhgfbmaaGreatChk5
import Derived.Test.YtggjcjdjhgfbmaaGreatOwn2
import Derived.Laws.MakeOwn
namespace Go.Proofs.YtggjcjdjhgfbmaaGreat
open Go.RowKit Go.BigFrame

def mach0 (n : Nat) (size fuel : Int) : Mach := { v := List.replicate n 0, handed := [], arena := [], left := [], taken := 0, size := size, fuel := fuel, fin := 0, trap := 0, ret := 0, told := [], steps := 0 }
theorem infoU64 : (Tryz.prog.info? 46).map (fun i => (i.zero, i.size, i.bytes)) = some (some (.int .u64 0), 1, 8) := by kernel_rfl
theorem made_u64 (n : Nat) : madeCells (Value.int .u64 0).cells (n * 1) = Array.replicate n (.int .u64 0) := by
  apply Array.ext
  · simp [madeCells]
  · intro i h1 h2
    have e : i % 1 = 0 := Nat.mod_one i
    simp [madeCells, Value.cells, e]
theorem make_u64 (n : Nat) (h : n ≤ 1000000) (W : World) : (Instr.makeSlice 40 (.int .i64 (n : Int)) (.int .i64 (n : Int))).run Tryz.prog W = .ok (.slice (some ⟨W.heap.size, 0, none⟩) n n) (W.alloc (.cells (Array.replicate n (.int .u64 0)) 46)) := by
  obtain ⟨i0, hi, hz0, hz1, hz2⟩ := info_parts infoU64
  have hr := run_make (P := Tryz.prog) (w := W) 40 46 i0 (.int .u64 0) Tryz.underlying40 hi hz0 .i64 .i64 n n (by omega) (by omega) (by rw [hz2]; omega) (by omega)
  rw [hz1] at hr
  simp only [Int.toNat_natCast, made_u64] at hr
  exact hr
abbrev outV (m : Mach) (bv tv : Value) : Value := .agg #[.int .u8 m.fin, .int .i64 m.trap, .int .u64 m.ret, bv, tv, .int .i64 m.steps]

abbrev spot0 (g : Nat) : Spot := ⟨g + 1, g, .slice none 0 0, .slice none 0 0, .slice none 0 0, .slice none 0 0, [], []⟩
abbrev mach0Cells (g n : Nat) (size fuel : Int) : Obj := .cells #[.slice (some ⟨g, 0, none⟩) n n, .slice none 0 0, .slice none 0 0, .slice none 0 0, .int .i64 0, .int .i64 size, .int .i64 fuel, .int .u8 0, .int .i64 0, .int .u64 0, .slice none 0 0, .slice none 0 0, .int .i64 0] 81
theorem mach0_at {w2 : World} {base : Nat} (hb : base ≤ w2.heap.size) (n : Nat) (hn : n ≤ 1000000) (size fuel : Int) :
    MachAt ((w2.alloc (.cells (Array.replicate n (.int .u64 0)) 46)).alloc (mach0Cells w2.heap.size n size fuel)) base (spot0 w2.heap.size) (mach0 n size fuel) where
  mh := by
    have e : machCells (spot0 w2.heap.size) (mach0 n size fuel) = #[.slice (some ⟨w2.heap.size, 0, none⟩) n n, .slice none 0 0, .slice none 0 0, .slice none 0 0, .int .i64 0, .int .i64 size, .int .i64 fuel, .int .u8 0, .int .i64 0, .int .u64 0, .slice none 0 0, .slice none 0 0, .int .i64 0] := by simp [machCells, mach0]
    rw [e]
    exact heap_alloc_at _ _ (by simp)
  vh := by
    have : ((w2.alloc (.cells (Array.replicate n (.int .u64 0)) 46)).alloc (mach0Cells w2.heap.size n size fuel)).heap[w2.heap.size]? = some (.cells (Array.replicate n (.int .u64 0)) 46) := heap_alloc_was (heap_alloc_self _ _) _
    simpa [mach0] using this
  hh := World.ownsRow_nil _ _ _ _
  ah := World.ownsRow_nil _ _ _ _
  lh := World.ownsRow_nil _ _ _ _
  th := World.ownsRow_nil _ _ _ _
  hm := rfl
  am := rfl
  bs := by intro x hx; cases hx
  nd := by simp [Spot.blocks, Spot.own, Value.ownBlock]
  lo := by
    intro k hk
    simp [Spot.blocks, Spot.own, Value.ownBlock] at hk
    omega
  vl := by simp [mach0]; omega

set_option maxRecDepth 100000 in
set_option maxHeartbeats 8000000 in
theorem run0_calls (st : Mach → LOp → Res) (I : Mach → Prop) (L : Lay) (p : LIr) (w : World) (arena fuel : Int) (R : Mach) (hp : IrAt w L p) (h0 : p.params = []) (hok : irOk p = true) (hfn : ∀ b ∈ p.blocks, ∀ o ∈ b.ops, 0 ≤ o.fn) (hsm : ∀ b ∈ p.blocks, b.ops.length ≤ 1000000)
    (ha0 : 0 ≤ arena) (ha1 : arena ≤ 65536) (hf0 : 0 ≤ fuel) (hf1 : fuel ≤ 4194304) (hI : I (mach0 p.secret.length arena fuel))
    (hI1 : ∀ m, I m → m.Ok ∧ m.v.length = p.secret.length) (hI2 : ∀ m n, I m → 0 ≤ n → n ≤ m.fuel - m.steps → I { m with steps := m.steps + n })
    (hst : ∀ b ∈ p.blocks, ∀ o ∈ b.ops, ∀ W S m, w.heap.size ≤ W.heap.size → MachAt W w.heap.size S m → I m → Calls Tryz.prog (fnOf o.kind.toNat) #[.pointer (some ⟨S.M, 0, none⟩), o.val] W (Post W w.heap.size S (st m o)))
    (hgo : ∀ b ∈ p.blocks, ∀ o ∈ b.ops, ∀ m m', I m → st m o = .go m' → I m' ∧ m'.steps = m.steps ∧ m'.fuel = m.fuel)
    (hR : runs st p.blocks (fuel.toNat + 1) (mach0 p.secret.length arena fuel) 0 = (R, 0)) (hRh : R.handed = []) :
    Calls Tryz.prog 19 #[L.val p, inV0, .int .i64 arena, .int .i64 fuel] w fun e w' => ∃ tv, e = .returned (.tuple #[outV R (.slice none 0 0) tv, .int .i64 0]) ∧ w'.ownsRow w.heap.size 46 1 tv R.told.length (R.told.map (.int .u64)) ∧ Ext w w' := by
  have hns : p.secret.length ≤ 4096 := by
    simp only [irOk, Bool.and_eq_true, decide_eq_true_eq] at hok
    omega
  have hmk := make_u64 p.secret.length (by omega)
  have hck : Hid (checkE p = 0) := Lib.hid (by simp [checkE, hok])
  have hpx := hp
  have HX := Lib.hid hfn
  have HY := Lib.hid hsm
  have HZ := Lib.hid h0
  have Hok := Lib.hid hok
  have HI := Lib.hid hI
  have HI1 := Lib.hid hI1
  have HI2 := Lib.hid hI2
  have Hst := Lib.hid hst
  have Hgo := Lib.hid hgo
  have HR := Lib.hid hR
  have HRh := Lib.hid hRh
  clear hfn hsm h0 hok hI hI1 hI2 hst hgo hR hRh
  have hE0 : Ext w (((w.alloc (L.box p)).alloc (.cells #[.slice none 0 0, .slice none 0 0] 43)).alloc (.cells #[.int .u8 0, .int .i64 0, .int .u64 0, .slice none 0 0, .slice none 0 0, .int .i64 0] 48)) := (((Ext.refl w).alloc _).alloc _).alloc _
  have hK0 : (((w.alloc (L.box p)).alloc (.cells #[.slice none 0 0, .slice none 0 0] 43)).alloc (.cells #[.int .u8 0, .int .i64 0, .int .u64 0, .slice none 0 0, .slice none 0 0, .int .i64 0] 48)).heap[w.heap.size]? = some (L.box p) := heap_alloc_was (heap_alloc_was (heap_alloc_self _ _) _) _
  have hK1 : (((w.alloc (L.box p)).alloc (.cells #[.slice none 0 0, .slice none 0 0] 43)).alloc (.cells #[.int .u8 0, .int .i64 0, .int .u64 0, .slice none 0 0, .slice none 0 0, .int .i64 0] 48)).heap[w.heap.size + 1]? = some (.cells #[.slice none 0 0, .slice none 0 0] 43 (0, 0)) := heap_alloc_was (heap_alloc_at _ _ (by simp)) _
  have hK2 : (((w.alloc (L.box p)).alloc (.cells #[.slice none 0 0, .slice none 0 0] 43)).alloc (.cells #[.int .u8 0, .int .i64 0, .int .u64 0, .slice none 0 0, .slice none 0 0, .int .i64 0] 48)).heap[w.heap.size + 1 + 1]? = some (.cells #[.int .u8 0, .int .i64 0, .int .u64 0, .slice none 0 0, .slice none 0 0, .int .i64 0] 48 (0, 0)) := heap_alloc_at _ _ (by simp)
  go_enter Tryz.func19, Tryz.ntmps19
  go_upto_region 1 with fail
  generalize ((w.alloc (L.box p)).alloc (.cells #[.slice none 0 0, .slice none 0 0] 43)).alloc (.cells #[.int .u8 0, .int .i64 0, .int .u64 0, .slice none 0 0, .slice none 0 0, .int .i64 0] 48) = W0 at hE0 hK0 hK1 hK2 ⊢
  have b0 := box_cell hK0
  have b1 := box_cell hK1
  have l0 := (Array.getElem?_eq_some_iff.1 hK0).1
  have l1 := (Array.getElem?_eq_some_iff.1 hK1).1
  have hX := Ext.refl W0
  go_upto_region 3 with (first
    | (go_at_call 11; refine (check_calls L p _ (hp.ext (hE0.trans hX)) (by rw [HZ.out]; simp) HX.out HY.out).mono ?_; rw [hck.out]; rintro e w1 ⟨rfl, hb⟩; replace hX := hX.trans hb; clear hb; obtain ⟨hc1, hf1⟩ := hX.cells)
    | (go_at_call 39; refine (fits0_calls L p _ HZ.out).mono ?_; rintro e w2 ⟨rfl, hb⟩; replace hX := hX.trans hb; clear hb; clear hc1 hf1; obtain ⟨hc1, hf1⟩ := hX.cells))
  have c0 := box_cell (hX.heap hK0)
  have c1 := box_cell (hX.heap hK1)
  have l0' := Nat.lt_of_lt_of_le l0 hX.size
  have l1' := Nat.lt_of_lt_of_le l1 hX.size
  have hlw : w.heap.size ≤ w2.heap.size := by omega
  clear b0 b1 hc1 hf1
  go_upto_region 4 with fail
  have hM := mach0_at (w2 := w2) (base := w.heap.size) hlw p.secret.length (by omega) arena fuel
  have hX3 : Ext W0 ((w2.alloc (.cells (Array.replicate p.secret.length (.int .u64 0)) 46)).alloc (mach0Cells w2.heap.size p.secret.length arena fuel)) := (hX.alloc _).alloc _
  generalize (w2.alloc (.cells (Array.replicate p.secret.length (.int .u64 0)) 46)).alloc (mach0Cells w2.heap.size p.secret.length arena fuel) = W3 at hM hX3 ⊢
  have HRR : Hid (runs st p.blocks (((mach0 p.secret.length arena fuel).fuel - (mach0 p.secret.length arena fuel).steps).toNat + 1) (mach0 p.secret.length arena fuel) 0 = (R, 0)) := Lib.hid (by
    have e : (mach0 p.secret.length arena fuel).fuel - (mach0 p.secret.length arena fuel).steps = fuel := by simp [mach0]
    rw [e]; exact HR.out)
  have l2 := (Array.getElem?_eq_some_iff.1 hK2).1
  have hn2 : w.heap.size + 1 + 1 ∉ (spot0 w2.heap.size).blocks := by
    have := hX.size
    simp [Spot.blocks, Spot.own, Value.ownBlock]
    omega
  have hk2 := hX3.heap hK2
  have hEw := hE0.trans hX3
  have d0 := box_cell (hX3.heap hK0)
  have d1 := box_cell (hX3.heap hK1)
  have e0 := Nat.lt_of_lt_of_le l0 hX3.size
  have e1 := Nat.lt_of_lt_of_le l1 hX3.size
  clear c0 c1 l0' l1'
  go_upto_region 6 with (first
    | (go_at_call 40; refine (hand0_calls L p _ _ HZ.out).mono ?_; rintro e w3 ⟨rfl, hb⟩; replace hM := hM.ext hb; replace hEw := hEw.trans hb; replace hk2 := hb.heap hk2; replace d0 := box_cell (hb.heap (hX3.heap hK0)); replace e0 := Nat.lt_of_lt_of_le e0 hb.size)
    | (go_at_call 41; refine (goes_calls st I L p w _ (spot0 w2.heap.size) (mach0 p.secret.length arena fuel) hp hEw hM HI.out Hok.out HI1.out HI2.out Hst.out Hgo.out).mono ?_; rw [HRR.out]; rintro e w4 ⟨rfl, S4, hM4, hT4⟩))
  have HSM : S4.M = w2.heap.size + 1 := hT4.M
  have hk4 := hT4.heap hk2 hn2
  have hEf : Ext w w4 := hEw.turn hM hT4
  have hse : S4.hs = [] := by
    have := hM4.hm
    rw [HRh.out] at this
    exact List.map_eq_nil_iff.1 this
  have hhv : ∃ q c, S4.hv = .slice q 0 c := by
    have := hM4.hh
    rw [hse] at this
    exact own_form this
  obtain ⟨hq, hc, ehv⟩ := hhv
  obtain ⟨tq, tc, etv⟩ := own_form hM4.th
  have m0 := hM4.m_cell
  rw [HSM] at m0
  have ml : w2.heap.size + 1 < w4.heap.size := HSM ▸ hM4.lt _ S4.M_mem
  have hth := hM4.th
  simp only [machCells, ehv, etv] at m0
  rw [etv] at hth
  have r4 := box_cell hk4
  have rf4 := fun i => (by simp [World.frozen?, hk4] : w4.frozen? ⟨w.heap.size + 1 + 1, i, none⟩ = false)
  have rl4 := (Array.getElem?_eq_some_iff.1 hk4).1
  clear HSM hse ehv etv d0 d1 e0 e1
  go_wp2
  refine wp_loop_rounds 1 ?_
  rw [rounds_succ]
  go_wp2
  have s1 := setCell_heap hk4 0 (.int .u8 R.fin)
  have s2 := setCell_heap s1 1 (.int .i64 R.trap)
  have s3 := setCell_heap s2 2 (.int .u64 R.ret)
  have s4 := setCell_heap s3 3 (.slice none 0 0)
  have s5 := setCell_heap s4 4 (.slice tq R.told.length tc)
  have s6 := setCell_heap s5 5 (.int .i64 R.steps)
  have o1 := hth.kept (only_set w4 (w.heap.size + 1 + 1) 0 (.int .u8 R.fin)) (own_ne_blk hth hk4 (by decide))
  have o2 := o1.kept (only_set _ (w.heap.size + 1 + 1) 1 (.int .i64 R.trap)) (own_ne_blk o1 s1 (by decide))
  have o3 := o2.kept (only_set _ (w.heap.size + 1 + 1) 2 (.int .u64 R.ret)) (own_ne_blk o2 s2 (by decide))
  have o4 := o3.kept (only_set _ (w.heap.size + 1 + 1) 3 (.slice none 0 0)) (own_ne_blk o3 s3 (by decide))
  have o5 := o4.kept (only_set _ (w.heap.size + 1 + 1) 4 (.slice tq R.told.length tc)) (own_ne_blk o4 s4 (by decide))
  have o6 := o5.kept (only_set _ (w.heap.size + 1 + 1) 5 (.int .i64 R.steps)) (own_ne_blk o5 s5 (by decide))
  have le2 : w.heap.size ≤ w.heap.size + 1 + 1 := by omega
  have hE6 := (((((hEf.set le2 0 (.int .u8 R.fin)).set le2 1 (.int .i64 R.trap)).set le2 2 (.int .u64 R.ret)).set le2 3 (.slice none 0 0)).set le2 4 (.slice tq R.told.length tc)).set le2 5 (.int .i64 R.steps)
  clear o1 o2 o3 o4 o5 s1 s2 s3 s4 s5 r4 rf4 hEf hk4
  generalize (((((w4.setCell ⟨w.heap.size + 1 + 1, 0, none⟩ (.int .u8 R.fin)).setCell ⟨w.heap.size + 1 + 1, 1, none⟩ (.int .i64 R.trap)).setCell ⟨w.heap.size + 1 + 1, 2, none⟩ (.int .u64 R.ret)).setCell ⟨w.heap.size + 1 + 1, 3, none⟩ (.slice none 0 0)).setCell ⟨w.heap.size + 1 + 1, 4, none⟩ (.slice tq R.told.length tc)).setCell ⟨w.heap.size + 1 + 1, 5, none⟩ (.int .i64 R.steps) = Wf at o6 s6 hE6 ⊢
  have z := box_cell s6
  have z0 := z 0
  have z1 := z 1
  have z2 := z 2
  have z3 := z 3
  have z4 := z 4
  have z5 := z 5
  simp at z0 z1 z2 z3 z4 z5
  exact bodyPost_ret (v := .tuple #[outV R (.slice none 0 0) (.slice tq R.told.length tc), .int .i64 0]) (by simp [results, Tryz.results19, go_sem, z0, z1, z2, z3, z4, z5]) rfl ⟨.slice tq R.told.length tc, rfl, o6, hE6⟩
end Go.Proofs.YtggjcjdjhgfbmaaGreat
