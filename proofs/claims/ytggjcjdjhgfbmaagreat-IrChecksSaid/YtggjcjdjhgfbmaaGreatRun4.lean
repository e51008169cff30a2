/- Two outcomes without rows; a run that is refused; a row of one step is turned. Conditions: none. -/
import Derived.Test.YtggjcjdjhgfbmaaGreatRun3
namespace Go.Proofs.YtggjcjdjhgfbmaaGreat
open Go.RowKit Go.BigFrame

theorem sameTexts0 (w : World) : Calls Tryz.prog 42 #[.slice none 0 0, .slice none 0 0] w fun e w' => e = .returned (.bool true) ∧ w' = w := by
  go_enter Tryz.func42, Tryz.ntmps42
  go_wp2
  refine wp_loop_rounds 1 ?_
  rw [rounds_succ]
  go_wp2
  go_ret
  exact ⟨rfl, rfl⟩
theorem sameNums0 (q : Option Addr) (c : Nat) (w : World) : Calls Tryz.prog 43 #[.slice q 0 c, .slice none 0 0] w fun e w' => e = .returned (.bool true) ∧ w' = w := by
  go_enter Tryz.func43, Tryz.ntmps43
  go_wp2
  refine wp_loop_rounds 1 ?_
  rw [rounds_succ]
  go_wp2
  go_ret
  exact ⟨rfl, rfl⟩
abbrev outL (a b c d : Int) (tv : Value) : Value := .agg #[.int .u8 a, .int .i64 b, .int .u64 c, .slice none 0 0, tv, .int .i64 d]
set_option maxRecDepth 100000 in
set_option maxHeartbeats 2000000 in
theorem sameOut0 (a b c d : Int) (q : Option Addr) (n : Nat) (w : World) : Calls Tryz.prog 20 #[outL a b c d (.slice q 0 n), outL a b c d (.slice none 0 0)] w fun e w' => e = .returned (.bool true) ∧ Ext w w' := by
  have hE0 : Ext w ((w.alloc (.cells #[.int .u8 a, .int .i64 b, .int .u64 c, .slice none 0 0, .slice q 0 n, .int .i64 d] 48)).alloc (.cells #[.int .u8 a, .int .i64 b, .int .u64 c, .slice none 0 0, .slice none 0 0, .int .i64 d] 48)) := ((Ext.refl w).alloc _).alloc _
  go_enter Tryz.func20, Tryz.ntmps20
  go_wp2_with (first
    | (go_at_call 42; refine (sameTexts0 _).mono ?_; rintro e w1 ⟨rfl, rfl⟩)
    | (go_at_call 43; refine (sameNums0 _ _ _).mono ?_; rintro e w1 ⟨rfl, rfl⟩))
  go_ret
  exact ⟨rfl, hE0⟩

set_option maxRecDepth 100000 in
set_option maxHeartbeats 4000000 in
theorem runNeg_calls (L : Lay) (p : LIr) (w : World) (hp : IrAt w L p) (h0 : p.params = []) (hok : irOk p = true) (hfn : ∀ b ∈ p.blocks, ∀ o ∈ b.ops, 0 ≤ o.fn) (hsm : ∀ b ∈ p.blocks, b.ops.length ≤ 1000000) :
    Calls Tryz.prog 19 #[L.val p, inV0, .int .i64 0, .int .i64 (-1)] w fun e w' => e = .returned (.tuple #[outL 0 0 0 0 (.slice none 0 0), .int .i64 2]) ∧ Ext w w' := by
  have hck : Hid (checkE p = 0) := Lib.hid (by simp [checkE, hok])
  have HX := Lib.hid hfn
  have HY := Lib.hid hsm
  have HZ := Lib.hid h0
  clear hfn hsm h0 hok
  have hE0 : Ext w (((w.alloc (L.box p)).alloc (.cells #[.slice none 0 0, .slice none 0 0] 43)).alloc (.cells #[.int .u8 0, .int .i64 0, .int .u64 0, .slice none 0 0, .slice none 0 0, .int .i64 0] 48)) := (((Ext.refl w).alloc _).alloc _).alloc _
  have hK0 : (((w.alloc (L.box p)).alloc (.cells #[.slice none 0 0, .slice none 0 0] 43)).alloc (.cells #[.int .u8 0, .int .i64 0, .int .u64 0, .slice none 0 0, .slice none 0 0, .int .i64 0] 48)).heap[w.heap.size]? = some (L.box p) := heap_alloc_was (heap_alloc_was (heap_alloc_self _ _) _) _
  have hK1 : (((w.alloc (L.box p)).alloc (.cells #[.slice none 0 0, .slice none 0 0] 43)).alloc (.cells #[.int .u8 0, .int .i64 0, .int .u64 0, .slice none 0 0, .slice none 0 0, .int .i64 0] 48)).heap[w.heap.size + 1]? = some (.cells #[.slice none 0 0, .slice none 0 0] 43 (0, 0)) := heap_alloc_was (heap_alloc_at _ _ (by simp)) _
  have hK2 : (((w.alloc (L.box p)).alloc (.cells #[.slice none 0 0, .slice none 0 0] 43)).alloc (.cells #[.int .u8 0, .int .i64 0, .int .u64 0, .slice none 0 0, .slice none 0 0, .int .i64 0] 48)).heap[w.heap.size + 1 + 1]? = some (.cells #[.int .u8 0, .int .i64 0, .int .u64 0, .slice none 0 0, .slice none 0 0, .int .i64 0] 48 (0, 0)) := heap_alloc_at _ _ (by simp)
  go_enter Tryz.func19, Tryz.ntmps19
  go_upto_region 1 with fail
  generalize ((w.alloc (L.box p)).alloc (.cells #[.slice none 0 0, .slice none 0 0] 43)).alloc (.cells #[.int .u8 0, .int .i64 0, .int .u64 0, .slice none 0 0, .slice none 0 0, .int .i64 0] 48) = W0 at hE0 hK0 hK1 hK2 ⊢
  have b0 := box_cell hK0
  have b1 := box_cell hK1
  have l0 := (Array.getElem?_eq_some_iff.1 hK0).1
  have l1 := (Array.getElem?_eq_some_iff.1 hK1).1
  have hX := Ext.refl W0
  go_upto_region 2 with (first
    | (go_at_call 11; refine (check_calls L p _ (hp.ext (hE0.trans hX)) (by rw [HZ.out]; simp) HX.out HY.out).mono ?_; rw [hck.out]; rintro e w1 ⟨rfl, hb⟩; replace hX := hX.trans hb; clear hb; obtain ⟨hc1, hf1⟩ := hX.cells)
    | (go_at_call 39; refine (fits0_calls L p _ HZ.out).mono ?_; rintro e w2 ⟨rfl, hb⟩; replace hX := hX.trans hb; clear hb; clear hc1 hf1; obtain ⟨hc1, hf1⟩ := hX.cells))
  have hk2 := hX.heap hK2
  have r4 := box_cell hk2
  have rf4 := fun i => (by simp [World.frozen?, hk2] : w2.frozen? ⟨w.heap.size + 1 + 1, i, none⟩ = false)
  have rl4 := (Array.getElem?_eq_some_iff.1 hk2).1
  clear hc1 hf1 b0 b1 l0 l1
  go_wp2
  have s1 := setCell_heap hk2 0 (.int .u8 0)
  have s2 := setCell_heap s1 1 (.int .i64 0)
  have s3 := setCell_heap s2 2 (.int .u64 0)
  have s4 := setCell_heap s3 3 (.slice none 0 0)
  have s5 := setCell_heap s4 4 (.slice none 0 0)
  have s6 := setCell_heap s5 5 (.int .i64 0)
  have le2 : w.heap.size ≤ w.heap.size + 1 + 1 := by omega
  have hEf := hE0.trans hX
  have hE6 := (((((hEf.set le2 0 (.int .u8 0)).set le2 1 (.int .i64 0)).set le2 2 (.int .u64 0)).set le2 3 (.slice none 0 0)).set le2 4 (.slice none 0 0)).set le2 5 (.int .i64 0)
  clear s1 s2 s3 s4 s5 r4 rf4 hEf hk2
  generalize (((((w2.setCell ⟨w.heap.size + 1 + 1, 0, none⟩ (.int .u8 0)).setCell ⟨w.heap.size + 1 + 1, 1, none⟩ (.int .i64 0)).setCell ⟨w.heap.size + 1 + 1, 2, none⟩ (.int .u64 0)).setCell ⟨w.heap.size + 1 + 1, 3, none⟩ (.slice none 0 0)).setCell ⟨w.heap.size + 1 + 1, 4, none⟩ (.slice none 0 0)).setCell ⟨w.heap.size + 1 + 1, 5, none⟩ (.int .i64 0) = Wf at s6 hE6 ⊢
  have z := box_cell s6
  have z0 := z 0
  have z1 := z 1
  have z2 := z 2
  have z3 := z 3
  have z4 := z 4
  have z5 := z 5
  simp at z0 z1 z2 z3 z4 z5
  exact bodyPost_ret (v := .tuple #[outL 0 0 0 0 (.slice none 0 0), .int .i64 2]) (by simp [results, Tryz.results19, go_sem, z0, z1, z2, z3, z4, z5]) rfl ⟨rfl, hE6⟩

theorem take6 (cur : Array Value) (h : 6 ≤ cur.size) (v0 v1 v2 v3 v4 v5 : Value) : ((((((cur.setIfInBounds 0 v0).setIfInBounds 1 v1).setIfInBounds 2 v2).setIfInBounds 3 v3).setIfInBounds 4 v4).setIfInBounds 5 v5).toList.take (1 * 6) = [v0, v1, v2, v3, v4, v5] := by
  obtain ⟨l⟩ := cur
  match l, h with
  | a0 :: a1 :: a2 :: a3 :: a4 :: a5 :: l, _ => simp
  | [], h => simp at h
  | [_], h => simp at h
  | [_, _], h => simp at h
  | [_, _, _], h => simp at h
  | [_, _, _, _], h => simp at h
  | [_, _, _, _, _], h => simp at h
abbrev set6 (w : World) (h : Nat) (o : LOp) : World := (((((w.setCell ⟨h, 0, none⟩ (.int .u8 o.kind)).setCell ⟨h, 1, none⟩ (.int .u8 o.fn)).setCell ⟨h, 2, none⟩ (.int .i64 o.d)).setCell ⟨h, 3, none⟩ (.int .i64 o.a)).setCell ⟨h, 4, none⟩ (.int .i64 o.b)).setCell ⟨h, 5, none⟩ (.int .u64 o.imm)
/-- A program of one block of one step: its step is turned. -/
theorem own_turned {w : World} {base : Nat} {M : Lay} {s : List Bool} {b : LBlock} {o : LOp} {ms : List MBl} (h : IrOwn w base M ⟨s, [], [{ b with ops := [o] }]⟩ ms) :
    ∃ g A c k, M.bA = some ⟨g, 0, none⟩ ∧ A = some ⟨k, 0, none⟩ ∧ base ≤ g ∧ base ≤ k ∧ g < w.heap.size ∧ k < w.heap.size ∧ w.cell? ⟨g, 0, none⟩ = some (.slice A 1 c) ∧ (∀ i, i < 6 → ∃ v, w.cell? ⟨k, i, none⟩ = some v) ∧ (∀ i, w.frozen? ⟨k, i, none⟩ = false) ∧ g ≠ k ∧ (∃ cur, w.heap[k]? = some (.cells cur 54 (0, 0))) ∧
      ∀ o' : LOp, ∃ ms', IrOwn (set6 w k o') base M ⟨s, [], [{ b with ops := [o'] }]⟩ ms' := by
  obtain ⟨x, rfl, hxb⟩ : ∃ x, ms = [x] ∧ x.b = { b with ops := [o] } := by
    have e := h.em
    match ms, e with
    | [x], e => simp at e; exact ⟨x, rfl, e⟩
    | [], e => simp at e
    | _ :: _ :: _, e => simp at e
  obtain ⟨xb, xA, xc⟩ := x
  simp only at hxb
  subst hxb
  have hoo := h.oo _ (List.mem_singleton.2 rfl)
  have hob := h.ob
  obtain ⟨g, eg, hg, hgl, hgc, _⟩ := own_cell hob 0 (.slice xA 1 xc) rfl
  rcases hoo.2 with ⟨he, h0⟩ | ⟨k, cap, cur, he, hb, hk, hn, hm, hs, ht⟩
  · simp at h0
  · have he' := he
    injection he with e1 e2 e3
    have hcs : 6 ≤ cur.size := by
      rw [hs]
      simp at hn
      omega
    have hne : g ≠ k := by
      intro e
      subst e
      rcases hob.2 with ⟨he', h0'⟩ | ⟨g', cap', cur', he', hb', hk', _⟩
      · simp at h0'
      · injection he' with f1 f2 f3
        rw [eg] at f1
        injection f1 with f1
        injection f1 with f1
        subst f1
        rw [hk] at hk'
        injection hk' with hk'
        injection hk' with _ hk' _
        cases hk'
    refine ⟨g, xA, xc, k, eg, e1, hg, hb, hgl, (Array.getElem?_eq_some_iff.1 hk).1, hgc, fun i hi => ?_, fun i => by simp [World.frozen?, hk], hne, ⟨cur, hk⟩, fun o' => ?_⟩
    · rw [box_cell hk]
      exact ⟨cur[i]'(by omega), Array.getElem?_eq_getElem (by omega)⟩
    · have s1 := setCell_heap hk 0 (.int .u8 o'.kind)
      have s2 := setCell_heap s1 1 (.int .u8 o'.fn)
      have s3 := setCell_heap s2 2 (.int .i64 o'.d)
      have s4 := setCell_heap s3 3 (.int .i64 o'.a)
      have s5 := setCell_heap s4 4 (.int .i64 o'.b)
      have s6 := setCell_heap s5 5 (.int .u64 o'.imm)
      have key : ∀ {e : TypeId} {size n : Nat} {v : Value} {xs : List Value}, w.ownsRow base e size v n xs → e ≠ 54 → (set6 w k o').ownsRow base e size v n xs := by
        intro e size n v xs hr hne
        have p1 := hr.kept (only_set w k 0 (.int .u8 o'.kind)) (own_ne_blk hr hk hne)
        have p2 := p1.kept (only_set _ k 1 (.int .u8 o'.fn)) (own_ne_blk p1 s1 hne)
        have p3 := p2.kept (only_set _ k 2 (.int .i64 o'.d)) (own_ne_blk p2 s2 hne)
        have p4 := p3.kept (only_set _ k 3 (.int .i64 o'.a)) (own_ne_blk p3 s3 hne)
        have p5 := p4.kept (only_set _ k 4 (.int .i64 o'.b)) (own_ne_blk p4 s4 hne)
        exact p5.kept (only_set _ k 5 (.int .u64 o'.imm)) (own_ne_blk p5 s5 hne)
      refine ⟨[⟨{ b with ops := [o'] }, xA, xc⟩], key h.os (by decide), key h.op (by decide), key hob (by decide), rfl, ?_⟩
      intro y hy
      rw [List.mem_singleton.1 hy]
      exact ⟨rfl, .inr ⟨k, cap, _, he', hb, s6, hn, hm, by simpa using hs, take6 cur hcs _ _ _ _ _ _⟩⟩
end Go.Proofs.YtggjcjdjhgfbmaaGreat
