/- The document's own answer for which programs are the same: the walk of Same at one program, as it lies at two places. Conditions: none. -/
import Derived.Test.YtggjcjdjhgfbmaaGreatRf7
namespace Go.Proofs.YtggjcjdjhgfbmaaGreat
open Go.RowKit Go.BigFrame

theorem rowV_at {w : World} {A : Option Addr} {s : List Bool} (h : RowV w A (s.map .bool)) (k : Nat) (hk : k < s.length) : ∃ bb off, A = some ⟨bb, off, none⟩ ∧ bb < w.heap.size ∧ w.cell? ⟨bb, off + k, none⟩ = some (.bool s[k]) := by
  obtain ⟨bb, off, e, hb, hc⟩ := h.2 k (by simpa using hk)
  exact ⟨bb, off, e, hb, by simpa using hc⟩

set_option maxRecDepth 100000 in
set_option maxHeartbeats 8000000 in
theorem same_calls (L M : Lay) (p : LIr) (w : World) (hp : IrAt w L p) (hq : IrAt w M p) :
    Calls Tryz.prog 13 #[L.val p, M.val p] w fun e w' => e = .returned (.bool true) ∧ Ext w w' := by
  have hn := hp.ns
  have hpl := hp.rp.1
  have hbl := hp.rb.1
  have hE0 := (Ext.alloc (Ext.refl w) (L.box p)).alloc (M.box p)
  have hP : ((w.alloc (L.box p)).alloc (M.box p)).heap[w.heap.size]? = some (L.box p) := heap_alloc_was (heap_alloc_self w (L.box p)) _
  have hQ : ((w.alloc (L.box p)).alloc (M.box p)).heap[w.heap.size + 1]? = some (M.box p) := heap_alloc_at _ _ (by simp)
  have hpx := hp.ext hE0
  have hqx := hq.ext hE0
  have nh : ∀ (a : LHd) (w : World), (binOp .neq 61 (.agg #[.bool a.buf, .bool a.sec, .bool a.tur, .int .i64 a.d, .int .i64 a.len]) (.agg #[.bool a.buf, .bool a.sec, .bool a.tur, .int .i64 a.d, .int .i64 a.len])).run Tryz.prog w = .ok (.bool false) w := fun a w => by
    have := neq_hd a a w
    simpa using this
  have no : ∀ (a : LOp) (w : World), (binOp .neq 54 (.agg #[.int .u8 a.kind, .int .u8 a.fn, .int .i64 a.d, .int .i64 a.a, .int .i64 a.b, .int .u64 a.imm]) (.agg #[.int .u8 a.kind, .int .u8 a.fn, .int .i64 a.d, .int .i64 a.a, .int .i64 a.b, .int .u64 a.imm])).run Tryz.prog w = .ok (.bool false) w := fun a w => by
    have := neq_op a a w
    simpa using this
  have gh : ∀ (x y : Operand) (xs ys : Array Value) (w : World), (eqGuard .neq 61 x y (.agg xs) (.agg ys)).run Tryz.prog w = .ok () w := fun x y xs ys w => run_eqGuard_agg w _ _ _ _ _ _ (by kernel_rfl)
  have go' : ∀ (x y : Operand) (xs ys : Array Value) (w : World), (eqGuard .neq 54 x y (.agg xs) (.agg ys)).run Tryz.prog w = .ok () w := fun x y xs ys w => run_eqGuard_agg w _ _ _ _ _ _ (by kernel_rfl)
  obtain ⟨sA, sc, pA, pc, bA, bc⟩ := L
  obtain ⟨sA', sc', pA', pc', bA', bc'⟩ := M
  go_enter Tryz.func13, Tryz.ntmps13
  go_upto_region 1 with fail
  generalize hW : (w.alloc (Lay.box ⟨sA, sc, pA, pc, bA, bc⟩ p)).alloc (Lay.box ⟨sA', sc', pA', pc', bA', bc'⟩ p) = W0 at hpx hqx hP hQ hE0 ⊢
  have hz : w.heap.size < W0.heap.size := (Array.getElem?_eq_some_iff.1 hP).1
  have hz1 : w.heap.size + 1 < W0.heap.size := (Array.getElem?_eq_some_iff.1 hQ).1
  clear hW
  have b0 := box_cell hP
  have b1 := box_cell hQ
  dsimp only at b0 b1
  go_wp2
  go_loopw [5] (fun i wr => ∃ k : Nat, k ≤ p.secret.length ∧ i = .int .i64 k ∧ Ext W0 wr) (fun i _ => p.secret.length - (intOf i).toNat)
  case atStart => exact ⟨0, Nat.zero_le _, rfl, Ext.refl _⟩
  case round =>
    obtain ⟨k, hk, rfl, hE⟩ := hrel
    obtain ⟨hc, hf⟩ := hE.cells
    by_cases hlt : k < p.secret.length
    · obtain ⟨bb, off, rfl, hb1, hc1⟩ := rowV_at hpx.rs k hlt
      obtain ⟨bb', off', rfl, hb2, hc2⟩ := rowV_at hqx.rs k hlt
      generalize p.secret[k] = v at hc1 hc2
      have hlt' : (k : Int) < (p.secret.length : Int) := by omega
      have h0' : (0 : Int) ≤ (k : Int) := by omega
      go_wp2
      go_quiet (fail)
      go_wp2
      go_roundw
      case rel => exact ⟨k + 1, hlt, by go_num, hE.drewN _⟩
      case measure => simp [intOf]; omega
    · obtain ⟨wo, rfl⟩ : ∃ wo : World, wo = wr := ⟨_, rfl⟩
      go_wp2
      go_loopw [6] (fun i wr => ∃ k : Nat, k ≤ p.params.length ∧ i = .int .i64 k ∧ Ext W0 wr) (fun i _ => p.params.length - (intOf i).toNat)
      case atStart => exact ⟨0, Nat.zero_le _, rfl, hE⟩
      case round =>
        clear hc hf hE
        obtain ⟨k2, hk2, rfl, hE⟩ := hrel
        obtain ⟨hc, hf⟩ := hE.cells
        by_cases hlt : k2 < p.params.length
        · obtain ⟨bb, off, rfl, hb1, p0, p1, p2, p3, p4⟩ := hpx.rp.2 k2 hlt
          obtain ⟨bb', off', rfl, hb2, q0, q1, q2, q3, q4⟩ := hqx.rp.2 k2 hlt
          generalize p.params[k2] = v at *
          have hlt' : (k2 : Int) < (p.params.length : Int) := by omega
          have h0' : (0 : Int) ≤ (k2 : Int) := by omega
          have nv := nh v
          go_wp2
          go_quiet (fail)
          go_wp2
          go_roundw
          case rel => exact ⟨k2 + 1, hlt, by go_num, hE.drewN _⟩
          case measure => simp [intOf]; omega
        · obtain ⟨wo, rfl⟩ : ∃ wo : World, wo = wr := ⟨_, rfl⟩
          go_wp2
          go_loopw [7] (fun i wr => ∃ k : Nat, k ≤ p.blocks.length ∧ i = .int .i64 k ∧ Ext W0 wr) (fun i _ => p.blocks.length - (intOf i).toNat)
          case atStart => exact ⟨0, Nat.zero_le _, rfl, hE⟩
          case round =>
            clear hc hf hE
            obtain ⟨k3, hk3, rfl, hE⟩ := hrel
            obtain ⟨hc, hf⟩ := hE.cells
            by_cases hlt : k3 < p.blocks.length
            · obtain ⟨bb, off, A, c, rfl, hb1, ⟨p0, p1, p2, p3, p4⟩, hcl, hrow⟩ := hpx.rb.2 k3 hlt
              obtain ⟨bb', off', A', c', rfl, hb2, ⟨q0, q1, q2, q3, q4⟩, hcl', hrow'⟩ := hqx.rb.2 k3 hlt
              generalize p.blocks[k3] = v at *
              have hlt' : (k3 : Int) < (p.blocks.length : Int) := by omega
              have h0' : (0 : Int) ≤ (k3 : Int) := by omega
              have hop := hrow.1
              have H1 := Lib.hid hrow
              have H2 := Lib.hid hrow'
              clear hrow hrow'
              have s0 := (hc w.heap.size 2 hz).trans (b0 2)
              have s1 := (hc (w.heap.size + 1) 2 hz1).trans (b1 2)
              simp at s0 s1
              replace p0 := (hc bb _ hb1).trans p0
              replace p1 := (hc bb _ hb1).trans p1
              replace p2 := (hc bb _ hb1).trans p2
              replace p3 := (hc bb _ hb1).trans p3
              replace p4 := (hc bb _ hb1).trans p4
              replace q0 := (hc bb' _ hb2).trans q0
              replace q1 := (hc bb' _ hb2).trans q1
              replace q2 := (hc bb' _ hb2).trans q2
              replace q3 := (hc bb' _ hb2).trans q3
              replace q4 := (hc bb' _ hb2).trans q4
              have hbr := Nat.lt_of_lt_of_le hb1 hE.size
              have hbr' := Nat.lt_of_lt_of_le hb2 hE.size
              have hzr := Nat.lt_of_lt_of_le hz hE.size
              have hzr1 := Nat.lt_of_lt_of_le hz1 hE.size
              go_upto_region 16 with fail
              clear hc hf b0 b1
              go_cut [8, 9] (fun x y wx => ∃ g1 g2 : Nat, x = .pointer (some ⟨g1, 0, none⟩) ∧ y = .pointer (some ⟨g2, 0, none⟩) ∧ wx.heap[g1]? = some (v.box A c) ∧ wx.heap[g2]? = some (v.box A' c') ∧ Ext W0 wx)
              case first =>
                go_region_held3 (fun W => W.cell? ⟨w.heap.size, 2, none⟩ = some (.slice (some ⟨bb, off, none⟩) p.blocks.length bc) ∧ W.cell? ⟨w.heap.size + 1, 2, none⟩ = some (.slice (some ⟨bb', off', none⟩) p.blocks.length bc') ∧ W.cell? ⟨bb, off + k3 * 5, none⟩ = some (.slice A v.ops.length c) ∧ W.cell? ⟨bb, off + k3 * 5 + 1, none⟩ = some (.int .u8 v.fin) ∧ W.cell? ⟨bb, off + k3 * 5 + 2, none⟩ = some (.int .i64 v.a) ∧ W.cell? ⟨bb, off + k3 * 5 + 3, none⟩ = some (.int .i64 v.to) ∧ W.cell? ⟨bb, off + k3 * 5 + 4, none⟩ = some (.int .i64 v.els) ∧ W.cell? ⟨bb', off' + k3 * 5, none⟩ = some (.slice A' v.ops.length c') ∧ W.cell? ⟨bb', off' + k3 * 5 + 1, none⟩ = some (.int .u8 v.fin) ∧ W.cell? ⟨bb', off' + k3 * 5 + 2, none⟩ = some (.int .i64 v.a) ∧ W.cell? ⟨bb', off' + k3 * 5 + 3, none⟩ = some (.int .i64 v.to) ∧ W.cell? ⟨bb', off' + k3 * 5 + 4, none⟩ = some (.int .i64 v.els)) (go_keep) (fail)
                all_goals
                  go_wp2_with fail
                  go_meet
                  refine ⟨_, _, rfl, rfl, ?_, ?_, ((hE.alloc _).alloc _).drew⟩
                  · first | exact heap_alloc_was (heap_alloc_self _ _) _ | exact heap_alloc_at _ _ (by simp)
                  · first | exact heap_alloc_at _ _ (by simp) | exact heap_alloc_was (heap_alloc_self _ _) _
              case rest =>
                obtain ⟨g1, g2, rfl, rfl, hg1, hg2, hX⟩ := hcut
                clear s0 s1 p0 p1 p2 p3 p4 q0 q1 q2 q3 q4 hE
                have r1 := box_cell hg1
                have r2 := box_cell hg2
                have rl1 := (Array.getElem?_eq_some_iff.1 hg1).1
                have rl2 := (Array.getElem?_eq_some_iff.1 hg2).1
                obtain ⟨wo, rfl⟩ : ∃ wo : World, wo = wc := ⟨_, rfl⟩
                go_wp2
                go_loopw [10] (fun i wr => ∃ k : Nat, k ≤ v.ops.length ∧ i = .int .i64 k ∧ Ext wo wr) (fun i _ => v.ops.length - (intOf i).toNat)
                case atStart => exact ⟨0, Nat.zero_le _, rfl, Ext.refl _⟩
                case round =>
                  obtain ⟨k4, hk4, rfl, hY⟩ := hrel
                  obtain ⟨hc, hf⟩ := hY.cells
                  by_cases hlo : k4 < v.ops.length
                  · obtain ⟨ob, oo, rfl, hob, o0, o1, o2, o3, o4, o5⟩ := (H1.out.ext hX).2 k4 hlo
                    obtain ⟨ob', oo', rfl, hob', t0, t1, t2, t3, t4, t5⟩ := (H2.out.ext hX).2 k4 hlo
                    have nv := no v.ops[k4]
                    generalize v.ops[k4] = x at *
                    have hlo' : (k4 : Int) < (v.ops.length : Int) := by omega
                    have h0'' : (0 : Int) ≤ (k4 : Int) := by omega
                    go_wp2
                    go_quiet (fail)
                    go_wp2
                    go_roundw
                    case rel => exact ⟨k4 + 1, hlo, by go_num, hY.drewN _⟩
                    case measure => simp [intOf]; omega
                  · go_wp2
                    go_roundw
                    case rel => exact ⟨k3 + 1, hlt, by go_num, hX.trans hY⟩
                    case measure => simp [intOf]; omega
            · go_wp2
              go_ret
              exact ⟨rfl, hE0.trans hE⟩
end Go.Proofs.YtggjcjdjhgfbmaaGreat
