/- The walk of the statement IrChecks. Conditions: what the row's reading gives of every argument. -/
import Derived.Test.YtggjcjdjhgfbmaaGreatAlive2
import Derived.Test.YtggjcjdjhgfbmaaGreatRf6
import Derived.Test.YtggjcjdjhgfbmaaGreatRf8
namespace Go.Proofs.YtggjcjdjhgfbmaaGreat
open Go.RowKit Go.BigFrame

theorem sum_ge {l : List LBlock} {b : LBlock} (h : b ∈ l) : b.ops.length ≤ opsSum l := by
  induction l with
  | nil => cases h
  | cons c l ih =>
    have e : opsSum (c :: l) = c.ops.length + opsSum l := by simp [opsSum]
    rcases List.mem_cons.1 h with rfl | h
    · omega
    · have := ih h; omega
theorem not_large {p : LIr} (h : large p = false) : p.secret.length ≤ 800 ∧ p.params.length ≤ 60 ∧ p.blocks.length ≤ 500 ∧ ∀ b ∈ p.blocks, b.ops.length ≤ 3000 := by
  simp only [large, Bool.or_eq_false_iff, decide_eq_false_iff_not] at h
  obtain ⟨⟨⟨h1, h2⟩, h3⟩, h4⟩ := h
  refine ⟨by omega, by omega, by omega, fun b hb => ?_⟩
  rw [List.take_of_length_le (by omega)] at h4
  have := sum_ge hb
  omega

set_option maxRecDepth 100000 in
set_option maxHeartbeats 8000000 in
theorem irChecks_calls (L : Lay) (p : LIr) (w : World) (hp : IrAt w L p) (hb : ∀ b ∈ p.blocks, b.ops.length ≤ 140737488355328) (hfn : ∀ b ∈ p.blocks, ∀ o ∈ b.ops, 0 ≤ o.fn) :
    Calls Tryz.prog 3 #[L.val p] w fun e w' => e = .returned (.bool true) ∧ Ext w w' := by
  have hE0 := Ext.alloc (Ext.refl w) (L.box p)
  have hP := heap_alloc_self w (L.box p)
  have Hb := Lib.hid hb
  have Hfn := Lib.hid hfn
  have Hp := Lib.hid hp
  clear hb hfn hp
  cases hlg : large p with
  | true =>
    have Hlg := Lib.hid hlg
    clear hlg
    go_enter Tryz.func3, Tryz.ntmps3
    go_upto_region 1 with fail
    generalize w.alloc (L.box p) = W0 at hE0 hP ⊢
    have b0 := box_cell hP
    have bl := (Array.getElem?_eq_some_iff.1 hP).1
    go_wp2_with fail
    refine (large_calls L p _ (Hp.out.ext hE0) Hb.out).mono ?_; rw [Hlg.out]; rintro e w1 ⟨rfl, hx1⟩
    go_wp2_with fail
    refine (alive18_calls _).mono ?_; rintro e w2 ⟨rfl, hx2⟩
    go_wp2_with fail
    go_ret
    exact ⟨rfl, (hE0.trans hx1).trans hx2⟩
  | false =>
    have Hlg := Lib.hid hlg
    have Hs := Lib.hid (not_large hlg)
    clear hlg
    go_enter Tryz.func3, Tryz.ntmps3
    go_upto_region 1 with fail
    generalize w.alloc (L.box p) = W0 at hE0 hP ⊢
    have b0 := box_cell hP
    have bl := (Array.getElem?_eq_some_iff.1 hP).1
    go_wp2_with fail
    refine (large_calls L p _ (Hp.out.ext hE0) Hb.out).mono ?_; rw [Hlg.out]; rintro e w1 ⟨rfl, hx1⟩
    clear b0 bl
    have b0 := box_cell (hx1.heap hP)
    have bl := (Array.getElem?_eq_some_iff.1 (hx1.heap hP)).1
    go_wp2_with fail
    have hE1 := hE0.trans hx1
    refine (copy_calls L p _ (Hp.out.ext hE1) (by have := Hs.out.1; omega) (by have := Hs.out.2.1; omega) (by have := Hs.out.2.2.1; omega) (fun b hm => Nat.le_trans (Hs.out.2.2.2 b hm) (by omega))).mono ?_
    rintro e w2 ⟨⟨mA, mc, nA, nc, rA, rc⟩, ms, rfl, hown, hx2⟩
    go_upto_region 4 with fail
    have hX3 : Ext w1 (w2.alloc (Lay.box ⟨mA, mc, nA, nc, rA, rc⟩ p)) := hx2.alloc _
    have hQ := heap_alloc_self w2 (Lay.box ⟨mA, mc, nA, nc, rA, rc⟩ p)
    have hq := hown.at.ext (below_alloc1 (Lay.box ⟨mA, mc, nA, nc, rA, rc⟩ p))
    generalize w2.alloc (Lay.box ⟨mA, mc, nA, nc, rA, rc⟩ p) = W3 at hX3 hQ hq ⊢
    clear b0 bl
    have hP3 := hX3.heap (hx1.heap hP)
    have b0 := box_cell hP3
    have bl := (Array.getElem?_eq_some_iff.1 hP3).1
    have c0 := box_cell hQ
    have cl := (Array.getElem?_eq_some_iff.1 hQ).1
    have hE3 := hE1.trans hX3
    have hE := Ext.refl W3
    obtain ⟨hc, hf⟩ := hE.cells
    cases hok : irOk p
    all_goals
      have Hok := Lib.hid hok
      have Hck : Hid (checkE p = if irOk p then 0 else 2) := Lib.hid rfl
      clear hok
      go_wp2_with fail
      refine (check_calls ⟨mA, mc, nA, nc, rA, rc⟩ p _ (hq.ext hE) (by have := Hs.out.2.1; omega) Hfn.out (fun b hm => Nat.le_trans (Hs.out.2.2.2 b hm) (by omega))).mono ?_; rw [Hck.out, Hok.out]; rintro e w4 ⟨rfl, hx4⟩; replace hE := hE.trans hx4; clear hx4; clear hc hf; obtain ⟨hc, hf⟩ := hE.cells
      go_wp2_with fail
      refine (may_calls L p _ (Hp.out.ext (hE3.trans hE)) (by have := Hs.out.2.1; omega) (fun b hm => Nat.le_trans (Hs.out.2.2.2 b hm) (by omega))).mono ?_; rw [Hok.out]; rintro e w5 ⟨rfl, hx5⟩; replace hE := hE.trans hx5; clear hx5; clear hc hf; obtain ⟨hc, hf⟩ := hE.cells
      go_wp2_with fail
      refine (same_calls ⟨mA, mc, nA, nc, rA, rc⟩ L p _ (hq.ext hE) (Hp.out.ext (hE3.trans hE))).mono ?_; rintro e w6 ⟨rfl, hx6⟩; replace hE := hE.trans hx6; clear hx6; clear hc hf; obtain ⟨hc, hf⟩ := hE.cells
      go_wp2_with fail
      refine (alive18_calls _).mono ?_; rintro e w7 ⟨rfl, hx7⟩; replace hE := hE.trans hx7; clear hx7; clear hc hf
      go_wp2_with fail
      go_ret
      exact ⟨rfl, hE3.trans hE⟩
end Go.Proofs.YtggjcjdjhgfbmaaGreat
