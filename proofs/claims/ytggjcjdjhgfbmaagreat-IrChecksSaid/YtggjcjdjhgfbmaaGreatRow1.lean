/- IrChecks, for every program: the call returns true and the program reads as before. Conditions: none beyond the row's own. -/
import Derived.Test.YtggjcjdjhgfbmaaGreatRows
import Derived.Test.YtggjcjdjhgfbmaaGreatIrChecks1
import Derived.Test.YtggjcjdjhgfbmaaGreatOpen1
namespace Go.Proofs.YtggjcjdjhgfbmaaGreat
open Go.ChangeShapes Go.WideShapes Go.ChangeAt Go.RowKit Go.Joins

theorem own : ownKnob Tryz.prog.godebug = none := by kernel_rfl
theorem laidOut : laidOutB Tryz.prog = true := by kernel_rfl

set_option maxRecDepth 100000 in
theorem open_ir {H : Type} {enc : TypeId × Value → H} {W : World} {base : Nat} {v : Value} {d : DataW H} {ps : List MemPlace} (hv : Value.okWide Tryz.prog W .any base 26 v) (h : DataW.Trod enc Tryz.prog W 0 (fun _ => true) true 26 v d ps)
    (hw : ∀ n ∈ d.weights Tryz.prog 26, n ≤ reachBytes) : ∃ L p, v = Lay.val L p ∧ IrAt W L p ∧ ∀ b ∈ p.blocks, b.ops.length ≤ 140737488355328 ∧ ∀ o ∈ b.ops, OpWf o := by
  obtain ⟨v0, v1, v2, y0, y1, y2, n, rfl, rfl, _, h0, h1, h2⟩ := open_agg3 Tryz.underlying26 (by kernel_rfl) (by kernel_rfl) hv h
  obtain ⟨sA, sc, s, rfl, hs, hsc⟩ := open_bools h0
  obtain ⟨pA, pc, l, rfl, hl, hpc⟩ := open_hds h1
  obtain ⟨bA, bc, bs, rfl, hb, hbc, hbs⟩ := open_bls h2 (fun k hk => hw k (by
    simp only [DataW.weights, Tryz.underlying26]
    exact DataW.weights_mem_each (j := 2) (t := 24) rfl rfl k hk))
  exact ⟨⟨sA, sc, pA, pc, bA, bc⟩, ⟨s, l, bs⟩, rfl, ⟨hs, hl, hb, hsc, hpc, hbc⟩, hbs⟩
theorem fn_of_wf {o : LOp} (h : OpWf o) : 0 ≤ o.fn := by
  have := h.2.1
  simp [Lit.wf, IntKind.min, IntKind.max, IntKind.signed, IntKind.bits] at this
  omega

set_option maxRecDepth 100000 in
theorem irChecks_lifted (os : Os) (started : os.Started) (H : Type) (enc : TypeId × Value → H) :
    ReturnsInHanded {} Tryz.checked os 3 .any (Rows.irChecksSpec.pre6 enc Tryz.prog Tryz.f3 Rows.irChecksRow.domain false) (Rows.irChecksSpec.post enc Tryz.prog Tryz.f3 false true false false) := by
  refine returnsInHanded_of_change_sized (C := Tryz.checked) own started (by kernel_rfl) Tryz.func3
    (ChangeSpec.witness6 (enc := enc) (C := Tryz.checked) false ⟨#[], #[.agg #[.slice none 0 0, .slice none 0 0, .slice none 0 0]], []⟩ 8 (by kernel_rfl) (by kernel_rfl) (by kernel_rfl) (by kernel_rfl)) ?_
  intro W base args ds gs before hval0 hW hcnd hsz0 _
  have hsz : (DataW.weightsEach Tryz.prog (Tryz.f3.params.toList ++ Rows.irChecksSpec.plain.varTypes Tryz.prog) (ds ++ gs)).all (· ≤ reachBytes) = true := hsz0
  have hval : ∀ (j : Nat) t v, Tryz.f3.params[j]? = some t → args[j]? = some v → Value.okWide Tryz.prog W .any base t v := hval0
  have hW' := hW
  obtain ⟨p, q, hA0, hV, rfl, hfz, hnd⟩ := hW
  have hA : DataW.TrodAll enc Tryz.prog W 0 (fun _ => true) true Tryz.f3.params.toList args.toList ds p := hA0
  rw [Tryz.params3] at hA hval hsz
  obtain ⟨v0, vs0, d0, ds0, p0, q0, hargs, rfl, rfl, h0, r0⟩ := trodAll_cons hA
  obtain ⟨rfl, rfl, rfl⟩ := trodAll_nil r0
  obtain rfl : args = #[v0] := by cases args; simp_all
  obtain ⟨rfl, rfl⟩ := trodVars_none hV
  have lt0 : ∀ x ∈ p0, x.block < W.heap.size := by obtain ⟨m, hm⟩ := h0; exact DataW.trod_lt m _ _ _ hm
  have hw0 : ∀ n ∈ d0.weights Tryz.prog 26, n ≤ reachBytes := by
    intro n hn
    have := List.all_eq_true.1 hsz n (DataW.weights_mem_each (j := 0) (t := 26) rfl rfl n hn)
    simpa using this
  have k0 := h0
  obtain ⟨L, pr, rfl, hp, hb⟩ := open_ir (hval 0 26 v0 rfl rfl) h0 hw0
  clear hA0 hval0 hsz0 hsz
  refine (irChecks_calls L pr W hp (fun b hm => (hb b hm).1) (fun b hm o ho => fn_of_wf ((hb b hm).2 o ho))).mono fun e W' ⟨he, bel⟩ => ?_
  subst he
  exact ⟨_, rfl, _, _, _, [], _, [], hW', trodAll_mk1 (shut_bool Tryz.underlying4 _), (trodAll_cons_mk (Below.trod laidOut (by kernel_rfl) (of_decide_eq_true (by kernel_rfl)) k0 bel lt0) trodAll_mk0), rfl, bel.frame _, fun h => by cases h⟩

/-- IrChecks: whatever the program, the call returns true, and the program reads as before. -/
theorem irChecks_holds : Rows.IrChecksSaid :=
  OpenClaim.holds_of_wide 3 Tryz.f3 rfl rfl rfl rfl rfl rfl rfl ⟨rfl, rfl, rfl, rfl, rfl⟩ rfl rfl rfl rfl rfl (by kernel_rfl) Tryz.func3 (by kernel_rfl)
    (of_decide_eq_true (by kernel_rfl)) (by unfold Func.isWrapper; first | (rw [if_pos (by decide +kernel)]; kernel_rfl) | (rw [if_neg (by decide +kernel)]; exact ⟨rfl, rfl⟩))
    (fun os started H enc _ => irChecks_lifted os started H enc)
#print axioms irChecks_holds
end Go.Proofs.YtggjcjdjhgfbmaaGreat
