/- The document's own answer for which programs may be: the walk of what is handed in. Conditions: as many variables as may be. -/
import Derived.Test.YtggjcjdjhgfbmaaGreatRf4
import Derived.Laws.MakeOwn
import Derived.Maps.AppendAt
namespace Go.Proofs.YtggjcjdjhgfbmaaGreat
open Go.RowKit Go.BigFrame

theorem rmetOf_snoc (l : List LHd) (h : LHd) : metOf (l ++ [h]) = metOf l ++ (if h.buf then [h.d, h.len] else [h.d]) := by simp [metOf]
def hdOne (s : List Bool) (h : LHd) (m : Bool) : Bool := vOk s.length h.d true && !m && (!h.tur || h.buf) && (secAt s h.d == (h.sec && !h.buf)) && vOk s.length h.len h.buf
theorem hdOk_one (s : List Bool) (h : LHd) (m : Bool) : hdOne s h m = true ↔ (m = false ∧ vOk s.length h.d true = true ∧ vOk s.length h.len h.buf = true ∧ (!h.tur || h.buf) = true ∧ (secAt s h.d == (h.sec && !h.buf)) = true) := by
  simp only [hdOne, Bool.and_eq_true, Bool.not_eq_true']
  constructor
  · rintro ⟨⟨⟨⟨h1, h2⟩, h3⟩, h4⟩, h5⟩; exact ⟨h2, h1, h5, h3, h4⟩
  · rintro ⟨h2, h1, h5, h3, h4⟩; exact ⟨⟨⟨⟨h1, h2⟩, h3⟩, h4⟩, h5⟩
theorem infoBool : (Tryz.prog.info? 4).map (fun i => (i.zero, i.size, i.bytes)) = some (some (.bool false), 1, 1) := by kernel_rfl
theorem made_bools (n : Nat) : madeCells (Value.bool false).cells (n * 1) = Array.replicate n (.bool false) := by
  apply Array.ext
  · simp [madeCells]
  · intro i h1 h2
    have e : i % 1 = 0 := Nat.mod_one i
    simp [madeCells, Value.cells, e]
theorem repl_bools (n : Nat) : Array.replicate n (Value.bool false) = ((List.replicate n false).map Value.bool).toArray := by simp
/-- What has been met, marked. -/
def Marks (n : Nat) (l : List Int) (ml : List Bool) : Prop := ml.length = n ∧ ∀ v : Int, 0 ≤ v → v < n → ml.getD v.toNat false = decide (v ∈ l)
theorem Marks.start (n : Nat) : Marks n [] (List.replicate n false) := ⟨by simp, fun v h0 h1 => by
  have hv : v.toNat < n := by omega
  simp [List.getD_eq_getElem?_getD, hv]⟩
theorem Marks.put {n : Nat} {l : List Int} {ml : List Bool} (h : Marks n l ml) (d : Int) (h0 : 0 ≤ d) (h1 : d < n) : Marks n (l ++ [d]) (ml.set d.toNat true) := by
  refine ⟨by simp [h.1], fun v v0 v1 => ?_⟩
  have hl := h.1
  by_cases e : v = d
  · subst e
    have hv : v.toNat < ml.length := by omega
    simp [List.getD_eq_getElem?_getD, hv]
  · have hne : ¬ d.toNat = v.toNat := by omega
    have := h.2 v v0 v1
    simp only [List.getD_eq_getElem?_getD] at this ⊢
    rw [List.getElem?_set_ne hne, this]
    simp [e]
theorem Marks.cell {w : World} {G : Nat} {n : Nat} {l : List Int} {ml : List Bool} (h : Marks n l ml) (hG : w.heap[G]? = some (.cells (ml.map Value.bool).toArray 4 (0, 0))) (v : Int) (h0 : 0 ≤ v) (h1 : v < n) :
    w.cell? ⟨G, v.toNat, none⟩ = some (.bool (decide (v ∈ l))) := by
  rw [box_cell hG]
  have hl := h.1
  have hv : v.toNat < ml.length := by omega
  have := h.2 v h0 h1
  rw [← this]
  simp [List.getD_eq_getElem?_getD, hv]
theorem Marks.store {w : World} {G : Nat} {ml : List Bool} (hG : w.heap[G]? = some (.cells (ml.map Value.bool).toArray 4 (0, 0))) (k : Nat) :
    (w.setCell ⟨G, k, none⟩ (.bool true)).heap[G]? = some (.cells ((ml.set k true).map Value.bool).toArray 4 (0, 0)) := by
  rw [setCell_heap hG]; simp [List.map_set]
theorem frozen_of {w : World} {G : Nat} {cs : Array Value} {t : TypeId} (hG : w.heap[G]? = some (.cells cs t (0, 0))) (i : Nat) : w.frozen? ⟨G, i, none⟩ = false := by simp [World.frozen?, hG]
theorem not_params {p : LIr} {h : LHd} (hm : h ∈ p.params) (hk : hdOk p.secret h = false) : paramsOk p = false := by
  unfold paramsOk
  have : p.params.all (hdOk p.secret) = false := by
    rw [List.all_eq_false]
    exact ⟨h, hm, by simp [hk]⟩
  simp [this]
theorem metOf_mono {p : LIr} {j : Nat} : (metOf (p.params.take j)).Sublist (metOf p.params) := by
  unfold metOf
  have h := List.take_append_drop j p.params
  have e : List.flatMap (fun h : LHd => if h.buf then [h.d, h.len] else [h.d]) p.params = List.flatMap (fun h : LHd => if h.buf then [h.d, h.len] else [h.d]) (p.params.take j) ++ List.flatMap (fun h : LHd => if h.buf then [h.d, h.len] else [h.d]) (p.params.drop j) := by
    rw [← List.flatMap_append, h]
  rw [e]
  exact List.sublist_append_left _ _
theorem not_params_dup {p : LIr} {j : Nat} (h : ¬ (metOf (p.params.take j)).Nodup) : paramsOk p = false := by
  unfold paramsOk
  have : decide (metOf p.params).Nodup = false := by simpa using fun hn => h (hn.sublist metOf_mono)
  simp [this]

set_option maxRecDepth 100000 in
set_option maxHeartbeats 8000000 in
theorem handed_calls (L : Lay) (p : LIr) (w : World) (hp : IrAt w L p) (hs : p.secret.length ≤ 4096) (hl : p.params.length ≤ 1000) :
    Calls Tryz.prog 26 #[L.val p] w fun e w' => e = .returned (.bool (paramsOk p)) ∧ Ext w w' := by
  obtain ⟨i0, hi, hz0, hz1, hz2⟩ := info_parts infoBool
  have hn := hp.ns
  have hE0 := Ext.alloc (Ext.refl w) (L.box p)
  have hpx := hp.ext hE0
  have hP := heap_alloc_self w (L.box p)
  obtain ⟨sA, sc, pA, pc, bA, bc⟩ := L
  have hmk : ∀ W : World, (Instr.makeSlice 22 (.int .i64 (p.secret.length : Int)) (.int .i64 (p.secret.length : Int))).run Tryz.prog W = .ok (.slice (some ⟨W.heap.size, 0, none⟩) p.secret.length p.secret.length) (W.alloc (.cells (Array.replicate p.secret.length (.bool false)) 4)) := by
    intro W
    have hr := run_make (P := Tryz.prog) (w := W) 22 4 i0 (.bool false) Tryz.underlying22 hi hz0 .i64 .i64 p.secret.length p.secret.length (by omega) (by omega) (by rw [hz2]; omega) (by omega)
    rw [hz1] at hr
    simp only [Int.toNat_natCast, made_bools] at hr
    exact hr
  go_enter Tryz.func26, Tryz.ntmps26
  go_upto_region 1 with fail
  generalize hW : w.alloc (Lay.box ⟨sA, sc, pA, pc, bA, bc⟩ p) = W0 at hpx hP hE0 ⊢
  have hz : w.heap.size < W0.heap.size := (Array.getElem?_eq_some_iff.1 hP).1
  clear hW
  have b0 := box_cell hP
  dsimp only at b0
  go_wp2
  have hstart : Ext W0 (W0.alloc (.cells (Array.replicate p.secret.length (.bool false)) 4)) := below_alloc1 _
  have hG0 := heap_alloc_self W0 (.cells (Array.replicate p.secret.length (.bool false)) 4)
  generalize hW2 : W0.alloc (.cells (Array.replicate p.secret.length (.bool false)) 4) = W2 at hstart hG0 ⊢
  rw [repl_bools] at hG0
  clear hW2
  go_loopw [4] (fun i wr => ∃ (j : Nat) (ml : List Bool), j ≤ p.params.length ∧ i = .int .i64 j ∧ Ext W0 wr ∧ wr.heap[W0.heap.size]? = some (.cells (ml.map Value.bool).toArray 4 (0, 0)) ∧ Marks p.secret.length (metOf (p.params.take j)) ml ∧ Hid (metOf (p.params.take j)).Nodup ∧ Hid (∀ i (h : i < p.params.length), i < j → hdOk p.secret p.params[i] = true)) (fun i _ => p.params.length - (intOf i).toNat)
  case atStart => exact ⟨0, _, Nat.zero_le _, rfl, hstart, hG0, Marks.start _, Lib.hid List.nodup_nil, Lib.hid (fun i _ h => absurd h (Nat.not_lt_zero _))⟩
  case round =>
    obtain ⟨j, ml, hj, rfl, hE, hMk, hM, hnd, hv⟩ := hrel
    obtain ⟨hc, hf1⟩ := hE.cells
    by_cases hlt : j < p.params.length
    · obtain ⟨bb, off, rfl, hbb, h0, h1, h2, h3, h4⟩ := hpx.rp.2 j hlt
      generalize hh : p.params[j] = h at h0 h1 h2 h3 h4
      have HH := Lib.hid hh
      clear hh
      go_upto_region 6 with fail
      generalize hW1 : wr.alloc h.box = W1
      have hG : W1.heap[wr.heap.size]? = some h.box := by rw [← hW1]; exact heap_alloc_self _ _
      have hE1 : Ext W0 W1 := by rw [← hW1]; exact hE.alloc _
      have hM1 : W1.heap[W0.heap.size]? = some (.cells (ml.map Value.bool).toArray 4 (0, 0)) := by rw [← hW1]; exact heap_alloc_was hMk _
      have hfar : W0.heap.size < wr.heap.size := (Array.getElem?_eq_some_iff.1 hMk).1
      clear hW1
      have g0 := box_cell hG
      have gl := (Array.getElem?_eq_some_iff.1 hG).1
      have hcx := hE1.cells.1
      have hz1' : w.heap.size < W1.heap.size := Nat.lt_of_lt_of_le hz hE1.size
      have hz2' : W0.heap.size < W1.heap.size := (Array.getElem?_eq_some_iff.1 hM1).1
      have hp1 := hpx.ext hE1
      have hP1 := hE1.heap hP
      have c0 := box_cell hP1
      dsimp only at c0
      clear b0 hc hf1 h0 h1 h2 h3 h4 hcx hMk hE
      go_cut [67] (fun s wx => s = .bool (!hdOne p.secret h (decide (h.d ∈ metOf (p.params.take j)))) ∧ Ext W1 wx)
      case first =>
        refine wp_region_quiet_ext (by kernel_rfl) (by kernel_rfl) ?_
        have hmc := hM.cell hM1
        clear hM hM1
        obtain ⟨buf, sec, tur, d, len⟩ := h
        dsimp only at *
        have key : ∀ v, vOk p.secret.length v true = true → ∃ bb off, sA = some ⟨bb, off, none⟩ ∧ bb < W1.heap.size ∧ W1.cell? ⟨bb, off + v.toNat, none⟩ = some (.bool (secAt p.secret v)) := fun v hv => hp1.sec v (vOk_in hv).1 (vOk_in hv).2
        cases hvd : vOk p.secret.length d true with
        | false =>
          clear key hmc
          repeat (first
            | go_big_quiet_skip
            | (go_big_quiet_want; first
                | (go_big_quiet_op; go_big_quiet_on)
                | (unfold Oper.quiet
                   apply Exists.intro
                   refine ⟨fun W hW => ?_, ?_⟩
                   · first
                     | (obtain ⟨hcW, hfW⟩ := hW.cells; unfold Oper.quietAt; go_simp; exact rfl)
                     | (unfold Oper.quietAt; go_simp; go_at_call 52; exact Calls.ext_of hW (rvariable_calls ⟨sA, sc, some ⟨bb, off, none⟩, pc, bA, bc⟩ p _ _ _ hn))
                   go_big_quiet_on
                   dsimp only [Act.put]
                   simp only [List.setIfInBounds_toArray, List.set_cons_succ, List.set_cons_zero])))
          refine wpQuiet_nil ?_
          intro wx hx
          go_wp2_with fail
          go_meet
          refine ⟨congrArg Value.bool ?_, hx⟩
          simp [hdOne, *]
        | true =>
          obtain ⟨sb, so, rfl, hsb, hsd⟩ := key d hvd
          have hd0 := (vOk_in hvd).1
          have hd1 := (vOk_in hvd).2
          have hmd := hmc d hd0 hd1
          clear key hmc
          cases hmm : decide (d ∈ metOf (p.params.take j)) with
          | true =>
            rw [hmm] at hmd
            repeat (first
              | go_big_quiet_skip
              | (go_big_quiet_want; first
                  | (go_big_quiet_op; go_big_quiet_on)
                  | (unfold Oper.quiet
                     apply Exists.intro
                     refine ⟨fun W hW => ?_, ?_⟩
                     · first
                       | (obtain ⟨hcW, hfW⟩ := hW.cells; unfold Oper.quietAt; go_simp; exact rfl)
                       | (unfold Oper.quietAt; go_simp; go_at_call 52; exact Calls.ext_of hW (rvariable_calls ⟨some ⟨sb, so, none⟩, sc, some ⟨bb, off, none⟩, pc, bA, bc⟩ p _ _ _ hn))
                     go_big_quiet_on
                     dsimp only [Act.put]
                     simp only [List.setIfInBounds_toArray, List.set_cons_succ, List.set_cons_zero])))
            refine wpQuiet_nil ?_
            intro wx hx
            go_wp2_with fail
            go_meet
            refine ⟨congrArg Value.bool ?_, hx⟩
            simp [hdOne, *]
          | false =>
            rw [hmm] at hmd
            cases buf with
            | false =>
              cases tur with
              | true =>
                repeat (first
                  | go_big_quiet_skip
                  | (go_big_quiet_want; first
                      | (go_big_quiet_op; go_big_quiet_on)
                      | (unfold Oper.quiet
                         apply Exists.intro
                         refine ⟨fun W hW => ?_, ?_⟩
                         · first
                           | (obtain ⟨hcW, hfW⟩ := hW.cells; unfold Oper.quietAt; go_simp; exact rfl)
                           | (unfold Oper.quietAt; go_simp; go_at_call 52; exact Calls.ext_of hW (rvariable_calls ⟨some ⟨sb, so, none⟩, sc, some ⟨bb, off, none⟩, pc, bA, bc⟩ p _ _ _ hn))
                         go_big_quiet_on
                         dsimp only [Act.put]
                         simp only [List.setIfInBounds_toArray, List.set_cons_succ, List.set_cons_zero])))
                refine wpQuiet_nil ?_
                intro wx hx
                go_wp2_with fail
                go_meet
                refine ⟨congrArg Value.bool ?_, hx⟩
                simp [hdOne, *]
              | false =>
                cases sec <;> cases hs : secAt p.secret d <;> cases hvl : vOk p.secret.length len false
                all_goals
                  repeat (first
                    | go_big_quiet_skip
                    | (go_big_quiet_want; first
                        | (go_big_quiet_op; go_big_quiet_on)
                        | (unfold Oper.quiet
                           apply Exists.intro
                           refine ⟨fun W hW => ?_, ?_⟩
                           · first
                             | (obtain ⟨hcW, hfW⟩ := hW.cells; unfold Oper.quietAt; go_simp; exact rfl)
                             | (unfold Oper.quietAt; go_simp; go_at_call 52; exact Calls.ext_of hW (rvariable_calls ⟨some ⟨sb, so, none⟩, sc, some ⟨bb, off, none⟩, pc, bA, bc⟩ p _ _ _ hn))
                           go_big_quiet_on
                           dsimp only [Act.put]
                           simp only [List.setIfInBounds_toArray, List.set_cons_succ, List.set_cons_zero])))
                  refine wpQuiet_nil ?_
                  intro wx hx
                  go_wp2_with fail
                  go_meet
                  refine ⟨congrArg Value.bool ?_, hx⟩
                  simp [hdOne, *]
            | true =>
              cases tur <;> cases sec <;> cases hs : secAt p.secret d <;> cases hvl : vOk p.secret.length len true
              all_goals
                repeat (first
                  | go_big_quiet_skip
                  | (go_big_quiet_want; first
                      | (go_big_quiet_op; go_big_quiet_on)
                      | (unfold Oper.quiet
                         apply Exists.intro
                         refine ⟨fun W hW => ?_, ?_⟩
                         · first
                           | (obtain ⟨hcW, hfW⟩ := hW.cells; unfold Oper.quietAt; go_simp; exact rfl)
                           | (unfold Oper.quietAt; go_simp; go_at_call 52; exact Calls.ext_of hW (rvariable_calls ⟨some ⟨sb, so, none⟩, sc, some ⟨bb, off, none⟩, pc, bA, bc⟩ p _ _ _ hn))
                         go_big_quiet_on
                         dsimp only [Act.put]
                         simp only [List.setIfInBounds_toArray, List.set_cons_succ, List.set_cons_zero])))
                refine wpQuiet_nil ?_
                intro wx hx
                go_wp2_with fail
                go_meet
                refine ⟨congrArg Value.bool ?_, hx⟩
                simp [hdOne, *]
      case rest =>
        obtain ⟨rfl, hx⟩ := hcut
        have hEx := hE1.trans hx
        have hMx := hx.heap hM1
        have gx := box_cell (hx.heap hG)
        have glx : wr.heap.size < wc.heap.size := Nat.lt_of_lt_of_le gl hx.size
        have hz2x : W0.heap.size < wc.heap.size := Nat.lt_of_lt_of_le hz2' hx.size
        have hms := rmetOf_snoc (p.params.take j) h
        have hsn : Hid (p.params.take (j + 1) = p.params.take j ++ [h]) := Lib.hid (by rw [List.take_succ_eq_append_getElem hlt, HH.out])
        have hm : h ∈ p.params := by rw [← HH.out]; exact List.getElem_mem _
        cases hk : hdOne p.secret h (decide (h.d ∈ metOf (p.params.take j))) with
        | false =>
          have hno : Hid (paramsOk p = false) := by
            refine Lib.hid ?_
            by_cases hmet : h.d ∈ metOf (p.params.take j)
            · refine not_params_dup (j := j + 1) ?_
              rw [hsn.out, hms]
              intro hnn
              have hdis := (List.nodup_append.1 hnn).2.2
              refine hdis h.d hmet h.d ?_ rfl
              split <;> simp
            · refine not_params hm ?_
              have h1 := fun hh => (not_congr (hdOk_one p.secret h (decide (h.d ∈ metOf (p.params.take j))))).1 (by simp [hk]) ⟨by simpa using hmet, hh⟩
              rw [Bool.eq_false_iff]
              intro h2
              simp only [hdOk, Bool.and_eq_true] at h2
              exact h1 ⟨h2.1.1.1.1, h2.1.1.1.2, h2.1.1.2, h2.1.2⟩
          clear hms
          go_wp2
          go_ret
          exact ⟨congrArg (fun b => Ending.returned (.bool b)) hno.out.symm, hE0.trans hEx⟩
        | true =>
          obtain ⟨m1, m2, m3, m4, m5⟩ := (hdOk_one _ _ _).1 hk
          have d0 := (vOk_in m2).1
          have d1 := (vOk_in m2).2
          have hnd1 : Hid (metOf (p.params.take j) ++ [h.d]).Nodup := Lib.hid (List.nodup_append.2 ⟨hnd.out, by simp, by
            intro a ha b hb e
            simp at hb
            subst e hb
            simp [ha] at m1⟩)
          have hM3 := hM.put h.d d0 d1
          have hf0 := frozen_of hMx
          have hcd := hM.cell hMx h.d d0 d1
          have hMs := Marks.store hMx h.d.toNat
          have hnw : ¬ W0.heap.size = wr.heap.size := by omega
          have hnw' : ¬ wr.heap.size = W0.heap.size := by omega
          obtain ⟨buf, sec, tur, d, len⟩ := h
          dsimp only at *
          have Hk := Lib.hid hk
          have H1 := Lib.hid m1
          have H3 := Lib.hid m3
          have H5 := Lib.hid m5
          have H2 := Lib.hid m2
          have H4 := Lib.hid m4
          clear hk m1 m3 m5 m2 m4
          cases buf with
          | false =>
            have hok : Hid (hdOk p.secret (LHd.mk false sec tur d len) = true) := Lib.hid (by simp only [hdOk, H2.out, H3.out, H4.out, H5.out]; rfl)
            simp only [Bool.false_eq_true, if_false] at hms
            have Hms := Lib.hid hms
            clear hms hcd
            have hcd := hM.cell hMx d d0 d1
            go_wp2
            go_roundw
            case rel =>
              refine ⟨j + 1, ml.set d.toNat true, hlt, by go_num, hEx.set (Nat.le_refl _) _ _, hMs, ?_, ?_, Lib.hid ?_⟩
              · rw [hsn.out, Hms.out]; exact hM3
              · rw [hsn.out, Hms.out]; exact hnd1
              · intro i hi hij
                rcases Nat.lt_succ_iff_lt_or_eq.1 hij with h | rfl
                · exact hv.out i hi h
                · rw [HH.out]; exact hok.out
            case measure => simp [intOf]; omega
          | true =>
            have l0 := (vOk_in H3.out).1
            have l1 := (vOk_in H3.out).2
            simp only [if_true] at hms
            have Hms := Lib.hid hms
            clear hms
            have hX2 : Ext W0 (wc.setCell ⟨W0.heap.size, d.toNat, none⟩ (.bool true)) := hEx.set (Nat.le_refl _) _ _
            have hp3 := hpx.ext hX2
            obtain ⟨sb, so, rfl, hsb, hsl⟩ := hp3.sec len l0 l1
            have hcl := hM3.cell hMs len l0 l1
            have hP3 := box_cell (hX2.heap hP)
            dsimp only at hP3
            have hf3 := frozen_of hMs
            have g3 : ∀ i, (wc.setCell ⟨W0.heap.size, d.toNat, none⟩ (.bool true)).cell? ⟨wr.heap.size, i, none⟩ = #[Value.bool true, .bool sec, .bool tur, .int .i64 d, .int .i64 len][i]? := box_cell (by rw [setCell_heap_ne hnw]; exact hx.heap hG)
            have hMs2 := Marks.store hMs len.toNat
            have hM4 := hM3.put len l0 l1
            have hX3 : Ext W0 ((wc.setCell ⟨W0.heap.size, d.toNat, none⟩ (.bool true)).setCell ⟨W0.heap.size, len.toNat, none⟩ (.bool true)) := hX2.set (Nat.le_refl _) _ _
            generalize hql : decide (len ∈ metOf (p.params.take j) ++ [d]) = ql at hcl
            have Hql := Lib.hid hql
            generalize hqs : secAt p.secret len = qs at hsl
            have Hqs := Lib.hid hqs
            clear hql hqs
            go_upto_region 9 with fail
            generalize hWs : wc.setCell ⟨W0.heap.size, d.toNat, none⟩ (.bool true) = Ws at hX2 hp3 hsb hsl hcl hP3 hf3 g3 hMs2 hX3 hMs ⊢
            have hzs0 : w.heap.size < Ws.heap.size := Nat.lt_of_lt_of_le hz hX2.size
            clear hWs gx c0 g0 hcd
            cases ql with
            | true =>
              have hno : Hid (paramsOk p = false) := Lib.hid (not_params_dup (j := j + 1) (by
                rw [hsn.out, Hms.out]
                intro hnn
                have e : metOf (p.params.take j) ++ [d, len] = (metOf (p.params.take j) ++ [d]) ++ [len] := by simp
                rw [e] at hnn
                exact (List.nodup_append.1 hnn).2.2 len (of_decide_eq_true Hql.out) len (by simp) rfl))
              go_wp2
              go_ret
              exact ⟨congrArg (fun b => Ending.returned (.bool b)) hno.out.symm, hE0.trans hX2⟩
            | false =>
              cases qs with
              | true =>
                have hno : Hid (paramsOk p = false) := Lib.hid (not_params hm (by simp [hdOk, Hqs.out]))
                go_wp2
                go_ret
                exact ⟨congrArg (fun b => Ending.returned (.bool b)) hno.out.symm, hE0.trans hX2⟩
              | false =>
                have hok : Hid (hdOk p.secret (LHd.mk true sec tur d len) = true) := Lib.hid (by simp only [hdOk, H2.out, H3.out, H4.out, H5.out, Hqs.out]; rfl)
                have hnd2 : Hid (metOf (p.params.take j) ++ [d, len]).Nodup := by
                  refine Lib.hid ?_
                  have e : metOf (p.params.take j) ++ [d, len] = (metOf (p.params.take j) ++ [d]) ++ [len] := by simp
                  rw [e]
                  refine List.nodup_append.2 ⟨hnd1.out, by simp, ?_⟩
                  intro a ha b hb e
                  simp only [List.mem_singleton] at hb
                  subst e hb
                  exact of_decide_eq_false Hql.out ha
                go_wp2
                go_roundw
                case rel =>
                  refine ⟨j + 1, (ml.set d.toNat true).set len.toNat true, hlt, by go_num, hX3, hMs2, ?_, ?_, Lib.hid ?_⟩
                  · rw [hsn.out, Hms.out]; simpa using hM4
                  · rw [hsn.out, Hms.out]; exact hnd2
                  · intro i hi hij
                    rcases Nat.lt_succ_iff_lt_or_eq.1 hij with h | rfl
                    · exact hv.out i hi h
                    · rw [HH.out]; exact hok.out
                case measure => simp [intOf]; omega
    · have hjj : j = p.params.length := by omega
      subst hjj
      rw [List.take_length] at hnd
      have hall : Hid (p.params.all (hdOk p.secret) = true) := by
        refine Lib.hid (List.all_eq_true.2 fun h hm => ?_)
        obtain ⟨i, hi, rfl⟩ := List.getElem_of_mem hm
        exact hv.out i hi hi
      clear hv
      go_wp2
      go_ret
      refine ⟨ret_bool ?_, hE0.trans hE⟩
      unfold paramsOk
      rw [hall.out]
      have := hnd.out
      simp [this]
      omega
end Go.Proofs.YtggjcjdjhgfbmaaGreat
