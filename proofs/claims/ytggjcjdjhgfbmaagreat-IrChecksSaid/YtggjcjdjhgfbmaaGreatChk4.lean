/- The walk of ir.params: what is handed in may be. Conditions: none. -/
import Derived.Test.YtggjcjdjhgfbmaaGreatChk3
import Derived.Test.YtggjcjdjhgfbmaaGreatApp
import Derived.Test.YtggjcjdjhgfbmaaGreatChk4a
import Derived.Maps.AppendAt
namespace Go.Proofs.YtggjcjdjhgfbmaaGreat
open Go.RowKit Go.BigFrame

theorem infoInt : (Tryz.prog.info? 3).map (fun i => (i.zero, i.size, i.bytes)) = some (some (.int .i64 0), 1, 8) := by kernel_rfl
theorem metOf_snoc (l : List LHd) (h : LHd) : metOf (l ++ [h]) = metOf l ++ (if h.buf then [h.d, h.len] else [h.d]) := by simp [metOf]
theorem metOf_len (l : List LHd) : (metOf l).length ≤ 2 * l.length := by
  induction l with
  | nil => simp [metOf]
  | cons h l ih =>
    have e : metOf (h :: l) = (if h.buf then [h.d, h.len] else [h.d]) ++ metOf l := by simp [metOf]
    rw [e, List.length_append, List.length_cons]
    split <;> simp <;> omega

set_option maxRecDepth 100000 in
set_option maxHeartbeats 8000000 in
theorem params_calls (L : Lay) (p : LIr) (w : World) (hp : IrAt w L p) (hl : p.params.length ≤ 1000) :
    Calls Tryz.prog 21 #[L.val p] w fun e w' => e = .returned (.bool (paramsOk p)) ∧ Ext w w' := by
  obtain ⟨i0, hi, hz0, hz1, hz2⟩ := info_parts infoInt
  have hn := hp.ns
  have hE0 := Ext.alloc (Ext.refl w) (L.box p)
  have hpx := hp.ext hE0
  have hP := heap_alloc_self w (L.box p)
  obtain ⟨sA, sc, pA, pc, bA, bc⟩ := L
  go_enter Tryz.func21, Tryz.ntmps21
  go_wp2
  generalize hW : w.alloc (Lay.box ⟨sA, sc, pA, pc, bA, bc⟩ p) = W0 at hpx hP hE0 ⊢
  have hz : w.heap.size < W0.heap.size := (Array.getElem?_eq_some_iff.1 hP).1
  clear hW
  have b0 := box_cell hP
  dsimp only at b0
  go_loopw [9, 3] (fun i v wr => ∃ j : Nat, j ≤ p.params.length ∧ i = .int .i64 j ∧ Ext W0 wr ∧ wr.ownsRow W0.heap.size 3 1 v (metOf (p.params.take j)).length ((metOf (p.params.take j)).map (.int .i64)) ∧ Hid (∀ i (h : i < p.params.length), i < j → hdOk p.secret p.params[i] = true)) (fun i _ _ => p.params.length - (intOf i).toNat)
  case atStart => exact ⟨0, Nat.zero_le _, rfl, Ext.refl _, World.ownsRow_nil _ _ _ _, Lib.hid (fun i _ h => absurd h (Nat.not_lt_zero _))⟩
  case round =>
    obtain ⟨j, hj, rfl, hE, hown, hv⟩ := hrel
    obtain ⟨hc, hf1⟩ := hE.cells
    by_cases hlt : j < p.params.length
    · obtain ⟨bb, off, rfl, hbb, h0, h1, h2, h3, h4⟩ := hpx.rp.2 j hlt
      generalize hh : p.params[j] = h at h0 h1 h2 h3 h4
      have HH := Lib.hid hh
      clear hh
      go_upto_region 5 with fail
      generalize hW1 : wr.alloc h.box = W1
      have hG : W1.heap[wr.heap.size]? = some h.box := by rw [← hW1]; exact heap_alloc_self _ _
      have hE1 : Ext W0 W1 := by rw [← hW1]; exact hE.alloc _
      have hown1 : W1.ownsRow W0.heap.size 3 1 u3 (metOf (p.params.take j)).length ((metOf (p.params.take j)).map (.int .i64)) := by rw [← hW1]; exact hown.alloc _
      clear hW1
      have hfar0 : ∀ k, u3.ownBlock = some k → k < wr.heap.size := fun k hk => (hown.lt k hk).2
      have g0 := box_cell hG
      have gl := (Array.getElem?_eq_some_iff.1 hG).1
      have hcx := hE1.cells.1
      have hz1' : w.heap.size < W1.heap.size := Nat.lt_of_lt_of_le hz hE1.size
      have hp1 := hpx.ext hE1
      have hP1 := hE1.heap hP
      have c0 := box_cell hP1
      dsimp only at c0
      clear b0 hc hf1 h0 h1 h2 h3 h4 hcx hown hE
      go_cut [63] (fun s wx => s = .bool (!hdOk p.secret h) ∧ Ext W1 wx)
      case first =>
        refine wp_region_quiet_ext (by kernel_rfl) (by kernel_rfl) ?_
        obtain ⟨buf, sec, tur, d, len⟩ := h
        dsimp only at *
        have key : ∀ v, vOk p.secret.length v true = true → ∃ bb off, sA = some ⟨bb, off, none⟩ ∧ bb < W1.heap.size ∧ W1.cell? ⟨bb, off + v.toNat, none⟩ = some (.bool (secAt p.secret v)) := fun v hv => hp1.sec v (vOk_in hv).1 (vOk_in hv).2
        cases hvd : vOk p.secret.length d true with
        | false =>
          clear key
          repeat (first
            | go_big_quiet_skip
            | (go_big_quiet_want; first
                | (go_big_quiet_op; go_big_quiet_on)
                | (unfold Oper.quiet
                   apply Exists.intro
                   refine ⟨fun W hW => ?_, ?_⟩
                   · first
                     | (obtain ⟨hcW, hfW⟩ := hW.cells; unfold Oper.quietAt; go_simp; exact rfl)
                     | (unfold Oper.quietAt; go_simp; go_at_call 44; exact Calls.ext_of hW (variable_calls ⟨sA, sc, some ⟨bb, off, none⟩, pc, bA, bc⟩ p _ _ _ hn))
                   go_big_quiet_on
                   dsimp only [Act.put]
                   simp only [List.setIfInBounds_toArray, List.set_cons_succ, List.set_cons_zero])))
          refine wpQuiet_nil ?_
          intro wx hx
          go_wp2_with fail
          go_meet
          refine ⟨congrArg Value.bool ?_, hx⟩
          simp [hdOk, *]
        | true =>
          obtain ⟨sb, so, rfl, hsb, hsd⟩ := key d hvd
          have hd0 := (vOk_in hvd).1
          have hd1 := (vOk_in hvd).2
          have key2 := Lib.hid (key len)
          clear key
          cases hvl : vOk p.secret.length len buf with
          | false =>
            clear key2
            cases buf
            all_goals
              repeat (first
                | go_big_quiet_skip
                | (go_big_quiet_want; first
                    | (go_big_quiet_op; go_big_quiet_on)
                    | (unfold Oper.quiet
                       apply Exists.intro
                       refine ⟨fun W hW => ?_, ?_⟩
                       · first
                         | (obtain ⟨hcW, hfW⟩ := hW.cells; unfold Oper.quietAt; go_simp; exact rfl)
                         | (unfold Oper.quietAt; go_simp; go_at_call 44; exact Calls.ext_of hW (variable_calls ⟨some ⟨sb, so, none⟩, sc, some ⟨bb, off, none⟩, pc, bA, bc⟩ p _ _ _ hn))
                       go_big_quiet_on
                       dsimp only [Act.put]
                       simp only [List.setIfInBounds_toArray, List.set_cons_succ, List.set_cons_zero])))
              refine wpQuiet_nil ?_
              intro wx hx
              go_wp2_with fail
              go_meet
              refine ⟨congrArg Value.bool ?_, hx⟩
              simp [hdOk, *]
          | true =>
            cases buf with
            | false =>
              clear key2
              cases tur <;> cases sec <;> cases hs : secAt p.secret d
              all_goals
                repeat (first
                  | go_big_quiet_skip
                  | (go_big_quiet_want; first
                      | (go_big_quiet_op; go_big_quiet_on)
                      | (unfold Oper.quiet
                         apply Exists.intro
                         refine ⟨fun W hW => ?_, ?_⟩
                         · first
                           | (obtain ⟨hcW, hfW⟩ := hW.cells; unfold Oper.quietAt; go_simp; exact rfl)
                           | (unfold Oper.quietAt; go_simp; go_at_call 44; exact Calls.ext_of hW (variable_calls ⟨some ⟨sb, so, none⟩, sc, some ⟨bb, off, none⟩, pc, bA, bc⟩ p _ _ _ hn))
                         go_big_quiet_on
                         dsimp only [Act.put]
                         simp only [List.setIfInBounds_toArray, List.set_cons_succ, List.set_cons_zero])))
                refine wpQuiet_nil ?_
                intro wx hx
                go_wp2_with fail
                go_meet
                refine ⟨congrArg Value.bool ?_, hx⟩
                simp [hdOk, *]
            | true =>
              obtain ⟨sb', so', e', hsb', hsl⟩ := key2.out hvl
              obtain ⟨rfl, rfl⟩ : sb = sb' ∧ so = so' := by simpa using e'
              have hl0 := (vOk_in hvl).1
              have hl1 := (vOk_in hvl).2
              clear key2 e' hsb'
              cases tur <;> cases sec <;> cases hs : secAt p.secret d <;> cases hs2 : secAt p.secret len
              all_goals
                repeat (first
                  | go_big_quiet_skip
                  | (go_big_quiet_want; first
                      | (go_big_quiet_op; go_big_quiet_on)
                      | (unfold Oper.quiet
                         apply Exists.intro
                         refine ⟨fun W hW => ?_, ?_⟩
                         · first
                           | (obtain ⟨hcW, hfW⟩ := hW.cells; unfold Oper.quietAt; go_simp; exact rfl)
                           | (unfold Oper.quietAt; go_simp; go_at_call 44; exact Calls.ext_of hW (variable_calls ⟨some ⟨sb, so, none⟩, sc, some ⟨bb, off, none⟩, pc, bA, bc⟩ p _ _ _ hn))
                         go_big_quiet_on
                         dsimp only [Act.put]
                         simp only [List.setIfInBounds_toArray, List.set_cons_succ, List.set_cons_zero])))
                refine wpQuiet_nil ?_
                intro wx hx
                go_wp2_with fail
                go_meet
                refine ⟨congrArg Value.bool ?_, hx⟩
                simp [hdOk, *]
      case rest =>
        obtain ⟨rfl, hx⟩ := hcut
        have hEx := hE1.trans hx
        have hownx : wc.ownsRow W0.heap.size 3 1 u3 (metOf (p.params.take j)).length ((metOf (p.params.take j)).map (.int .i64)) := own_ext hown1 hx
        have gx := box_cell (hx.heap hG)
        have hfar : ∀ k, u3.ownBlock = some k → k < wr.heap.size := hfar0
        have glx : wr.heap.size < wc.heap.size := Nat.lt_of_lt_of_le gl hx.size
        have hlm := metOf_len (p.params.take j)
        have hlt2 : (p.params.take j).length ≤ j := List.length_take_le _ _
        have hsn : p.params.take (j + 1) = p.params.take j ++ [h] := by rw [List.take_succ_eq_append_getElem hlt, HH.out]
        have hms := metOf_snoc (p.params.take j) h
        have hbase : W0.heap.size ≤ wc.heap.size := hEx.size
        have hvn : hdOk p.secret h = true → Hid (∀ i (h : i < p.params.length), i < j + 1 → hdOk p.secret p.params[i] = true) := by
          intro hk
          refine Lib.hid ?_
          intro i hi hij
          rcases Nat.lt_succ_iff_lt_or_eq.1 hij with h | rfl
          · exact hv.out i hi h
          · rw [HH.out]; exact hk
        have hno : hdOk p.secret h = false → Hid (paramsOk p = false) := by
          intro hk
          refine Lib.hid ?_
          have hm : h ∈ p.params := by rw [← HH.out]; exact List.getElem_mem _
          unfold paramsOk
          have : p.params.all (hdOk p.secret) = false := by
            rw [List.all_eq_false]
            exact ⟨h, hm, by simp [hk]⟩
          simp [this]
        clear hms hsn
        have hms := metOf_snoc (p.params.take j) h
        have hsn : Hid (p.params.take (j + 1) = p.params.take j ++ [h]) := Lib.hid (by rw [List.take_succ_eq_append_getElem hlt, HH.out])
        cases hk : hdOk p.secret h with
        | false =>
          have hnn := hno hk
          clear hvn hno hms
          go_wp2
          go_ret
          exact ⟨congrArg (fun b => Ending.returned (.bool b)) hnn.out.symm, hE0.trans hEx⟩
        | true =>
          have hvv := hvn hk
          clear hvn hno
          obtain ⟨buf, sec, tur, d, len⟩ := h
          dsimp only at *
          cases buf with
          | false =>
            simp only [Bool.false_eq_true, if_false] at hms
            go_wp2_with (at_builtin; go_loud (refine append_one W0.heap.size rfl _ _ 79 3 (.int .i64 0) 8 rfl Tryz.underlying79 infoInt rfl u3 ((metOf (p.params.take j)).map (.int .i64)) (.int .i64 d) rfl rfl rfl (by simpa using hownx) hbase (by simp only [maxLen, List.length_map]; omega) (by simp only [List.length_map]; omega) ?_); intro v1 w1 hown2 hb2 hgrow2; have gx1 := fun i => (hgrow2.cell_far ⟨wr.heap.size, i, none⟩ glx (fun e => Nat.lt_irrefl _ (hfar _ e.symm))).trans (gx i); clear gx)
            go_roundw
            case rel =>
              refine ⟨j + 1, hlt, rfl, Below.trans hEx hb2, ?_, hvv⟩
              rw [hsn.out, hms]
              simpa using hown2
            case measure => simp [intOf]; omega
          | true =>
            simp only [if_true] at hms
            go_wp2_with (at_builtin; go_loud (first
              | (refine append_one W0.heap.size rfl _ _ 79 3 (.int .i64 0) 8 rfl Tryz.underlying79 infoInt rfl u3 ((metOf (p.params.take j)).map (.int .i64)) (.int .i64 d) rfl rfl rfl (by simpa using hownx) hbase (by simp only [maxLen, List.length_map]; omega) (by simp only [List.length_map]; omega) ?_; intro v1 w1 hown2 hb2 hgrow2; have gx1 := fun i => (hgrow2.cell_far ⟨wr.heap.size, i, none⟩ glx (fun e => Nat.lt_irrefl _ (hfar _ e.symm))).trans (gx i); clear gx; have hbase1 : W0.heap.size ≤ w1.heap.size := Nat.le_trans hbase hb2.size)
              | (refine append_one W0.heap.size rfl _ _ 79 3 (.int .i64 0) 8 rfl Tryz.underlying79 infoInt rfl v1 ((metOf (p.params.take j)).map (.int .i64) ++ [.int .i64 d]) (.int .i64 len) rfl rfl rfl hown2 hbase1 (by simp only [maxLen, List.length_append, List.length_map, List.length_cons, List.length_nil]; omega) (by simp only [List.length_append, List.length_map, List.length_cons, List.length_nil]; omega) ?_; intro v2 w2 hown3 hb3 hgrow3)))
            go_roundw
            case rel =>
              refine ⟨j + 1, hlt, rfl, Below.trans (Below.trans hEx hb2) hb3, ?_, hvv⟩
              rw [hsn.out, hms]
              simpa using hown3
            case measure => simp [intOf]; omega
    · have hjj : j = p.params.length := by omega
      subst hjj
      rw [List.take_length] at hown
      have hlm := metOf_len p.params
      have hbase : W0.heap.size ≤ wr.heap.size := hE.size
      have hwz := Nat.le_of_lt hz
      have hall : Hid (p.params.all (hdOk p.secret) = true) := by
        refine Lib.hid (List.all_eq_true.2 fun h hm => ?_)
        obtain ⟨i, hi, rfl⟩ := List.getElem_of_mem hm
        exact hv.out i hi hi
      clear hv
      obtain ⟨q3, d3, rfl⟩ := own_form hown
      go_wp2_with (first
        | (go_at_call 45; (have hs := sort_own W0.heap.size _ (metOf p.params) wr hown hbase (by omega); refine hs.mono ?_; clear hs; rintro e w1 ⟨rfl, hown1, hb1⟩; replace hE := hE.below hb1; clear hc hf1; obtain ⟨hc, hf1⟩ := hE.cells; have hbase1 : W0.heap.size ≤ w1.heap.size := hE.size; have hown1' : w1.ownsRow W0.heap.size 3 1 (.slice q3 (metOf p.params).length d3) (sorted (metOf p.params)).length ((sorted (metOf p.params)).map (.int .i64)) := by (rw [sorted_len]; exact hown1)))
        | (go_at_call 47; have hs := clone_own W0.heap.size _ (sorted (metOf p.params)) w1 hown1' (by rw [sorted_len]; omega); refine hs.mono ?_; clear hs; rintro e w2 ⟨v2, rfl, hown2, hb2⟩; replace hE := hE.below (hb2.mono hbase1); clear hc hf1; obtain ⟨hc, hf1⟩ := hE.cells)
        | (go_at_call 46; have hs := compact_own w1.heap.size _ (sorted (metOf p.params)) w2 hown2 (by rw [sorted_len]; omega); refine hs.mono ?_; clear hs; rintro e w3 ⟨⟨p3, c3, rfl⟩, hb3⟩; replace hE := hE.below (hb3.mono hbase1); clear hc hf1; obtain ⟨hc, hf1⟩ := hE.cells))
      all_goals
        have hEE := hE0.trans hE
        have hnd := nodup_iff_compact (metOf p.params)
        go_ret
        refine ⟨ret_bool ?_, hEE⟩
        have ha := hall.out
        go_light
        unfold paramsOk
        rw [ha]
        try rw [← hnd]
        grind
end Go.Proofs.YtggjcjdjhgfbmaaGreat
