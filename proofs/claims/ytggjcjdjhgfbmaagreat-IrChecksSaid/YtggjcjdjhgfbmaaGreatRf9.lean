/- The walk of Copy: a program taken over whole. Conditions: sizes. -/
import Derived.Test.YtggjcjdjhgfbmaaGreatOwn2
import Derived.Deep.RegionHeld3
namespace Go.Proofs.YtggjcjdjhgfbmaaGreat
open Go.RowKit Go.BigFrame

theorem one_bools (l : List Bool) : ∀ u ∈ l.map Value.bool, u.oneCell' = true := by
  intro u hu; obtain ⟨b, _, rfl⟩ := List.mem_map.1 hu; rfl
theorem one_hds (l : List LHd) : ∀ u ∈ l.flatMap LHd.cells, u.oneCell' = true := by
  intro u hu
  obtain ⟨h, _, hm⟩ := List.mem_flatMap.1 hu
  simp only [List.mem_cons, List.not_mem_nil, or_false] at hm
  rcases hm with rfl | rfl | rfl | rfl | rfl <;> rfl
theorem one_ops (l : List LOp) : ∀ u ∈ l.flatMap LOp.cells, u.oneCell' = true := by
  intro u hu
  obtain ⟨h, _, hm⟩ := List.mem_flatMap.1 hu
  simp only [List.mem_cons, List.not_mem_nil, or_false] at hm
  rcases hm with rfl | rfl | rfl | rfl | rfl | rfl <;> rfl
theorem one_mbl (x : MBl) : ∀ u ∈ x.cells, u.oneCell' = true := by
  intro u hm
  simp only [List.mem_cons, List.not_mem_nil, or_false] at hm
  rcases hm with rfl | rfl | rfl | rfl | rfl <;> rfl

theorem IrAt.srcS {w : World} {L : Lay} {p : LIr} (h : IrAt w L p) : SrcRow w L.sA p.secret.length 1 (p.secret.map .bool) := by simpa using h.rs.src
/-- What stays while the first statement's operations come in whatever order. -/
theorem heldAlloc {W0 W : World} {B : Nat} {x y : Option Value} (o : Obj) (hB : B < W0.heap.size) (h : W.cell? ⟨B, 0, none⟩ = x ∧ W.cell? ⟨B, 1, none⟩ = y ∧ Ext W0 W) : (W.alloc o).cell? ⟨B, 0, none⟩ = x ∧ (W.alloc o).cell? ⟨B, 1, none⟩ = y ∧ Ext W0 (W.alloc o) := by
  have hx := below_alloc1 (w := W) o
  have hB' := Nat.lt_of_lt_of_le hB h.2.2.size
  exact ⟨(Ext.cells hx).1 _ _ hB' ▸ h.1, (Ext.cells hx).1 _ _ hB' ▸ h.2.1, h.2.2.alloc o⟩
theorem heldDrew {W0 W : World} {B : Nat} {x y : Option Value} (h : W.cell? ⟨B, 0, none⟩ = x ∧ W.cell? ⟨B, 1, none⟩ = y ∧ Ext W0 W) : W.drew.cell? ⟨B, 0, none⟩ = x ∧ W.drew.cell? ⟨B, 1, none⟩ = y ∧ Ext W0 W.drew := ⟨h.1, h.2.1, h.2.2.drew⟩
theorem heldExt {W0 W W' : World} {B : Nat} {x y : Option Value} (hB : B < W0.heap.size) (h : W.cell? ⟨B, 0, none⟩ = x ∧ W.cell? ⟨B, 1, none⟩ = y ∧ Ext W0 W) (hx : Ext W W') : W'.cell? ⟨B, 0, none⟩ = x ∧ W'.cell? ⟨B, 1, none⟩ = y ∧ Ext W0 W' := by
  have hB' := Nat.lt_of_lt_of_le hB h.2.2.size
  exact ⟨(Ext.cells hx).1 _ _ hB' ▸ h.1, (Ext.cells hx).1 _ _ hB' ▸ h.2.1, h.2.2.trans hx⟩
theorem heldSet {W0 W : World} {B g i : Nat} {v : Value} {x y : Option Value} (hB : B < W0.heap.size) (hg : W0.heap.size ≤ g) (h : W.cell? ⟨B, 0, none⟩ = x ∧ W.cell? ⟨B, 1, none⟩ = y ∧ Ext W0 W) : (W.setCell ⟨g, i, none⟩ v).cell? ⟨B, 0, none⟩ = x ∧ (W.setCell ⟨g, i, none⟩ v).cell? ⟨B, 1, none⟩ = y ∧ Ext W0 (W.setCell ⟨g, i, none⟩ v) := by
  have hx : Ext W0 (W.setCell ⟨g, i, none⟩ v) := h.2.2.set hg i v
  have e : ∀ j, (W.setCell ⟨g, i, none⟩ v).cell? ⟨B, j, none⟩ = W.cell? ⟨B, j, none⟩ := fun j => World.cell?_setCell_other W _ _ v (fun e => by injection e; omega)
  exact ⟨(e 0).trans h.1, (e 1).trans h.2.1, hx⟩

theorem own_base {w : World} {base b : Nat} {e : TypeId} {size n : Nat} {v : Value} {xs : List Value} (h : w.ownsRow b e size v n xs) (hb : base ≤ b) : w.ownsRow base e size v n xs := by
  refine ⟨h.1, ?_⟩
  rcases h.2 with h0 | ⟨g, cap, cur, rfl, h1, h2⟩
  · exact .inl h0
  · exact .inr ⟨g, cap, cur, rfl, Nat.le_trans hb h1, h2⟩
abbrev zeroIr : Obj := .cells #[.slice none 0 0, .slice none 0 0, .slice none 0 0] 26
theorem halfNew1 {w1 w2 : World} {base b1 b2 : Nat} {q1 q2 : Option Addr} {d1 d2 : Nat} {p : LIr} (h1 : w1.ownsRow b1 4 1 (.slice q1 p.secret.length d1) p.secret.length (p.secret.map .bool)) (h2 : w2.ownsRow b2 61 5 (.slice q2 p.params.length d2) p.params.length (p.params.flatMap LHd.cells))
    (hx : Ext w1 w2) (hb1 : base ≤ b1) (hb2 : base ≤ b2) : Half (w2.alloc (.cells #[.slice q1 p.secret.length d1, .slice q2 p.params.length d2, .slice none 0 0] 26)) base w2.heap.size ⟨q1, d1, q2, d2, none, 0⟩ p [] :=
  ⟨heap_alloc_self _ _, (own_base (own_ext h1 hx) hb1).alloc _, (own_base h2 hb2).alloc _, World.ownsRow_nil _ _ _ _, fun x hm => by cases hm⟩
theorem halfNew2 {w1 w2 : World} {base b1 b2 G : Nat} {q1 q2 : Option Addr} {d1 d2 : Nat} {p : LIr} (h1 : w1.ownsRow b1 4 1 (.slice q1 p.secret.length d1) p.secret.length (p.secret.map .bool)) (h2 : w2.ownsRow b2 61 5 (.slice q2 p.params.length d2) p.params.length (p.params.flatMap LHd.cells))
    (hx : Ext w1 w2) (hb1 : base ≤ b1) (hb2 : base ≤ b2) (hG : w2.heap[G]? = some zeroIr) :
    Half (((w2.setCell ⟨G, 0, none⟩ (.slice q1 p.secret.length d1)).setCell ⟨G, 1, none⟩ (.slice q2 p.params.length d2)).setCell ⟨G, 2, none⟩ (.slice none 0 0)) base G ⟨q1, d1, q2, d2, none, 0⟩ p [] := by
  have k1 := own_base (own_ext h1 hx) hb1
  have k2 := own_base h2 hb2
  have a1 := only_set w2 G 0 (.slice q1 p.secret.length d1)
  have a2 := only_set (w2.setCell ⟨G, 0, none⟩ (.slice q1 p.secret.length d1)) G 1 (.slice q2 p.params.length d2)
  have a3 := only_set ((w2.setCell ⟨G, 0, none⟩ (.slice q1 p.secret.length d1)).setCell ⟨G, 1, none⟩ (.slice q2 p.params.length d2)) G 2 (.slice none 0 0)
  have n1 := own_ne_blk k1 hG (by decide)
  have n2 := own_ne_blk k2 hG (by decide)
  refine ⟨?_, ((k1.kept a1 n1).kept a2 n1).kept a3 n1, ((k2.kept a1 n2).kept a2 n2).kept a3 n2, World.ownsRow_nil _ _ _ _, fun x hm => by cases hm⟩
  have g1 := setCell_heap hG 0 (.slice q1 p.secret.length d1)
  have g2 := setCell_heap g1 1 (.slice q2 p.params.length d2)
  have g3 := setCell_heap g2 2 (.slice none 0 0)
  simpa using g3

theorem IrOwn.setBox {w : World} {base : Nat} {L : Lay} {p : LIr} {ms : List MBl} {G : Nat} {cs : Array Value} {fr : Nat × Nat} (h : IrOwn w base L p ms) (hG : w.heap[G]? = some (.cells cs 26 fr)) (i : Nat) (v : Value) : IrOwn (w.setCell ⟨G, i, none⟩ v) base L p ms := by
  have hs := only_set w G i v
  exact ⟨h.os.kept hs (own_ne_blk h.os hG (by decide)), h.op.kept hs (own_ne_blk h.op hG (by decide)), h.ob.kept hs (own_ne_blk h.ob hG (by decide)), h.em, fun x hx => (h.oo x hx).kept hs (own_ne_blk (h.oo x hx) hG (by decide))⟩
theorem IrOwn.mono {w : World} {base b : Nat} {L : Lay} {p : LIr} {ms : List MBl} (h : IrOwn w b L p ms) (hb : base ≤ b) : IrOwn w base L p ms :=
  ⟨own_base h.os hb, own_base h.op hb, own_base h.ob hb, h.em, fun x hx => own_base (h.oo x hx) hb⟩

set_option maxRecDepth 100000 in
set_option maxHeartbeats 8000000 in
theorem copy_calls (L : Lay) (p : LIr) (w : World) (hp : IrAt w L p) (hs : p.secret.length ≤ 1000000) (hl : p.params.length ≤ 1000000) (hb : p.blocks.length ≤ 1000000) (hsm : ∀ b ∈ p.blocks, b.ops.length ≤ 1000000) :
    Calls Tryz.prog 10 #[L.val p] w fun e w' => ∃ M ms, e = .returned (Lay.val M p) ∧ IrOwn w' w.heap.size M p ms ∧ Ext w w' := by
  have hn := hp.ns
  have hE0 := (Ext.alloc (Ext.refl w) (L.box p)).alloc (.cells #[.slice none 0 0, .slice none 0 0, .slice none 0 0] 26)
  have hpx := hp.ext hE0
  have hP : ((w.alloc (L.box p)).alloc (.cells #[.slice none 0 0, .slice none 0 0, .slice none 0 0] 26)).heap[w.heap.size]? = some (L.box p) := heap_alloc_was (heap_alloc_self w (L.box p)) _
  have hR : ((w.alloc (L.box p)).alloc (.cells #[.slice none 0 0, .slice none 0 0, .slice none 0 0] 26)).heap[w.heap.size + 1]? = some (.cells #[.slice none 0 0, .slice none 0 0, .slice none 0 0] 26) := heap_alloc_at _ _ (by simp)
  have Hsm := Lib.hid hsm
  clear hsm
  obtain ⟨sA, sc, pA, pc, bA, bc⟩ := L
  go_enter Tryz.func10, Tryz.ntmps10
  go_upto_region 1 with fail
  generalize hW : (w.alloc (Lay.box ⟨sA, sc, pA, pc, bA, bc⟩ p)).alloc (.cells #[.slice none 0 0, .slice none 0 0, .slice none 0 0] 26) = W0 at hpx hP hR hE0 ⊢
  have hz : w.heap.size < W0.heap.size := (Array.getElem?_eq_some_iff.1 hP).1
  have hz1 : w.heap.size + 1 < W0.heap.size := (Array.getElem?_eq_some_iff.1 hR).1
  clear hW
  have c0 : W0.cell? ⟨w.heap.size, 0, none⟩ = some (.slice sA p.secret.length sc) := box_cell hP 0
  have c1 : W0.cell? ⟨w.heap.size, 1, none⟩ = some (.slice pA p.params.length pc) := box_cell hP 1
  go_cut [3] (fun x wx => ∃ (G : Nat) (M : Lay), x = .pointer (some ⟨G, 0, none⟩) ∧ W0.heap.size ≤ G ∧ M.bA = none ∧ M.bc = 0 ∧ Half wx W0.heap.size G M p [] ∧ Ext W0 wx)
  case first =>
    have hS00 : W0.cell? ⟨w.heap.size, 0, none⟩ = some (.slice sA p.secret.length sc) ∧ W0.cell? ⟨w.heap.size, 1, none⟩ = some (.slice pA p.params.length pc) ∧ Ext W0 W0 := ⟨c0, c1, Ext.refl W0⟩
    have hS0 : W0.drew.cell? ⟨w.heap.size, 0, none⟩ = some (.slice sA p.secret.length sc) ∧ W0.drew.cell? ⟨w.heap.size, 1, none⟩ = some (.slice pA p.params.length pc) ∧ Ext W0 W0.drew := ⟨c0, c1, (Ext.refl W0).drew⟩
    go_region_held3 (fun W => W.cell? ⟨w.heap.size, 0, none⟩ = some (.slice sA p.secret.length sc) ∧ W.cell? ⟨w.heap.size, 1, none⟩ = some (.slice pA p.params.length pc) ∧ Ext W0 W) ((repeat (first | assumption | refine heldDrew ?_ | refine heldAlloc _ hz ?_ | (refine heldSet hz (by omega) ?_) | (refine heldExt hz ?_ (by assumption))))) (first | (refine step_append_src rfl (.tmp 7) 22 (by rfl) 4 (.bool false) 1 1 Tryz.underlying22 infoBo (by rfl) (by omega) sA p.secret.length sc (p.secret.map .bool) (by rfl) (hpx.ext (by assumption : _ ∧ _ ∧ Ext W0 _).2.2).srcS (one_bools _) (by simp only [maxLen]; omega) (by omega) ?_; intro v1 w1 hown1 hx1; obtain ⟨q1, d1, rfl⟩ := own_form hown1; obtain ⟨hc1, hf1⟩ := hx1.cells; have hs1 := hx1.size; (try simp at hs1); (try have ht1 : W0.heap.size < w1.heap.size := by omega)) | (refine step_append_src rfl (.tmp 10) 23 (by rfl) 61 _ 5 24 Tryz.underlying23 infoHd (by rfl) (by omega) pA p.params.length pc (p.params.flatMap LHd.cells) (by rfl) (hpx.ext (by assumption : _ ∧ _ ∧ Ext W0 _).2.2).rp.src (one_hds _) (by simp only [maxLen]; omega) (by omega) ?_; intro v2 w2 hown2 hx2; obtain ⟨q2, d2, rfl⟩ := own_form hown2; obtain ⟨hc2, hf2⟩ := hx2.cells; have hs2 := hx2.size; (try simp at hs2); (try have ht2 : W0.heap.size < w2.heap.size := by omega)))
    all_goals
      go_wp2_with fail
      go_meet
    · have hX := Ext.trans (Ext.trans (Ext.refl W0).drew hx1) hx2
      exact ⟨_, _, rfl, hX.size, rfl, rfl, halfNew1 hown1 hown2 hx2 (Nat.le_refl _) (Ext.trans (Ext.refl W0).drew hx1).size, hX.alloc _⟩
    · have hX1 := Ext.trans (Ext.refl W0).drew hx1
      have hX := Ext.trans (hX1.alloc _) hx2
      exact ⟨_, _, rfl, hX1.size, rfl, rfl, halfNew2 hown1 hown2 (Ext.trans (below_alloc1 _) hx2) (Nat.le_refl _) (hX1.alloc _).size (hx2.heap (heap_alloc_self _ _)), ((hX.set hX1.size _ _).set hX1.size _ _).set hX1.size _ _⟩
    · have hX1 := Ext.trans (((Ext.refl W0).alloc _).drew) hx1
      have hX := Ext.trans hX1 hx2
      exact ⟨_, _, rfl, Nat.le_refl _, rfl, rfl, halfNew2 hown1 hown2 hx2 (((Ext.refl W0).alloc _).drew).size hX1.size (hx2.heap (hx1.heap (heap_alloc_self _ _))), ((hX.set (Nat.le_refl _) _ _).set (Nat.le_refl _) _ _).set (Nat.le_refl _) _ _⟩
  case rest =>
    obtain ⟨G, ⟨mA, mc, nA, nc, rA0, rc0⟩, rfl, hGl, hbA, hbc, hH, hX⟩ := hcut
    dsimp only at hbA hbc
    subst hbA hbc
    go_wp2
    go_loopw [4] (fun i wr => ∃ (ms : List MBl) (rA : Option Addr) (rc : Nat), ms.length ≤ p.blocks.length ∧ i = .int .i64 ms.length ∧ Half wr W0.heap.size G ⟨mA, mc, nA, nc, rA, rc⟩ p ms ∧ Hid (ms.map MBl.b = p.blocks.take ms.length) ∧ Ext W0 wr) (fun i _ => p.blocks.length - (intOf i).toNat)
    case atStart => exact ⟨[], none, 0, Nat.zero_le _, rfl, hH, Lib.hid rfl, hX⟩
    case round =>
      clear hH hX c0 c1
      obtain ⟨ms, rA, rc, hj, rfl, hH, hmap, hX⟩ := hrel
      have q0 := box_cell (hX.heap hP)
      dsimp only at q0
      have hzr := Nat.lt_of_lt_of_le hz hX.size
      have hzr1 := Nat.lt_of_lt_of_le hz1 hX.size
      by_cases hlt : ms.length < p.blocks.length
      · obtain ⟨bb, off, A, c, rfl, hb1, ⟨h0, h1, h2, h3, h4⟩, hcl, hrow⟩ := (hpx.ext hX).rb.2 ms.length hlt
        have hsb := Hsm.out _ (List.getElem_mem hlt)
        have htk : Hid (p.blocks.take (ms.length + 1) = p.blocks.take ms.length ++ [p.blocks[ms.length]]) := Lib.hid (List.take_succ_eq_append_getElem hlt)
        generalize p.blocks[ms.length] = b at *
        have hop := hrow.1
        go_upto_region 6 with fail
        generalize hW1 : wr.alloc (b.box A c) = W1
        have hB : W1.heap[wr.heap.size]? = some (b.box A c) := by rw [← hW1]; exact heap_alloc_self _ _
        have hX1 : Ext wr W1 := by rw [← hW1]; exact below_alloc1 _
        clear hW1
        have hs1 := (hrow.ext hX1).src
        have hH1 := hH.ext hX1
        have b1 := box_cell hB
        have bl1 := (Array.getElem?_eq_some_iff.1 hB).1
        have hf1 := fun i => (by simp [World.frozen?, hB] : W1.frozen? ⟨wr.heap.size, i, none⟩ = false)
        clear q0 h0 h1 h2 h3 h4
        go_upto_region 7 with (at_builtin; refine wpList_append_src rfl (.tmp 26) 36 (by rfl) 54 _ 6 40 Tryz.underlying36 infoOp (by rfl) (by omega) A b.ops.length c (b.ops.flatMap LOp.cells) (by rfl) hs1 (one_ops _) (by simp only [maxLen]; omega) (by omega) ?_; intro v1 w1 hown1 hx1; obtain ⟨q1, d1, rfl⟩ := own_form hown1; have b2 := box_cell (hx1.heap hB); have bl2 := Nat.lt_of_lt_of_le bl1 hx1.size; have hf2 := fun i => (by simp [World.frozen?, hx1.heap hB] : w1.frozen? ⟨wr.heap.size, i, none⟩ = false); clear b1 hf1)
        generalize hW2 : w1.setCell ⟨wr.heap.size, 0, none⟩ (.slice q1 b.ops.length d1) = W2
        have hB2 : W2.heap[wr.heap.size]? = some (.cells #[.slice q1 b.ops.length d1, .int .u8 b.fin, .int .i64 b.a, .int .i64 b.to, .int .i64 b.els] 38 (0, 0)) := by
          rw [← hW2, setCell_heap (hx1.heap hB)]; simp
        have hX2 : Ext wr W2 := by rw [← hW2]; exact (hX1.trans hx1).set (Nat.le_refl _) _ _
        have hH2 := hH.ext hX2
        have hown2 : W2.ownsRow W0.heap.size 54 6 (.slice q1 b.ops.length d1) b.ops.length (b.ops.flatMap LOp.cells) := by
          rw [← hW2]
          exact own_base (hown1.kept (only_set _ _ _ _) (own_ne_blk hown1 (hx1.heap hB) (by decide))) (hX.trans hX1).size
        clear hW2 b2 bl2 bl1 hown1 hH1 hs1
        have b2 := box_cell hB2
        have bl2 := (Array.getElem?_eq_some_iff.1 hB2).1
        have g0 := box_cell hH2.gh 2
        have gl := hH2.lt
        have hbase := (hX.trans hX2).size
        have hne : some G ≠ (Value.slice rA ms.length rc).ownBlock := by
          rcases own_ne_blk hH2.ob hH2.gh (by decide) with e | e
          · rw [e]; simp
          · exact fun e' => e e'.symm
        go_wp2_with (at_builtin; refine append_elem W0.heap.size rfl (.tmp 30) (.tmp 32) 24 38 _ 5 56 (by rfl) Tryz.underlying24 infoBl (by rfl) (by omega) (.slice rA ms.length rc) ms.length (ms.flatMap MBl.cells) (MBl.cells ⟨b, q1, d1⟩) (by rfl) (by rfl) (by rfl) (one_mbl _) hH2.ob hbase (by simp only [maxLen]; omega) (by omega) ?_; intro v2 w2 hown3 hb2 hgr2; obtain ⟨q2, d2, rfl⟩ := own_form hown3; have hG2 := (hgr2.block G gl hne).trans hH2.gh; have g2 := box_cell hG2; have gf2 := fun i => (by simp [World.frozen?, hG2] : w2.frozen? ⟨G, i, none⟩ = false); clear b2 g0)
        go_roundw
        case rel =>
          refine ⟨ms ++ [⟨b, q1, d1⟩], q2, d2, by simp; omega, by simp, ?_, Lib.hid ?_, ?_⟩
          · have := hH2.snoc (x := ⟨b, q1, d1⟩) hown2 hgr2 hown3
            simpa using this
          · have e := hmap.out
            have e2 := htk.out
            simp only [List.map_append, List.map_cons, List.map_nil, List.length_append, List.length_cons, List.length_nil]
            rw [e, e2]
          · have h1 : Ext W0 w2 := Below.trans (Ext.trans hX hX2) hb2
            exact h1.set hGl _ _
        case measure => simp [intOf]; omega
      · have hlen : ms.length = p.blocks.length := by omega
        have Hl := Lib.hid hlen
        clear hlen
        have g := box_cell hH.gh
        have gl := hH.lt
        have hR' := hX.heap hR
        have r := box_cell hR'
        have rf := fun i => (by simp [World.frozen?, hR'] : wr.frozen? ⟨w.heap.size + 1, i, none⟩ = false)
        go_wp2
        have hO : IrOwn wr w.heap.size ⟨mA, mc, nA, nc, rA, rc⟩ p ms := (hH.own (by rw [hmap.out, Hl.out, List.take_length])).mono hE0.size
        have hO3 := ((hO.setBox hR' 0 (.slice mA p.secret.length mc)).setBox (setCell_heap hR' 0 _) 1 (.slice nA p.params.length nc)).setBox (setCell_heap (setCell_heap hR' 0 _) 1 _) 2 (.slice rA ms.length rc)
        have hE3 := (((hE0.trans hX).set (Nat.le_succ w.heap.size) 0 (.slice mA p.secret.length mc)).set (Nat.le_succ w.heap.size) 1 (.slice nA p.params.length nc)).set (Nat.le_succ w.heap.size) 2 (.slice rA ms.length rc)
        have hr3 := box_cell (setCell_heap (setCell_heap (setCell_heap hR' 0 (.slice mA p.secret.length mc)) 1 (.slice nA p.params.length nc)) 2 (.slice rA ms.length rc))
        generalize ((wr.setCell ⟨w.heap.size + 1, 0, none⟩ (.slice mA p.secret.length mc)).setCell ⟨w.heap.size + 1, 1, none⟩ (.slice nA p.params.length nc)).setCell ⟨w.heap.size + 1, 2, none⟩ (.slice rA ms.length rc) = Wf at hO3 hE3 hr3 ⊢
        have r0 := hr3 0
        have r1 := hr3 1
        have r2 := hr3 2
        simp at r0 r1 r2
        exact bodyPost_ret (v := .agg #[.slice mA p.secret.length mc, .slice nA p.params.length nc, .slice rA ms.length rc]) (by simp [results, Tryz.results10, go_sem, r0, r1, r2]) rfl ⟨⟨mA, mc, nA, nc, rA, rc⟩, by simp only [Hl.out], ⟨ms, hO3⟩, hE3⟩
end Go.Proofs.YtggjcjdjhgfbmaaGreat
