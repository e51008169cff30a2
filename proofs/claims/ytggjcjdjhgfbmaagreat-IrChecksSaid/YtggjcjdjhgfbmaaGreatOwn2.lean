/- Programs that a call makes, 2: an element of several cells is appended; rows of other kinds stay. Conditions: none. -/
import Derived.Test.YtggjcjdjhgfbmaaGreatOwn1
namespace Go.Proofs.YtggjcjdjhgfbmaaGreat
open Go.RowKit

theorem infoOp : (Tryz.prog.info? 54).map (fun i => (i.zero, i.size, i.bytes)) = some (some (.agg #[.int .u8 0, .int .u8 0, .int .i64 0, .int .i64 0, .int .i64 0, .int .u64 0]), 6, 40) := by kernel_rfl
theorem infoHd : (Tryz.prog.info? 61).map (fun i => (i.zero, i.size, i.bytes)) = some (some (.agg #[.bool false, .bool false, .bool false, .int .i64 0, .int .i64 0]), 5, 24) := by kernel_rfl
theorem infoBl : (Tryz.prog.info? 38).map (fun i => (i.zero, i.size, i.bytes)) = some (some (.agg #[.slice none 0 0, .int .u8 0, .int .i64 0, .int .i64 0, .int .i64 0]), 5, 56) := by kernel_rfl
theorem infoBo : (Tryz.prog.info? 4).map (fun i => (i.zero, i.size, i.bytes)) = some (some (.bool false), 1, 1) := by kernel_rfl

theorem append_elem {P : Program} {ops : Array Oper} {rest : List Oper} {o : Oper} {a : Act} {Q : Exit → Act → World → Prop} {W : World} (base : Nat) (hgd : o.guard = none) (s x : Operand) (t e : TypeId) (z : Value) (size bytes : Nat)
    (ho : o.op = .call { callee := .builtin .append, args := #[s, x], argTypes := #[t, t] })
    (ht : P.underlying t = some (.slice e)) (hinfo : (P.info? e).map (fun i => (i.zero, i.size, i.bytes)) = some (some z, size, bytes)) (hz : z.cells.size = size) (hsz : 0 < size)
    (v : Value) (n : Nat) (xs ys : List Value) (hy : ys.length = size) (hs : a.eval s = v) (hx : a.eval x = .slice (some ⟨W.heap.size, 0, none⟩) 1 1) (h1 : ∀ u ∈ ys, u.oneCell' = true)
    (HO : W.ownsRow base e size v n xs) (hbase : base ≤ W.heap.size) (hl : n + 1 ≤ maxLen) (hlb : (n + 1) * bytes ≤ 140737488355328)
    (h : ∀ v1 w1, w1.ownsRow base e size v1 (n + 1) (xs ++ ys) → Below base W w1 → W.grownBy w1 v.ownBlock → wpList P ops Q rest (a.put o.dst v1) w1) :
    wpList P ops Q (o :: rest) a (W.alloc (.cells ys.toArray e)) := by
  obtain ⟨i0, hi, hzz⟩ := Option.map_eq_some_iff.1 hinfo
  simp only [Prod.mk.injEq] at hzz
  obtain ⟨hz0, hz1, hz2⟩ := hzz
  refine wpList_append_own_at (W.alloc (.cells ys.toArray e)) hgd s x t ho base e i0 z size bytes ht hi hz0 hz1 hz2 hz hsz v n xs hs (HO.alloc _) ⟨W.heap.size, 0, none⟩ 1 1 ys hx (by omega)
    (World.news_of_block (cs := ys.toArray) (t := e) (fr := (0, 0)) (heap_alloc_new W _)) h1 hl hlb (by simp; omega) ?_
  intro v1 w1 hown hg _ _
  have hg2 := World.grownBy.trans (World.grownBy_alloc W _ _) hg
  exact h v1 w1 hown ((Below.refl base W).grown hg2 hbase (own_from HO)) hg2

theorem own_ne_blk {w : World} {base : Nat} {e : TypeId} {size n : Nat} {v : Value} {xs : List Value} {G : Nat} {cs : Array Value} {t : TypeId} {fr : Nat × Nat} (h : w.ownsRow base e size v n xs) (hG : w.heap[G]? = some (.cells cs t fr)) (hne : e ≠ t) :
    v.ownBlock = none ∨ v.ownBlock ≠ some G := by
  rcases h.2 with ⟨rfl, _⟩ | ⟨g, cap, cur, rfl, _, hh, _⟩
  · exact .inl rfl
  · right
    intro he
    have : g = G := by simpa [Value.ownBlock] using he
    subst this
    rw [hh] at hG
    injection hG with hG
    injection hG with _ ht _
    exact hne ht
theorem own_ne_own {w : World} {base base' : Nat} {e e' : TypeId} {size n size' n' : Nat} {v v' : Value} {xs xs' : List Value} (h : w.ownsRow base e size v n xs) (h' : w.ownsRow base' e' size' v' n' xs') (hne : e ≠ e') :
    v.ownBlock = none ∨ v.ownBlock ≠ v'.ownBlock := by
  rcases h'.2 with ⟨rfl, _⟩ | ⟨g, cap, cur, rfl, _, hh, _⟩
  · rcases h.2 with ⟨rfl, _⟩ | ⟨g, cap, cur, rfl, _, hh, _⟩
    · exact .inl rfl
    · right; simp [Value.ownBlock]
  · exact own_ne_blk h hh hne
theorem only_set (w : World) (g i : Nat) (v : Value) : w.grownBy (w.setCell ⟨g, i, none⟩ v) (some g) :=
  ⟨rfl, rfl, rfl, by simp [World.setCell], fun k _ hk => Below.heap_setCell w _ v k (fun e => hk (by rw [e]))⟩

/-- A program that is being made: its own box, its rows. -/
structure Half (w : World) (base G : Nat) (L : Lay) (p : LIr) (ms : List MBl) : Prop where
  gh : w.heap[G]? = some (.cells #[.slice L.sA p.secret.length L.sc, .slice L.pA p.params.length L.pc, .slice L.bA ms.length L.bc] 26 (0, 0))
  os : w.ownsRow base 4 1 (.slice L.sA p.secret.length L.sc) p.secret.length (p.secret.map .bool)
  op : w.ownsRow base 61 5 (.slice L.pA p.params.length L.pc) p.params.length (p.params.flatMap LHd.cells)
  ob : w.ownsRow base 38 5 (.slice L.bA ms.length L.bc) ms.length (ms.flatMap MBl.cells)
  oo : ∀ x ∈ ms, w.ownsRow base 54 6 (.slice x.A x.b.ops.length x.c) x.b.ops.length (x.b.ops.flatMap LOp.cells)
theorem Half.lt {w : World} {base G : Nat} {L : Lay} {p : LIr} {ms : List MBl} (h : Half w base G L p ms) : G < w.heap.size := (Array.getElem?_eq_some_iff.1 h.gh).1
theorem Half.ext {w w' : World} {base G : Nat} {L : Lay} {p : LIr} {ms : List MBl} (h : Half w base G L p ms) (hx : Ext w w') : Half w' base G L p ms :=
  ⟨hx.heap h.gh, own_ext h.os hx, own_ext h.op hx, own_ext h.ob hx, fun x hm => own_ext (h.oo x hm) hx⟩
theorem Half.own {w : World} {base G : Nat} {L : Lay} {p : LIr} {ms : List MBl} (h : Half w base G L p ms) (he : ms.map MBl.b = p.blocks) : IrOwn w base L p ms := by
  have e : ms.length = p.blocks.length := by rw [← he]; simp
  refine ⟨h.os, h.op, ?_, he, h.oo⟩
  have := h.ob
  rwa [e] at this
/-- One block more: the row of blocks has grown, the box holds it. -/
theorem Half.snoc {w w1 : World} {base G : Nat} {sA pA bA bA' : Option Addr} {sc pc bc bc' : Nat} {p : LIr} {ms : List MBl} {x : MBl} (h : Half w base G ⟨sA, sc, pA, pc, bA, bc⟩ p ms)
    (hx : w.ownsRow base 54 6 (.slice x.A x.b.ops.length x.c) x.b.ops.length (x.b.ops.flatMap LOp.cells))
    (hg : w.grownBy w1 (Value.slice bA ms.length bc).ownBlock) (ho : w1.ownsRow base 38 5 (.slice bA' (ms.length + 1) bc') (ms.length + 1) (ms.flatMap MBl.cells ++ x.cells)) :
    Half (w1.setCell ⟨G, 2, none⟩ (.slice bA' (ms.length + 1) bc')) base G ⟨sA, sc, pA, pc, bA', bc'⟩ p (ms ++ [x]) := by
  have hne : some G ≠ (Value.slice bA ms.length bc).ownBlock := by
    rcases own_ne_blk h.ob h.gh (by decide) with e | e
    · rw [e]; simp
    · exact fun e' => e e'.symm
  have hG1 : w1.heap[G]? = some (.cells #[.slice sA p.secret.length sc, .slice pA p.params.length pc, .slice bA ms.length bc] 26 (0, 0)) := (hg.block G h.lt hne).trans h.gh
  have k1 := h.os.kept hg (own_ne_own h.os h.ob (by decide))
  have k2 := h.op.kept hg (own_ne_own h.op h.ob (by decide))
  have k3 : ∀ y ∈ ms ++ [x], w1.ownsRow base 54 6 (.slice y.A y.b.ops.length y.c) y.b.ops.length (y.b.ops.flatMap LOp.cells) := by
    intro y hy
    rcases List.mem_append.1 hy with hy | hy
    · exact (h.oo y hy).kept hg (own_ne_own (h.oo y hy) h.ob (by decide))
    · rw [List.mem_singleton.1 hy]; exact hx.kept hg (own_ne_own hx h.ob (by decide))
  have hs := only_set w1 G 2 (.slice bA' (ms.length + 1) bc')
  refine ⟨?_, k1.kept hs (own_ne_blk k1 hG1 (by decide)), k2.kept hs (own_ne_blk k2 hG1 (by decide)), ?_, fun y hy => (k3 y hy).kept hs (own_ne_blk (k3 y hy) hG1 (by decide))⟩
  · rw [setCell_heap hG1]; simp
  · have := ho.kept hs (own_ne_blk ho hG1 (by decide))
    simpa using this
end Go.Proofs.YtggjcjdjhgfbmaaGreat
