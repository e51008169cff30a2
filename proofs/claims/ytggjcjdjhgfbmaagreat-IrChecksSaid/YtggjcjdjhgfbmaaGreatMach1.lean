/- The machine of a run, as it lies in memory; what keeps it; what turns it. Conditions: none. -/
import Derived.Test.YtggjcjdjhgfbmaaGreatApp
namespace Go.Proofs.YtggjcjdjhgfbmaaGreat
open Go.RowKit

/-- An object as it lies: what it is, the block of its bytes, their capacity. -/
structure MObj where
  o : LObj
  bb : Nat
  cap : Nat
abbrev MObj.cells (x : MObj) : List Value := [.int .u64 x.o.fr, .slice (some ⟨x.bb, 0, none⟩) x.o.b.length x.cap, .bool x.o.sec, .bool x.o.fixed]
def BytesIn (w : World) (x : MObj) : Prop :=
  ∃ arr lo hi, w.heap[x.bb]? = some (.cells arr 5 (lo, hi)) ∧ arr.toList.take x.o.b.length = x.o.b.map (.int .u8) ∧ (∀ j, j < x.o.b.length → ¬ (lo ≤ j ∧ j < hi)) ∧ x.o.b.length ≤ x.cap ∧ x.o.b.length ≤ 9223372036854775807
structure Spot where
  M : Nat
  vB : Nat
  hv : Value
  av : Value
  lv : Value
  tv : Value
  hs : List MObj
  ar : List MObj
def Spot.own (S : Spot) : List Nat := S.hv.ownBlock.toList ++ (S.av.ownBlock.toList ++ (S.lv.ownBlock.toList ++ (S.tv.ownBlock.toList ++ (S.hs ++ S.ar).map MObj.bb)))
def Spot.blocks (S : Spot) : List Nat := S.M :: S.vB :: S.own
abbrev machCells (S : Spot) (m : Mach) : Array Value :=
  #[.slice (some ⟨S.vB, 0, none⟩) m.v.length m.v.length, S.hv, S.av, S.lv, .int .i64 m.taken, .int .i64 m.size, .int .i64 m.fuel, .int .u8 m.fin, .int .i64 m.trap, .int .u64 m.ret, .slice none 0 0, S.tv, .int .i64 m.steps]
structure MachAt (w : World) (base : Nat) (S : Spot) (m : Mach) : Prop where
  mh : w.heap[S.M]? = some (.cells (machCells S m) 81 (0, 0))
  vh : w.heap[S.vB]? = some (.cells (m.v.map (Value.int .u64)).toArray 46 (0, 0))
  hh : w.ownsRow base 85 4 S.hv S.hs.length (S.hs.flatMap MObj.cells)
  ah : w.ownsRow base 85 4 S.av S.ar.length (S.ar.flatMap MObj.cells)
  lh : w.ownsRow base 3 1 S.lv m.left.length (m.left.map (.int .i64))
  th : w.ownsRow base 46 1 S.tv m.told.length (m.told.map (.int .u64))
  hm : S.hs.map MObj.o = m.handed
  am : S.ar.map MObj.o = m.arena
  bs : ∀ x ∈ S.hs ++ S.ar, BytesIn w x
  nd : S.blocks.Nodup
  lo : ∀ k ∈ S.blocks, base ≤ k
  vl : m.v.length ≤ 9223372036854775807

/-- All that is not the machine's is as it was; what is the machine's now was so, or is new. -/
structure Turn (w w' : World) (S S' : Spot) : Prop where
  os : w'.os = w.os
  tape : w'.tape = w.tape
  output : w'.output = w.output
  size : w.heap.size ≤ w'.heap.size
  block : ∀ k, k < w.heap.size → k ∉ S.blocks → w'.heap[k]? = w.heap[k]?
  own : ∀ k ∈ S'.blocks, k ∈ S.blocks ∨ w.heap.size ≤ k
  M : S'.M = S.M
  vB : S'.vB = S.vB

theorem Turn.refl (w : World) (S : Spot) : Turn w w S S := ⟨rfl, rfl, rfl, Nat.le_refl _, fun _ _ _ => rfl, fun _ h => .inl h, rfl, rfl⟩
theorem Turn.trans {a b c : World} {S T U : Spot} (h : Turn a b S T) (k : Turn b c T U) : Turn a c S U where
  os := k.os.trans h.os
  tape := k.tape.trans h.tape
  output := k.output.trans h.output
  size := Nat.le_trans h.size k.size
  block := fun i hi hn => (k.block i (Nat.lt_of_lt_of_le hi h.size) fun hm => by
    rcases h.own i hm with h1 | h1
    · exact hn h1
    · omega).trans (h.block i hi hn)
  own := fun i hi => by
    rcases k.own i hi with h1 | h1
    · exact h.own i h1
    · exact .inr (Nat.le_trans h.size h1)
  M := k.M.trans h.M
  vB := k.vB.trans h.vB
theorem Turn.ext {w w' : World} (S : Spot) (h : Ext w w') : Turn w w' S S := ⟨h.os, h.tape, h.output, h.size, fun k hk _ => h.block k hk, fun _ h => .inl h, rfl, rfl⟩
/-- One row turned that is the machine's. -/
theorem Turn.of_grown {w w' : World} {S : Spot} {r : Option Nat} (hg : w.grownBy w' r) (hr : ∀ g, r = some g → g ∈ S.blocks) : Turn w w' S S :=
  ⟨hg.os, hg.tape, hg.output, hg.size, fun k hk hn => hg.block k hk fun e => hn (hr k e.symm), fun _ h => .inl h, rfl, rfl⟩
theorem Turn.below {w w' : World} {S S' : Spot} {base : Nat} (h : Turn w w' S S') (hb : ∀ k ∈ S.blocks, base ≤ k) (hz : base ≤ w.heap.size) : Below base w w' :=
  ⟨h.os, h.tape, h.output, h.size, fun k hk => h.block k (Nat.lt_of_lt_of_le hk hz) fun hm => by have := hb k hm; omega⟩
theorem Turn.heap {w w' : World} {S S' : Spot} (h : Turn w w' S S') {b : Nat} {o : Obj} (hb : w.heap[b]? = some o) (hn : b ∉ S.blocks) : w'.heap[b]? = some o :=
  (h.block b (Array.getElem?_eq_some_iff.1 hb).1 hn).trans hb
theorem Turn.not {w w' : World} {S S' : Spot} (h : Turn w w' S S') {b : Nat} (hb : b < w.heap.size) (hn : b ∉ S.blocks) : b ∉ S'.blocks := fun hm => by
  rcases h.own b hm with h1 | h1
  · exact hn h1
  · omega

theorem BytesIn.heap {w w' : World} {x : MObj} (h : BytesIn w x) (e : w'.heap[x.bb]? = w.heap[x.bb]?) : BytesIn w' x := by
  obtain ⟨arr, lo, hi, h1, h2⟩ := h
  exact ⟨arr, lo, hi, e.trans h1, h2⟩
theorem BytesIn.lt {w : World} {x : MObj} (h : BytesIn w x) : x.bb < w.heap.size := by
  obtain ⟨arr, lo, hi, h1, h2⟩ := h
  exact (Array.getElem?_eq_some_iff.1 h1).1
theorem own_lt {w : World} {base : Nat} {e : TypeId} {size n : Nat} {v : Value} {xs : List Value} (h : w.ownsRow base e size v n xs) {k : Nat} (hk : k ∈ v.ownBlock.toList) : k < w.heap.size :=
  (h.lt k (by simpa using hk)).2
/-- All the machine's blocks lie in the heap. -/
theorem MachAt.lt {w : World} {base : Nat} {S : Spot} {m : Mach} (h : MachAt w base S m) : ∀ k ∈ S.blocks, k < w.heap.size := by
  intro k hk
  simp only [Spot.blocks, Spot.own, List.mem_cons, List.mem_append, List.mem_map] at hk
  rcases hk with rfl | rfl | hk | hk | hk | hk | ⟨x, hx, rfl⟩
  · exact (Array.getElem?_eq_some_iff.1 h.mh).1
  · exact (Array.getElem?_eq_some_iff.1 h.vh).1
  · exact own_lt h.hh hk
  · exact own_lt h.ah hk
  · exact own_lt h.lh hk
  · exact own_lt h.th hk
  · exact (h.bs x (List.mem_append.2 hx)).lt
theorem MachAt.ext {w w' : World} {base : Nat} {S : Spot} {m : Mach} (h : MachAt w base S m) (hx : Ext w w') : MachAt w' base S m where
  mh := hx.heap h.mh
  vh := hx.heap h.vh
  hh := own_ext h.hh hx
  ah := own_ext h.ah hx
  lh := own_ext h.lh hx
  th := own_ext h.th hx
  hm := h.hm
  am := h.am
  bs := fun x hx' => (h.bs x hx').heap (hx.block _ (h.bs x hx').lt)
  nd := h.nd
  lo := h.lo
  vl := h.vl

/-- The blocks keep apart, one by one. -/
structure Apart (S : Spot) : Prop where
  Mv : S.M ≠ S.vB
  M : ∀ k ∈ S.own, k ≠ S.M
  v : ∀ k ∈ S.own, k ≠ S.vB
theorem MachAt.apart {w : World} {base : Nat} {S : Spot} {m : Mach} (h : MachAt w base S m) : Apart S := by
  have := h.nd
  simp only [Spot.blocks, List.nodup_cons, List.mem_cons, not_or] at this
  obtain ⟨⟨h1, h2⟩, h3, h4⟩ := this
  exact ⟨h1, fun k hk e => h2 (e ▸ hk), fun k hk e => h3 (e ▸ hk)⟩
theorem own_none {v : Value} {g : Nat} (h : ∀ k ∈ v.ownBlock.toList, k ≠ g) : v.ownBlock = none ∨ v.ownBlock ≠ some g := by
  cases e : v.ownBlock with
  | none => exact .inl rfl
  | some k => right; intro e2; injection e2 with e2; exact h k (by simp [e]) e2

/-- All that lies outside of one block is as it was: the machine's rows, if that block is none of theirs. -/
theorem MachAt.rows {w w' : World} {base : Nat} {S : Spot} {m : Mach} (h : MachAt w base S m) {g : Nat} (hg : w.grownBy w' (some g)) (hn : ∀ k ∈ S.own, k ≠ g) :
    w'.ownsRow base 85 4 S.hv S.hs.length (S.hs.flatMap MObj.cells) ∧ w'.ownsRow base 85 4 S.av S.ar.length (S.ar.flatMap MObj.cells) ∧ w'.ownsRow base 3 1 S.lv m.left.length (m.left.map (.int .i64)) ∧ w'.ownsRow base 46 1 S.tv m.told.length (m.told.map (.int .u64)) ∧ (∀ x ∈ S.hs ++ S.ar, BytesIn w' x) := by
  simp only [Spot.own, List.mem_append, List.mem_map] at hn
  refine ⟨h.hh.kept hg (own_none fun k hk => hn k (.inl hk)), h.ah.kept hg (own_none fun k hk => hn k (.inr (.inl hk))), h.lh.kept hg (own_none fun k hk => hn k (.inr (.inr (.inl hk)))), h.th.kept hg (own_none fun k hk => hn k (.inr (.inr (.inr (.inl hk))))), fun x hx => ?_⟩
  have hb := h.bs x hx
  exact hb.heap (hg.block _ hb.lt fun e => hn x.bb (.inr (.inr (.inr (.inr ⟨x, by simpa using hx, rfl⟩)))) (by injection e))

theorem grown_set (w : World) (g i : Nat) (v : Value) : w.grownBy (w.setCell ⟨g, i, none⟩ v) (some g) :=
  ⟨rfl, rfl, rfl, by simp [World.setCell], fun k _ hk => Below.heap_setCell w _ v k (fun e => hk (by rw [e]))⟩

/-- A variable is set. -/
theorem MachAt.put {w : World} {base : Nat} {S : Spot} {m : Mach} (h : MachAt w base S m) (i x : Int) :
    MachAt (w.setCell ⟨S.vB, i.toNat, none⟩ (.int .u64 x)) base S (m.put i x) := by
  have ha := h.apart
  obtain ⟨r1, r2, r3, r4, r5⟩ := h.rows (grown_set w S.vB i.toNat (.int .u64 x)) ha.v
  refine ⟨?_, ?_, r1, r2, r3, r4, h.hm, h.am, r5, h.nd, h.lo, by simpa [Mach.put] using h.vl⟩
  · rw [setCell_heap_ne (Ne.symm ha.Mv), h.mh]; simp [Mach.put]
  · rw [setCell_heap h.vh]; simp [Mach.put]

/-- A cell of the machine's own is set. -/
theorem MachAt.setM {w : World} {base : Nat} {S : Spot} {m : Mach} (h : MachAt w base S m) (i : Nat) (v : Value) (m' : Mach) (hc : (machCells S m).setIfInBounds i v = machCells S m')
    (e1 : m'.v = m.v) (e2 : m'.left = m.left) (e3 : m'.told = m.told) (e4 : m'.handed = m.handed) (e5 : m'.arena = m.arena) : MachAt (w.setCell ⟨S.M, i, none⟩ v) base S m' := by
  have ha := h.apart
  obtain ⟨r1, r2, r3, r4, r5⟩ := h.rows (grown_set w S.M i v) ha.M
  refine ⟨?_, ?_, r1, r2, by rw [e2]; exact r3, by rw [e3]; exact r4, by rw [e4]; exact h.hm, by rw [e5]; exact h.am, r5, h.nd, h.lo, by rw [e1]; exact h.vl⟩
  · rw [setCell_heap h.mh, hc]
  · rw [setCell_heap_ne ha.Mv, e1]; exact h.vh
theorem Spot.M_mem (S : Spot) : S.M ∈ S.blocks := by simp [Spot.blocks]
theorem Spot.vB_mem (S : Spot) : S.vB ∈ S.blocks := by simp [Spot.blocks]
theorem Turn.put (w : World) (S : Spot) (i : Nat) (v : Value) : Turn w (w.setCell ⟨S.vB, i, none⟩ v) S S := Turn.of_grown (grown_set w _ _ _) (fun g e => by injection e with e; subst e; exact S.vB_mem)
theorem Turn.setM (w : World) (S : Spot) (i : Nat) (v : Value) : Turn w (w.setCell ⟨S.M, i, none⟩ v) S S := Turn.of_grown (grown_set w _ _ _) (fun g e => by injection e with e; subst e; exact S.M_mem)

/-- What is read of the machine. -/
theorem MachAt.m_cell {w : World} {base : Nat} {S : Spot} {m : Mach} (h : MachAt w base S m) : ∀ i, w.cell? ⟨S.M, i, none⟩ = (machCells S m)[i]? := box_cell h.mh
theorem MachAt.v_cell {w : World} {base : Nat} {S : Spot} {m : Mach} (h : MachAt w base S m) (i : Int) (h1 : i < m.v.length) (h0 : 0 ≤ i) : w.cell? ⟨S.vB, i.toNat, none⟩ = some (.int .u64 (m.rd i)) := by
  rw [box_cell h.vh]
  have : i.toNat < m.v.length := by omega
  simp [Mach.rd, this]
theorem MachAt.frozen {w : World} {base : Nat} {S : Spot} {m : Mach} (h : MachAt w base S m) : (∀ i, w.frozen? ⟨S.M, i, none⟩ = false) ∧ (∀ i, w.frozen? ⟨S.vB, i, none⟩ = false) :=
  ⟨fun i => by simp [World.frozen?, h.mh], fun i => by simp [World.frozen?, h.vh]⟩
end Go.Proofs.YtggjcjdjhgfbmaaGreat
