/- Words for the walks: what the memory holds of a program of small steps, and small laws on worlds. Conditions: none. -/
import Derived.Test.YtggjcjdjhgfbmaaGreatProg
import Derived.Test.YtggjcjdjhgfbmaaGreatIr
import Derived.WalkKit
import Derived.KernelRfl
import Derived.BigQuiet
import Derived.Deep.QuietTactic
import Derived.Deep.RegionHeld3
import Derived.Deep.DeepCutAuto
import Derived.Lib.Hide
namespace Go.Proofs.YtggjcjdjhgfbmaaGreat
open Go.RowKit

/-! ### worlds -/
theorem bcell {W w1 : World} {B : Nat} (hb : Below B W w1) : (∀ b o, b < B → w1.cell? ⟨b, o, none⟩ = W.cell? ⟨b, o, none⟩) ∧ (∀ b o, b < B → w1.frozen? ⟨b, o, none⟩ = W.frozen? ⟨b, o, none⟩) :=
  ⟨fun b o h => hb.cell (p := ⟨b, o, none⟩) h, fun b o h => hb.frozen (p := ⟨b, o, none⟩) h⟩
/-- A callee's frame, carried on. -/
theorem on {B : Nat} {a wr w1 : World} (hb : Below B a wr) (hB : B ≤ a.heap.size) (h1 : Below wr.heap.size wr w1) : Below B a w1 := hb.trans (h1.mono (Nat.le_trans hB hb.size))
theorem below_alloc1 {w : World} (o : Obj) : Below w.heap.size w (w.alloc o) := (Below.refl _ _).alloc (Nat.le_refl _) _
theorem below_alloc2 {w : World} (o o' : Obj) : Below w.heap.size w ((w.alloc o).alloc o') := (below_alloc1 o).alloc (by simp) _
theorem boxed {w w1 : World} {o : Obj} (h : Below (w.heap.size + 1) (w.alloc o) w1) : Below w.heap.size w w1 := (below_alloc1 o).trans (h.mono (by omega))
theorem boxed2 {w w1 : World} {o o' : Obj} (h : Below (w.heap.size + 1 + 1) ((w.alloc o).alloc o') w1) : Below w.heap.size w w1 := (below_alloc2 o o').trans (h.mono (by omega))
/-- A class of worlds for a region that draws its order: what was there stays. -/
def Ext (w W : World) : Prop := Below w.heap.size w W
theorem Ext.refl (w : World) : Ext w w := Below.refl _ _
theorem Ext.drawn (w : World) : Ext w { w with drawn := w.drawn + 1 } := ⟨rfl, rfl, rfl, Nat.le_refl _, fun _ _ => rfl⟩
theorem Ext.trans {a b c : World} (h : Ext a b) (k : Ext b c) : Ext a c := on h (Nat.le_refl _) k
theorem Ext.cells {w W : World} (h : Ext w W) : (∀ b o, b < w.heap.size → W.cell? ⟨b, o, none⟩ = w.cell? ⟨b, o, none⟩) ∧ (∀ b o, b < w.heap.size → W.frozen? ⟨b, o, none⟩ = w.frozen? ⟨b, o, none⟩) := bcell h
theorem Ext.alloc {w W : World} (h : Ext w W) (o : Obj) : Ext w (W.alloc o) := Below.alloc h h.size o

theorem box_cell {w : World} {b : Nat} {cs : Array Value} {t : TypeId} {fr : Nat × Nat} (h : w.heap[b]? = some (.cells cs t fr)) (i : Nat) : w.cell? ⟨b, i, none⟩ = cs[i]? := by simp [World.cell?, h]
theorem heap_alloc_self (w : World) (o : Obj) : (w.alloc o).heap[w.heap.size]? = some o := by show (w.heap.push o)[w.heap.size]? = _; simp
theorem heap_alloc_at (w : World) (o : Obj) {n : Nat} (h : n = w.heap.size) : (w.alloc o).heap[n]? = some o := by subst h; exact heap_alloc_self w o
theorem heap_alloc_was {w : World} {b : Nat} {x : Obj} (h : w.heap[b]? = some x) (o : Obj) : (w.alloc o).heap[b]? = some x :=
  (Below.heap_alloc w o b (Array.getElem?_eq_some_iff.1 h).1).trans h
theorem below_heap {B : Nat} {w w' : World} (h : Below B w w') {b : Nat} {o : Obj} (hb : w.heap[b]? = some o) (hB : b < B) : w'.heap[b]? = some o := (h.block b hB).trans hb
theorem Ext.heap {w w' : World} (h : Ext w w') {b : Nat} {o : Obj} (hb : w.heap[b]? = some o) : w'.heap[b]? = some o := below_heap h hb (Array.getElem?_eq_some_iff.1 hb).1
theorem setCell_heap {w : World} {g : Nat} {cs : Array Value} {t : TypeId} {fr : Nat × Nat} (h : w.heap[g]? = some (.cells cs t fr)) (i : Nat) (v : Value) :
    (w.setCell ⟨g, i, none⟩ v).heap[g]? = some (.cells (cs.setIfInBounds i v) t fr) := by
  simp [World.setCell, Array.getElem?_modify, h]
theorem setCell_heap_ne {w : World} {g b : Nat} (hne : g ≠ b) {i : Nat} {v : Value} : (w.setCell ⟨g, i, none⟩ v).heap[b]? = w.heap[b]? := Below.heap_setCell w _ v b (Ne.symm hne)
theorem Ext.set {w W : World} (h : Ext w W) {g : Nat} (hg : w.heap.size ≤ g) (i : Nat) (v : Value) : Ext w (W.setCell ⟨g, i, none⟩ v) := Below.setCell h hg v
theorem Ext.drew {w W : World} (h : Ext w W) : Ext w W.drew := Below.drew h
theorem Ext.drewN {w W : World} (h : Ext w W) (n : Nat) : Ext w (W.drewN n) := ⟨h.os, h.tape, h.output, h.size, h.block⟩
/-! ### ends of a walk -/
theorem ret_int {k : IntKind} {a b : Int} (h : a = b) : Ending.returned (.int k a) = .returned (.int k b) := by rw [h]
theorem ret_bool {a b : Bool} (h : a = b) : Ending.returned (.bool a) = .returned (.bool b) := by rw [h]

theorem results_cell1 {fn : Func} {t : Tmp} {T : TypeId} (h : fn.results = #[.cell t T]) (tmps : Array Value) (P : Program) (w : World) (a : Addr) (v : Value)
    (ht : tmps.getD t undef = .pointer (some a)) (hl : (loadVar T a).run P w = .ok v w) : (results fn tmps).run P w = .ok v w := by
  simp only [results, h]
  simp [asAddr, hl, -Array.getD_eq_getD_getElem?, ht]
/-- A region that draws its order, whose operations read, and whose callees make memory of their own at most: one walk in the order of the text. -/
theorem wp_region_quiet_ext {P : Program} {id : Nat} {Q : Exit → Act → World → Prop} {a : Act} {w : World} {l : List Oper} (hm : P.follows .mixedOrders = true) (hB : Region.lexB .any l.toArray = true)
    (h : wpQuiet P l.toArray (Ext w) (fun a' => ∀ w', Ext w w' → Q .normal a' w') l a) : (Code.region id l.toArray true).wp P Q a w :=
  wp_region_quiet (C := Ext w) hm hB (Ext.drawn w) (by simpa using h)
theorem Calls.ext_of {P : Program} {f : FuncId} {args : Array Value} {w W : World} {v : Value} (hW : Ext w W) (h : Calls P f args W fun e w' => e = .returned v ∧ Ext W w') : Calls P f args W fun e w' => e = .returned v ∧ Ext w w' :=
  h.mono fun _ _ ⟨he, hw⟩ => ⟨he, hW.trans hw⟩
theorem Calls.ext_of_same {P : Program} {f : FuncId} {args : Array Value} {w W : World} {v : Value} (hW : Ext w W) (h : Calls P f args W fun e w' => e = .returned v ∧ w' = W) : Calls P f args W fun e w' => e = .returned v ∧ Ext w w' :=
  h.mono fun _ _ ⟨he, hw⟩ => ⟨he, hw ▸ hW⟩
/-! ### values -/
abbrev LOp.val (o : LOp) : Value := .agg #[.int .u8 o.kind, .int .u8 o.fn, .int .i64 o.d, .int .i64 o.a, .int .i64 o.b, .int .u64 o.imm]
abbrev LHd.val (h : LHd) : Value := .agg #[.bool h.buf, .bool h.sec, .bool h.tur, .int .i64 h.d, .int .i64 h.len]
abbrev LBlock.val (A : Option Addr) (c : Nat) (b : LBlock) : Value := .agg #[.slice A b.ops.length c, .int .u8 b.fin, .int .i64 b.a, .int .i64 b.to, .int .i64 b.els]

/-! ### rows of memory that are read -/
def RowV (w : World) (A : Option Addr) (vs : List Value) : Prop :=
  vs.length ≤ 9223372036854775807 ∧ ∀ j (h : j < vs.length), ∃ bb off, A = some ⟨bb, off, none⟩ ∧ bb < w.heap.size ∧ w.cell? ⟨bb, off + j, none⟩ = some vs[j]
theorem RowV.ext {w w' : World} {A : Option Addr} {vs : List Value} (h : RowV w A vs) (hx : Ext w w') : RowV w' A vs :=
  ⟨h.1, fun j hj => by
    obtain ⟨bb, off, e, hb, hc⟩ := h.2 j hj
    exact ⟨bb, off, e, Nat.lt_of_lt_of_le hb hx.size, (hx.cell (p := ⟨bb, off + j, none⟩) hb).trans hc⟩⟩
def OpAt (w : World) (bb off : Nat) (o : LOp) : Prop :=
  w.cell? ⟨bb, off, none⟩ = some (.int .u8 o.kind) ∧ w.cell? ⟨bb, off + 1, none⟩ = some (.int .u8 o.fn) ∧ w.cell? ⟨bb, off + 2, none⟩ = some (.int .i64 o.d) ∧ w.cell? ⟨bb, off + 3, none⟩ = some (.int .i64 o.a) ∧ w.cell? ⟨bb, off + 4, none⟩ = some (.int .i64 o.b) ∧ w.cell? ⟨bb, off + 5, none⟩ = some (.int .u64 o.imm)
theorem OpAt.ext {w w' : World} {bb off : Nat} {o : LOp} (h : OpAt w bb off o) (hx : Ext w w') (hb : bb < w.heap.size) : OpAt w' bb off o := by
  have e := fun k => hx.cell (p := ⟨bb, k, none⟩) hb
  simp only [OpAt, e]; exact h
def RowOps (w : World) (A : Option Addr) (xs : List LOp) : Prop :=
  xs.length ≤ 9223372036854775807 ∧ ∀ j (h : j < xs.length), ∃ bb off, A = some ⟨bb, off, none⟩ ∧ bb < w.heap.size ∧ OpAt w bb (off + j * 6) xs[j]
theorem RowOps.ext {w w' : World} {A : Option Addr} {xs : List LOp} (h : RowOps w A xs) (hx : Ext w w') : RowOps w' A xs :=
  ⟨h.1, fun j hj => by
    obtain ⟨bb, off, e, hb, hc⟩ := h.2 j hj
    exact ⟨bb, off, e, Nat.lt_of_lt_of_le hb hx.size, hc.ext hx hb⟩⟩
def HdAt (w : World) (bb off : Nat) (h : LHd) : Prop :=
  w.cell? ⟨bb, off, none⟩ = some (.bool h.buf) ∧ w.cell? ⟨bb, off + 1, none⟩ = some (.bool h.sec) ∧ w.cell? ⟨bb, off + 2, none⟩ = some (.bool h.tur) ∧ w.cell? ⟨bb, off + 3, none⟩ = some (.int .i64 h.d) ∧ w.cell? ⟨bb, off + 4, none⟩ = some (.int .i64 h.len)
theorem HdAt.ext {w w' : World} {bb off : Nat} {o : LHd} (h : HdAt w bb off o) (hx : Ext w w') (hb : bb < w.heap.size) : HdAt w' bb off o := by
  have e := fun k => hx.cell (p := ⟨bb, k, none⟩) hb
  simp only [HdAt, e]; exact h
def RowHd (w : World) (A : Option Addr) (xs : List LHd) : Prop :=
  xs.length ≤ 9223372036854775807 ∧ ∀ j (h : j < xs.length), ∃ bb off, A = some ⟨bb, off, none⟩ ∧ bb < w.heap.size ∧ HdAt w bb (off + j * 5) xs[j]
theorem RowHd.ext {w w' : World} {A : Option Addr} {xs : List LHd} (h : RowHd w A xs) (hx : Ext w w') : RowHd w' A xs :=
  ⟨h.1, fun j hj => by
    obtain ⟨bb, off, e, hb, hc⟩ := h.2 j hj
    exact ⟨bb, off, e, Nat.lt_of_lt_of_le hb hx.size, hc.ext hx hb⟩⟩
def BlAt (w : World) (bb off : Nat) (A : Option Addr) (c : Nat) (b : LBlock) : Prop :=
  w.cell? ⟨bb, off, none⟩ = some (.slice A b.ops.length c) ∧ w.cell? ⟨bb, off + 1, none⟩ = some (.int .u8 b.fin) ∧ w.cell? ⟨bb, off + 2, none⟩ = some (.int .i64 b.a) ∧ w.cell? ⟨bb, off + 3, none⟩ = some (.int .i64 b.to) ∧ w.cell? ⟨bb, off + 4, none⟩ = some (.int .i64 b.els)
theorem BlAt.ext {w w' : World} {bb off c : Nat} {A : Option Addr} {o : LBlock} (h : BlAt w bb off A c o) (hx : Ext w w') (hb : bb < w.heap.size) : BlAt w' bb off A c o := by
  have e := fun k => hx.cell (p := ⟨bb, k, none⟩) hb
  simp only [BlAt, e]; exact h
def RowBl (w : World) (A : Option Addr) (xs : List LBlock) : Prop :=
  xs.length ≤ 9223372036854775807 ∧ ∀ j (h : j < xs.length), ∃ bb off A' c, A = some ⟨bb, off, none⟩ ∧ bb < w.heap.size ∧ BlAt w bb (off + j * 5) A' c xs[j] ∧ xs[j].ops.length ≤ c ∧ RowOps w A' xs[j].ops
theorem RowBl.ext {w w' : World} {A : Option Addr} {xs : List LBlock} (h : RowBl w A xs) (hx : Ext w w') : RowBl w' A xs :=
  ⟨h.1, fun j hj => by
    obtain ⟨bb, off, A', c, e, hb, hc, hl, hr⟩ := h.2 j hj
    exact ⟨bb, off, A', c, e, Nat.lt_of_lt_of_le hb hx.size, hc.ext hx hb, hl, hr.ext hx⟩⟩

/-! ### a program in memory -/
structure Lay where
  sA : Option Addr
  sc : Nat
  pA : Option Addr
  pc : Nat
  bA : Option Addr
  bc : Nat
abbrev Lay.val (L : Lay) (p : LIr) : Value := .agg #[.slice L.sA p.secret.length L.sc, .slice L.pA p.params.length L.pc, .slice L.bA p.blocks.length L.bc]
abbrev Lay.box (L : Lay) (p : LIr) : Obj := .cells #[.slice L.sA p.secret.length L.sc, .slice L.pA p.params.length L.pc, .slice L.bA p.blocks.length L.bc] 26
abbrev LOp.box (o : LOp) : Obj := .cells #[.int .u8 o.kind, .int .u8 o.fn, .int .i64 o.d, .int .i64 o.a, .int .i64 o.b, .int .u64 o.imm] 54
abbrev LBlock.box (A : Option Addr) (c : Nat) (b : LBlock) : Obj := .cells #[.slice A b.ops.length c, .int .u8 b.fin, .int .i64 b.a, .int .i64 b.to, .int .i64 b.els] 38
abbrev LHd.box (h : LHd) : Obj := .cells #[.bool h.buf, .bool h.sec, .bool h.tur, .int .i64 h.d, .int .i64 h.len] 61
structure IrAt (w : World) (L : Lay) (p : LIr) : Prop where
  rs : RowV w L.sA (p.secret.map .bool)
  rp : RowHd w L.pA p.params
  rb : RowBl w L.bA p.blocks
  sc : p.secret.length ≤ L.sc
  pc : p.params.length ≤ L.pc
  bc : p.blocks.length ≤ L.bc
theorem IrAt.ext {w w' : World} {L : Lay} {p : LIr} (h : IrAt w L p) (hx : Ext w w') : IrAt w' L p := ⟨h.rs.ext hx, h.rp.ext hx, h.rb.ext hx, h.sc, h.pc, h.bc⟩
theorem IrAt.ns {w : World} {L : Lay} {p : LIr} (h : IrAt w L p) : p.secret.length ≤ 9223372036854775807 := by have := h.rs.1; simpa using this
theorem IrAt.sec {w : World} {L : Lay} {p : LIr} (h : IrAt w L p) (v : Int) (h0 : 0 ≤ v) (h1 : v < p.secret.length) :
    ∃ bb off, L.sA = some ⟨bb, off, none⟩ ∧ bb < w.heap.size ∧ w.cell? ⟨bb, off + v.toNat, none⟩ = some (.bool (secAt p.secret v)) := by
  obtain ⟨bb, off, e, hb, hc⟩ := h.rs.2 v.toNat (by simp; omega)
  refine ⟨bb, off, e, hb, hc.trans ?_⟩
  have hv : v.toNat < p.secret.length := by omega
  simp [secAt, List.getD_eq_getElem?_getD, List.getElem?_eq_getElem hv]
end Go.Proofs.YtggjcjdjhgfbmaaGreat
