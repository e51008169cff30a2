/- A program that comes in: its reading, laid open. Conditions: none. -/
import Derived.Test.YtggjcjdjhgfbmaaGreatBase
import Derived.ProofKit
import Derived.OpenShut
import Derived.Lib.SmallJoins
import Derived.Deep.Slices
import Derived.Deep.Fields
import Derived.SizedLaws
import Derived.ChangeOld
namespace Go.Proofs.YtggjcjdjhgfbmaaGreat
open Go.RowKit Go.Joins Go.ChangeShapes Go.WideShapes Go.Deep

theorem list_of {α : Type} {p : Nat → α → Prop} : ∀ (n : Nat), (∀ i, i < n → ∃ x, p i x) → ∃ xs : List α, xs.length = n ∧ ∀ i (h : i < xs.length), p i xs[i]
  | 0, _ => ⟨[], rfl, fun i h => by cases h⟩
  | n + 1, h => by
    obtain ⟨xs, hl, hx⟩ := list_of n (fun i hi => h i (by omega))
    obtain ⟨x, hp⟩ := h n (by omega)
    refine ⟨xs ++ [x], by simp [hl], fun i hi => ?_⟩
    by_cases e : i < xs.length
    · rw [List.getElem_append_left e]; exact hx i e
    · have e2 : i = xs.length := by simp at hi; omega
      subst e2
      simp
      rw [hl]; exact hp
theorem plain_cell {w : World} {a : Addr} {v : Value} (h : w.cell? a = some v) : a = ⟨a.block, a.off, none⟩ ∧ a.block < w.heap.size := by
  unfold World.cell? at h
  split at h
  · rename_i hc
    refine ⟨?_, (Array.getElem?_eq_some_iff.1 hc).1⟩
    cases a with
    | mk b o s =>
      cases s with
      | none => rfl
      | some s => simp at h
  · cases h
theorem cell_add {w : World} {a : Addr} {n : Nat} {v v0 : Value} (h0 : w.cell? a = some v0) (h : w.cell? (a.add n) = some v) : w.cell? ⟨a.block, a.off + n, none⟩ = some v := by
  obtain ⟨e, _⟩ := plain_cell h0
  rw [e] at h
  unfold Addr.add at h
  split at h
  · rename_i hn; subst hn; exact h
  · exact h

section
variable {H : Type} {enc : TypeId × Value → H} {P : Program} {w : World} {base : Nat} {spare : Nat → Bool} {held : Bool}
/-- A struct of cells of one each: each cell, and what it reads as. -/
theorem open_struct {e : TypeId} {fs : Array Field} {fuel : Nat} {a : Addr} {cs : List Value} {x : DataW H × List MemPlace} (he : P.underlying e = some (.struct fs)) (hone : oneCellFields P fs = true)
    (hc : w.cells? base a fs.size = some cs) (ht : DataW.trod enc P w base spare held fuel e cs = some x) :
    ∃ (ys : List (DataW H × List MemPlace)) (n : Nat), x.1 = .agg (ys.map (·.1)) ∧ ys.length = fs.size ∧
      ∀ (j : Nat) (f : Field), fs[j]? = some f → ∃ (v : Value) (y : DataW H × List MemPlace), w.cell? (a.add j) = some v ∧ ys[j]? = some y ∧ DataW.trod enc P w base spare held n f.type [v] = some y := by
  obtain ⟨_, hcl, hat⟩ := World.cells?_some hc
  obtain ⟨ys, n', hn', hy, hlen, hyl, hf⟩ := DataW.trod_struct he ht
  refine ⟨ys, n', by rw [hy], hyl, fun j f hj => ?_⟩
  obtain ⟨ho, hk⟩ := hone_of hone j f hj
  have hjl : j < fs.size := (Array.getElem?_eq_some_iff.1 hj).1
  have hv : cs[j]? = some (cs[j]'(by omega)) := List.getElem?_eq_getElem (by omega)
  have h1 := hf j f hj
  rw [ho, hk] at h1
  have hone' : (cs.drop j).take 1 = [cs[j]'(by omega)] := by
    rw [List.drop_eq_getElem_cons (by omega)]
    rfl
  rw [hone'] at h1
  have hys : ys[j]? = some (ys[j]'(by omega)) := List.getElem?_eq_getElem (by omega)
  exact ⟨_, _, (hat j hjl).trans hv, hys, h1.trans hys⟩
end

/-- The numbers of a step are such as their kinds bear. -/
def OpWf (o : LOp) : Prop := (Lit.int .u8 o.kind).wf = true ∧ (Lit.int .u8 o.fn).wf = true ∧ (Lit.int .i64 o.d).wf = true ∧ (Lit.int .i64 o.a).wf = true ∧ (Lit.int .i64 o.b).wf = true ∧ (Lit.int .u64 o.imm).wf = true

section
variable {H : Type} {enc : TypeId × Value → H} {w : World} {base : Nat} {spare : Nat → Bool} {held : Bool}
theorem open_bools {fuel : Nat} {v : Value} {x : DataW H × List MemPlace} (h : DataW.trod enc Tryz.prog w base spare held fuel 22 [v] = some x) :
    ∃ (A : Option Addr) (c : Nat) (l : List Bool), v = .slice A l.length c ∧ RowV w A (l.map Value.bool) ∧ l.length ≤ c := by
  rcases open_slice1 Tryz.underlying22 (by kernel_rfl) h with ⟨hv, _⟩ | ⟨a, len, cap, m, n, V, D, Pl, hv, _, hl, hm, hmm, _, hc⟩
  · injection hv with hv
    subst hv
    exact ⟨none, 0, [], rfl, ⟨by simp, fun j hj => by simp at hj⟩, by simp⟩
  · injection hv with hv
    subst hv
    have hlm : len ≤ m := by rw [hmm]; split <;> omega
    obtain ⟨l, hll, hp⟩ := list_of (p := fun i b => w.cell? (a.add i) = some (.bool b)) len (fun i hi => by
      obtain ⟨h1, h2⟩ := hc i (by omega)
      obtain ⟨b, hb, _⟩ := DataW.trod_bool Tryz.underlying4 h2
      injection hb with hb
      exact ⟨b, by rw [h1, hb]⟩)
    subst hll
    refine ⟨some a, cap, l, rfl, ⟨by simp; simp only [maxLen] at hm; omega, fun j hj => ?_⟩, hl⟩
    have hj' : j < l.length := by simpa using hj
    have h0 := hp 0 (by omega)
    have e0 : a.add 0 = a := by unfold Addr.add; simp
    rw [e0] at h0
    obtain ⟨ea, hb⟩ := plain_cell h0
    exact ⟨a.block, a.off, by rw [← ea], hb, by simpa using cell_add h0 (hp j hj')⟩

theorem open_hds {fuel : Nat} {v : Value} {x : DataW H × List MemPlace} (h : DataW.trod enc Tryz.prog w base spare held fuel 23 [v] = some x) :
    ∃ (A : Option Addr) (c : Nat) (l : List LHd), v = .slice A l.length c ∧ RowHd w A l ∧ l.length ≤ c := by
  rcases open_slice Tryz.underlying23 h with ⟨hv, _⟩ | ⟨a, len, cap, m, n, D, Pl, hv, _, hl, hm, hmm, _, hc⟩
  · injection hv with hv
    subst hv
    exact ⟨none, 0, [], rfl, ⟨by simp, fun j hj => by simp at hj⟩, by simp⟩
  · injection hv with hv
    subst hv
    have hlm : len ≤ m := by rw [hmm]; split <;> omega
    have hC : Tryz.prog.cellsOf 61 = 5 := by kernel_rfl
    obtain ⟨l, hll, hp⟩ := list_of (p := fun i (o : LHd) => w.cell? (a.add (i * 5)) = some (.bool o.buf) ∧ w.cell? ((a.add (i * 5)).add 1) = some (.bool o.sec) ∧ w.cell? ((a.add (i * 5)).add 2) = some (.bool o.tur) ∧ w.cell? ((a.add (i * 5)).add 3) = some (.int .i64 o.d) ∧ w.cell? ((a.add (i * 5)).add 4) = some (.int .i64 o.len)) len (fun i hi => by
      obtain ⟨cs, h1, h2⟩ := hc i (by omega)
      rw [hC] at h1
      obtain ⟨ys, n', _, _, hf⟩ := open_struct Tryz.underlying61 (by kernel_rfl) h1 h2
      obtain ⟨v0, y0, c0, _, t0⟩ := hf 0 _ rfl
      obtain ⟨v1, y1, c1, _, t1⟩ := hf 1 _ rfl
      obtain ⟨v2, y2, c2, _, t2⟩ := hf 2 _ rfl
      obtain ⟨v3, y3, c3, _, t3⟩ := hf 3 _ rfl
      obtain ⟨v4, y4, c4, _, t4⟩ := hf 4 _ rfl
      obtain ⟨b0, e0, _⟩ := DataW.trod_bool Tryz.underlying4 t0
      obtain ⟨b1, e1, _⟩ := DataW.trod_bool Tryz.underlying4 t1
      obtain ⟨b2, e2, _⟩ := DataW.trod_bool Tryz.underlying4 t2
      obtain ⟨n3, e3, _⟩ := DataW.trod_int Tryz.underlying3 t3
      obtain ⟨n4, e4, _⟩ := DataW.trod_int Tryz.underlying3 t4
      injection e0 with e0
      injection e1 with e1
      injection e2 with e2
      injection e3 with e3
      injection e4 with e4
      have z : (a.add (i * 5)).add 0 = a.add (i * 5) := by rw [add_add]; rfl
      rw [z] at c0
      exact ⟨⟨b0, b1, b2, n3, n4⟩, by rw [c0, e0], by rw [c1, e1], by rw [c2, e2], by rw [c3, e3], by rw [c4, e4]⟩)
    subst hll
    refine ⟨some a, cap, l, rfl, ⟨by simp only [maxLen] at hm; omega, fun j hj => ?_⟩, hl⟩
    have h0 := (hp 0 (by omega)).1
    have e0 : a.add (0 * 5) = a := by unfold Addr.add; simp
    rw [e0] at h0
    obtain ⟨ea, hb⟩ := plain_cell h0
    obtain ⟨p0, p1, p2, p3, p4⟩ := hp j hj
    rw [add_add] at p1 p2 p3 p4
    exact ⟨a.block, a.off, by rw [← ea], hb, cell_add h0 p0, cell_add h0 p1, cell_add h0 p2, cell_add h0 p3, cell_add h0 p4⟩

theorem open_ops {fuel : Nat} {v : Value} {x : DataW H × List MemPlace} (h : DataW.trod enc Tryz.prog w base spare held fuel 36 [v] = some x) (hw : ∀ n ∈ x.1.weights Tryz.prog 36, n ≤ reachBytes) :
    ∃ (A : Option Addr) (c : Nat) (l : List LOp), v = .slice A l.length c ∧ RowOps w A l ∧ l.length ≤ c ∧ l.length ≤ 140737488355328 ∧ ∀ o ∈ l, OpWf o := by
  rcases open_slice Tryz.underlying36 h with ⟨hv, _⟩ | ⟨a, len, cap, m, n, D, Pl, hv, _, hl, hm, hmm, hx, hc⟩
  · injection hv with hv
    subst hv
    exact ⟨none, 0, [], rfl, ⟨by simp, fun j hj => by simp at hj⟩, by simp, by simp, by simp⟩
  · injection hv with hv
    subst hv
    have hlm : len ≤ m := by rw [hmm]; split <;> omega
    have hC : Tryz.prog.cellsOf 54 = 6 := by kernel_rfl
    have hB : Tryz.prog.bytesOf 54 = 40 := by kernel_rfl
    have hsz : len ≤ 140737488355328 := by
      have := hw ((len + (m - len)) * 40) (by
        rw [hx]
        simp [DataW.weights, Tryz.underlying36, hB])
      have r := reachBytes_lt
      omega
    obtain ⟨l, hll, hp⟩ := list_of (p := fun i (o : LOp) => OpWf o ∧ w.cell? (a.add (i * 6)) = some (.int .u8 o.kind) ∧ w.cell? ((a.add (i * 6)).add 1) = some (.int .u8 o.fn) ∧ w.cell? ((a.add (i * 6)).add 2) = some (.int .i64 o.d) ∧ w.cell? ((a.add (i * 6)).add 3) = some (.int .i64 o.a) ∧ w.cell? ((a.add (i * 6)).add 4) = some (.int .i64 o.b) ∧ w.cell? ((a.add (i * 6)).add 5) = some (.int .u64 o.imm)) len (fun i hi => by
      obtain ⟨cs, h1, h2⟩ := hc i (by omega)
      rw [hC] at h1
      obtain ⟨ys, n', _, _, hf⟩ := open_struct Tryz.underlying54 (by kernel_rfl) h1 h2
      obtain ⟨v0, y0, c0, _, t0⟩ := hf 0 _ rfl
      obtain ⟨v1, y1, c1, _, t1⟩ := hf 1 _ rfl
      obtain ⟨v2, y2, c2, _, t2⟩ := hf 2 _ rfl
      obtain ⟨v3, y3, c3, _, t3⟩ := hf 3 _ rfl
      obtain ⟨v4, y4, c4, _, t4⟩ := hf 4 _ rfl
      obtain ⟨v5, y5, c5, _, t5⟩ := hf 5 _ rfl
      obtain ⟨n0, e0, _, g0⟩ := DataW.trod_int Tryz.underlying5 t0
      obtain ⟨n1, e1, _, g1⟩ := DataW.trod_int Tryz.underlying5 t1
      obtain ⟨n2, e2, _, g2⟩ := DataW.trod_int Tryz.underlying3 t2
      obtain ⟨n3, e3, _, g3⟩ := DataW.trod_int Tryz.underlying3 t3
      obtain ⟨n4, e4, _, g4⟩ := DataW.trod_int Tryz.underlying3 t4
      obtain ⟨n5, e5, _, g5⟩ := DataW.trod_int Tryz.underlying46 t5
      injection e0 with e0
      injection e1 with e1
      injection e2 with e2
      injection e3 with e3
      injection e4 with e4
      injection e5 with e5
      have z : (a.add (i * 6)).add 0 = a.add (i * 6) := by rw [add_add]; rfl
      rw [z] at c0
      exact ⟨⟨n0, n1, n2, n3, n4, n5⟩, ⟨g0, g1, g2, g3, g4, g5⟩, by rw [c0, e0], by rw [c1, e1], by rw [c2, e2], by rw [c3, e3], by rw [c4, e4], by rw [c5, e5]⟩)
    subst hll
    refine ⟨some a, cap, l, rfl, ⟨by simp only [maxLen] at hm; omega, fun j hj => ?_⟩, hl, hsz, fun o ho => ?_⟩
    · have h0 := (hp 0 (by omega)).2.1
      have e0 : a.add (0 * 6) = a := by unfold Addr.add; simp
      rw [e0] at h0
      obtain ⟨ea, hb⟩ := plain_cell h0
      obtain ⟨_, p0, p1, p2, p3, p4, p5⟩ := hp j hj
      rw [add_add] at p1 p2 p3 p4 p5
      exact ⟨a.block, a.off, by rw [← ea], hb, cell_add h0 p0, cell_add h0 p1, cell_add h0 p2, cell_add h0 p3, cell_add h0 p4, cell_add h0 p5⟩
    · obtain ⟨i, hi, rfl⟩ := List.getElem_of_mem ho
      exact (hp i hi).1

theorem weights_elem {P : Program} {e : TypeId} {l : List (DataW H)} {d : DataW H} (h : d ∈ l) : ∀ n ∈ d.weights P e, n ∈ DataW.weightsAll P e l := by
  induction l with
  | nil => cases h
  | cons c l ih =>
    intro n hn
    simp only [DataW.weightsAll, List.mem_append]
    rcases List.mem_cons.1 h with rfl | h
    · exact .inl hn
    · exact .inr (ih h n hn)

theorem open_bls {fuel : Nat} {v : Value} {x : DataW H × List MemPlace} (h : DataW.trod enc Tryz.prog w base spare held fuel 24 [v] = some x) (hw : ∀ n ∈ x.1.weights Tryz.prog 24, n ≤ reachBytes) :
    ∃ (A : Option Addr) (c : Nat) (l : List LBlock), v = .slice A l.length c ∧ RowBl w A l ∧ l.length ≤ c ∧ ∀ b ∈ l, b.ops.length ≤ 140737488355328 ∧ ∀ o ∈ b.ops, OpWf o := by
  rcases open_slice Tryz.underlying24 h with ⟨hv, _⟩ | ⟨a, len, cap, m, n, D, Pl, hv, _, hl, hm, hmm, hx, hc⟩
  · injection hv with hv
    subst hv
    exact ⟨none, 0, [], rfl, ⟨by simp, fun j hj => by simp at hj⟩, by simp, by simp⟩
  · injection hv with hv
    subst hv
    have hlm : len ≤ m := by rw [hmm]; split <;> omega
    have hC : Tryz.prog.cellsOf 38 = 5 := by kernel_rfl
    obtain ⟨l, hll, hp⟩ := list_of (p := fun i (b : LBlock) => ∃ (A : Option Addr) (c : Nat), (b.ops.length ≤ 140737488355328 ∧ ∀ o ∈ b.ops, OpWf o) ∧ b.ops.length ≤ c ∧ RowOps w A b.ops ∧ w.cell? (a.add (i * 5)) = some (.slice A b.ops.length c) ∧ w.cell? ((a.add (i * 5)).add 1) = some (.int .u8 b.fin) ∧ w.cell? ((a.add (i * 5)).add 2) = some (.int .i64 b.a) ∧ w.cell? ((a.add (i * 5)).add 3) = some (.int .i64 b.to) ∧ w.cell? ((a.add (i * 5)).add 4) = some (.int .i64 b.els)) len (fun i hi => by
      obtain ⟨cs, h1, h2⟩ := hc i (by omega)
      rw [hC] at h1
      obtain ⟨ys, n', hag, hyl, hf⟩ := open_struct Tryz.underlying38 (by kernel_rfl) h1 h2
      obtain ⟨v0, y0, c0, hy0, t0⟩ := hf 0 _ rfl
      obtain ⟨v1, y1, c1, _, t1⟩ := hf 1 _ rfl
      obtain ⟨v2, y2, c2, _, t2⟩ := hf 2 _ rfl
      obtain ⟨v3, y3, c3, _, t3⟩ := hf 3 _ rfl
      obtain ⟨v4, y4, c4, _, t4⟩ := hf 4 _ rfl
      have hin : D i ∈ (List.range len).map D := List.mem_map.2 ⟨i, List.mem_range.2 hi, rfl⟩
      have hw0 : ∀ k ∈ y0.1.weights Tryz.prog 36, k ≤ reachBytes := by
        intro k hk
        refine hw k ?_
        rw [hx]
        simp only [DataW.weights, Tryz.underlying24, List.mem_cons, List.mem_append]
        refine .inr (.inl (weights_elem hin k ?_))
        simp only at hag
        rw [hag]
        simp only [DataW.weights, Tryz.underlying38]
        exact DataW.weights_mem_each (j := 0) (t := 36) rfl (by rw [List.getElem?_map, hy0]; rfl) k hk
      obtain ⟨A, c, ol, e0, hr, hlc, hsz, hwf⟩ := open_ops t0 hw0
      obtain ⟨n1, e1, _⟩ := DataW.trod_int Tryz.underlying5 t1
      obtain ⟨n2, e2, _⟩ := DataW.trod_int Tryz.underlying3 t2
      obtain ⟨n3, e3, _⟩ := DataW.trod_int Tryz.underlying3 t3
      obtain ⟨n4, e4, _⟩ := DataW.trod_int Tryz.underlying3 t4
      injection e1 with e1
      injection e2 with e2
      injection e3 with e3
      injection e4 with e4
      have z : (a.add (i * 5)).add 0 = a.add (i * 5) := by rw [add_add]; rfl
      rw [z] at c0
      exact ⟨⟨ol, n1, n2, n3, n4⟩, A, c, ⟨hsz, hwf⟩, hlc, hr, by rw [c0, e0], by rw [c1, e1], by rw [c2, e2], by rw [c3, e3], by rw [c4, e4]⟩)
    subst hll
    refine ⟨some a, cap, l, rfl, ⟨by simp only [maxLen] at hm; omega, fun j hj => ?_⟩, hl, fun b hb => ?_⟩
    · obtain ⟨_, _, _, _, _, h0, _⟩ := hp 0 (by omega)
      have e0 : a.add (0 * 5) = a := by unfold Addr.add; simp
      rw [e0] at h0
      obtain ⟨ea, hb⟩ := plain_cell h0
      obtain ⟨A, c, _, hlc, hr, p0, p1, p2, p3, p4⟩ := hp j hj
      rw [add_add] at p1 p2 p3 p4
      exact ⟨a.block, a.off, A, c, by rw [← ea], hb, ⟨cell_add h0 p0, cell_add h0 p1, cell_add h0 p2, cell_add h0 p3, cell_add h0 p4⟩, hlc, hr⟩
    · obtain ⟨i, hi, rfl⟩ := List.getElem_of_mem hb
      obtain ⟨A, c, hh, _⟩ := hp i hi
      exact hh
end
end Go.Proofs.YtggjcjdjhgfbmaaGreat
