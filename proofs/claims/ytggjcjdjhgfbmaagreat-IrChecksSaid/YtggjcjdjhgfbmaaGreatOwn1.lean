/- Programs that a call has made: rows that it owns; rows that are taken over whole. Conditions: none. -/
import Derived.Test.YtggjcjdjhgfbmaaGreatApp
namespace Go.Proofs.YtggjcjdjhgfbmaaGreat
open Go.RowKit

/-! ### rows of elements of several cells -/
theorem flat_len {α : Type} (f : α → List Value) (s : Nat) (hf : ∀ x, (f x).length = s) (xs : List α) : (xs.flatMap f).length = xs.length * s := by
  induction xs with
  | nil => simp
  | cons x xs ih => rw [List.flatMap_cons, List.length_append, hf, ih, List.length_cons, Nat.add_mul]; omega
theorem flat_at {α : Type} (f : α → List Value) (s : Nat) (hf : ∀ x, (f x).length = s) (xs : List α) : ∀ (j : Nat) (h : j < xs.length) (c : Nat) (_ : c < s), (xs.flatMap f)[j * s + c]? = (f xs[j])[c]? := by
  induction xs with
  | nil => intro j h; cases h
  | cons x xs ih =>
    intro j h c hc
    rw [List.flatMap_cons]
    cases j with
    | zero => rw [Nat.zero_mul, Nat.zero_add, List.getElem?_append_left (by rw [hf]; exact hc)]; rfl
    | succ j =>
      rw [List.getElem?_append_right (by rw [hf, Nat.add_mul]; omega), hf]
      have e : (j + 1) * s + c - s = j * s + c := by rw [Nat.add_mul]; omega
      rw [e, ih j (by simpa using h) c hc]
      rfl
theorem flat_split {α : Type} (f : α → List Value) (s : Nat) (hs : 0 < s) (hf : ∀ x, (f x).length = s) (xs : List α) (k : Nat) (u : Value) (h : (xs.flatMap f)[k]? = some u) :
    ∃ j c, ∃ hj : j < xs.length, c < s ∧ k = j * s + c ∧ (f xs[j])[c]? = some u := by
  have hk : k < xs.length * s := by
    have := (List.getElem?_eq_some_iff.1 h).1
    rwa [flat_len f s hf] at this
  have hj : k / s < xs.length := Nat.div_lt_of_lt_mul (by rwa [Nat.mul_comm])
  have hc := Nat.mod_lt k hs
  have e : k = k / s * s + k % s := by rw [Nat.mul_comm]; exact (Nat.div_add_mod k s).symm
  refine ⟨k / s, k % s, hj, hc, e, ?_⟩
  rw [← flat_at f s hf xs _ hj _ hc, ← e]
  exact h

abbrev LOp.cells (o : LOp) : List Value := [.int .u8 o.kind, .int .u8 o.fn, .int .i64 o.d, .int .i64 o.a, .int .i64 o.b, .int .u64 o.imm]
abbrev LHd.cells (h : LHd) : List Value := [.bool h.buf, .bool h.sec, .bool h.tur, .int .i64 h.d, .int .i64 h.len]
/-- A block as it lies: what it is, where its steps lie. -/
structure MBl where
  b : LBlock
  A : Option Addr
  c : Nat
abbrev MBl.cells (x : MBl) : List Value := [.slice x.A x.b.ops.length x.c, .int .u8 x.b.fin, .int .i64 x.b.a, .int .i64 x.b.to, .int .i64 x.b.els]

/-! ### what is owned may be read -/
theorem own_cell {w : World} {base : Nat} {e : TypeId} {size n : Nat} {A : Option Addr} {c : Nat} {xs : List Value} (h : w.ownsRow base e size (.slice A n c) n xs) (k : Nat) (u : Value) (hk : xs[k]? = some u) :
    ∃ g, A = some ⟨g, 0, none⟩ ∧ base ≤ g ∧ g < w.heap.size ∧ w.cell? ⟨g, k, none⟩ = some u ∧ w.frozen? ⟨g, k, none⟩ = false := by
  have hkl := (List.getElem?_eq_some_iff.1 hk).1
  rcases h.2 with ⟨he, h0⟩ | ⟨g, cap, cur, he, hb, hg, hn, hm, hs, ht⟩
  · have := h.1
    rw [h0, Nat.zero_mul] at this
    omega
  · injection he with e1 e2 e3
    refine ⟨g, e1, hb, (Array.getElem?_eq_some_iff.1 hg).1, ?_, by simp [World.frozen?, hg]⟩
    rw [box_cell hg]
    rw [← ht, List.getElem?_take] at hk
    split at hk
    · rwa [Array.getElem?_toList] at hk
    · cases hk
theorem own_le {w : World} {base : Nat} {e : TypeId} {size n : Nat} {v : Value} {xs : List Value} (h : w.ownsRow base e size v n xs) : n ≤ 9223372036854775807 := by
  rcases h.2 with ⟨he, h0⟩ | ⟨g, cap, cur, he, hb, hg, hn, hm, hs, ht⟩
  · omega
  · simp only [maxLen] at hm; omega
theorem own_cap {w : World} {base : Nat} {e : TypeId} {size n : Nat} {A : Option Addr} {c : Nat} {xs : List Value} (h : w.ownsRow base e size (.slice A n c) n xs) : n ≤ c := by
  rcases h.2 with ⟨he, h0⟩ | ⟨g, cap, cur, he, hb, hg, hn, hm, hs, ht⟩
  · omega
  · injection he with e1 e2 e3; omega
theorem own_rowV {w : World} {base : Nat} {e : TypeId} {A : Option Addr} {c : Nat} {vs : List Value} (h : w.ownsRow base e 1 (.slice A vs.length c) vs.length vs) : RowV w A vs :=
  ⟨own_le h, fun j hj => by
    obtain ⟨g, e1, _, hl, hc, _⟩ := own_cell h j vs[j] (List.getElem?_eq_getElem hj)
    exact ⟨g, 0, e1, hl, by rw [Nat.zero_add]; exact hc⟩⟩
theorem own_rowOps {w : World} {base : Nat} {e : TypeId} {A : Option Addr} {c : Nat} {xs : List LOp} (h : w.ownsRow base e 6 (.slice A xs.length c) xs.length (xs.flatMap LOp.cells)) : RowOps w A xs :=
  ⟨own_le h, fun j hj => by
    have key : ∀ k (hk : k < 6), ∃ g, A = some ⟨g, 0, none⟩ ∧ g < w.heap.size ∧ w.cell? ⟨g, j * 6 + k, none⟩ = (LOp.cells xs[j])[k]? := by
      intro k hk
      have e0 := flat_at LOp.cells 6 (fun _ => rfl) xs j hj k hk
      have e1 : (LOp.cells xs[j])[k]? = some ((LOp.cells xs[j])[k]) := List.getElem?_eq_getElem (by simpa using hk)
      obtain ⟨g, eA, _, hl, hc, _⟩ := own_cell h _ _ (e0.trans e1)
      exact ⟨g, eA, hl, hc.trans e1.symm⟩
    obtain ⟨g, eA, hl, c0⟩ := key 0 (by omega)
    have key2 : ∀ k (hk : k < 6), w.cell? ⟨g, j * 6 + k, none⟩ = (LOp.cells xs[j])[k]? := by
      intro k hk
      obtain ⟨g', eA', _, hc⟩ := key k hk
      rw [eA] at eA'
      injection eA' with eA'
      injection eA' with e1
      subst e1
      exact hc
    refine ⟨g, 0, eA, hl, ?_⟩
    rw [Nat.zero_add]
    exact ⟨key2 0 (by omega), key2 1 (by omega), key2 2 (by omega), key2 3 (by omega), key2 4 (by omega), key2 5 (by omega)⟩⟩
theorem own_rowHd {w : World} {base : Nat} {e : TypeId} {A : Option Addr} {c : Nat} {xs : List LHd} (h : w.ownsRow base e 5 (.slice A xs.length c) xs.length (xs.flatMap LHd.cells)) : RowHd w A xs :=
  ⟨own_le h, fun j hj => by
    have key : ∀ k (hk : k < 5), ∃ g, A = some ⟨g, 0, none⟩ ∧ g < w.heap.size ∧ w.cell? ⟨g, j * 5 + k, none⟩ = (LHd.cells xs[j])[k]? := by
      intro k hk
      have e0 := flat_at LHd.cells 5 (fun _ => rfl) xs j hj k hk
      have e1 : (LHd.cells xs[j])[k]? = some ((LHd.cells xs[j])[k]) := List.getElem?_eq_getElem (by simpa using hk)
      obtain ⟨g, eA, _, hl, hc, _⟩ := own_cell h _ _ (e0.trans e1)
      exact ⟨g, eA, hl, hc.trans e1.symm⟩
    obtain ⟨g, eA, hl, c0⟩ := key 0 (by omega)
    have key2 : ∀ k (hk : k < 5), w.cell? ⟨g, j * 5 + k, none⟩ = (LHd.cells xs[j])[k]? := by
      intro k hk
      obtain ⟨g', eA', _, hc⟩ := key k hk
      rw [eA] at eA'
      injection eA' with eA'
      injection eA' with e1
      subst e1
      exact hc
    refine ⟨g, 0, eA, hl, ?_⟩
    rw [Nat.zero_add]
    exact ⟨key2 0 (by omega), key2 1 (by omega), key2 2 (by omega), key2 3 (by omega), key2 4 (by omega)⟩⟩

/-- A program that the call owns. -/
structure IrOwn (w : World) (base : Nat) (L : Lay) (p : LIr) (ms : List MBl) : Prop where
  os : w.ownsRow base 4 1 (.slice L.sA p.secret.length L.sc) p.secret.length (p.secret.map .bool)
  op : w.ownsRow base 61 5 (.slice L.pA p.params.length L.pc) p.params.length (p.params.flatMap LHd.cells)
  ob : w.ownsRow base 38 5 (.slice L.bA p.blocks.length L.bc) p.blocks.length (ms.flatMap MBl.cells)
  em : ms.map MBl.b = p.blocks
  oo : ∀ x ∈ ms, w.ownsRow base 54 6 (.slice x.A x.b.ops.length x.c) x.b.ops.length (x.b.ops.flatMap LOp.cells)
theorem IrOwn.ext {w w' : World} {base : Nat} {L : Lay} {p : LIr} {ms : List MBl} (h : IrOwn w base L p ms) (hx : Ext w w') : IrOwn w' base L p ms :=
  ⟨own_ext h.os hx, own_ext h.op hx, own_ext h.ob hx, h.em, fun x hm => own_ext (h.oo x hm) hx⟩
theorem own_rowBl {w : World} {base : Nat} {A : Option Addr} {c : Nat} {ms : List MBl} (h : w.ownsRow base 38 5 (.slice A ms.length c) ms.length (ms.flatMap MBl.cells))
    (hoo : ∀ x ∈ ms, w.ownsRow base 54 6 (.slice x.A x.b.ops.length x.c) x.b.ops.length (x.b.ops.flatMap LOp.cells)) : RowBl w A (ms.map MBl.b) :=
  ⟨by simpa using own_le h, fun j hj => by
    have hj' : j < ms.length := by simpa using hj
    have key : ∀ k (hk : k < 5), ∃ g, A = some ⟨g, 0, none⟩ ∧ g < w.heap.size ∧ w.cell? ⟨g, j * 5 + k, none⟩ = (MBl.cells ms[j])[k]? := by
      intro k hk
      have e0 := flat_at MBl.cells 5 (fun _ => rfl) ms j hj' k hk
      have e1 : (MBl.cells ms[j])[k]? = some ((MBl.cells ms[j])[k]) := List.getElem?_eq_getElem (by simpa using hk)
      obtain ⟨g, eA, _, hl, hc, _⟩ := own_cell h _ _ (e0.trans e1)
      exact ⟨g, eA, hl, hc.trans e1.symm⟩
    obtain ⟨g, eA, hl, c0⟩ := key 0 (by omega)
    have key2 : ∀ k (hk : k < 5), w.cell? ⟨g, j * 5 + k, none⟩ = (MBl.cells ms[j])[k]? := by
      intro k hk
      obtain ⟨g', eA', _, hc⟩ := key k hk
      rw [eA] at eA'
      injection eA' with eA'
      injection eA' with e1
      subst e1
      exact hc
    have ho := hoo ms[j] (List.getElem_mem hj')
    refine ⟨g, 0, ms[j].A, ms[j].c, eA, hl, ?_, ?_, ?_⟩
    · rw [Nat.zero_add, List.getElem_map]
      exact ⟨key2 0 (by omega), key2 1 (by omega), key2 2 (by omega), key2 3 (by omega), key2 4 (by omega)⟩
    · rw [List.getElem_map]; exact own_cap ho
    · rw [List.getElem_map]; exact own_rowOps ho⟩
theorem IrOwn.at {w : World} {base : Nat} {L : Lay} {p : LIr} {ms : List MBl} (h : IrOwn w base L p ms) : IrAt w L p where
  rs := own_rowV (by simpa using h.os)
  rp := own_rowHd h.op
  rb := by
    have e : ms.length = p.blocks.length := by rw [← h.em]; simp
    have := own_rowBl (ms := ms) (A := L.bA) (c := L.bc) (by rw [e]; exact h.ob) h.oo
    rwa [h.em] at this
  sc := own_cap h.os
  pc := own_cap h.op
  bc := own_cap h.ob

/-! ### a row that comes from elsewhere, taken over whole -/
def SrcRow (w : World) (A : Option Addr) (n size : Nat) (xs : List Value) : Prop :=
  xs.length = n * size ∧ ∀ (k : Nat) (u : Value), xs[k]? = some u → ∃ bb off, A = some ⟨bb, off, none⟩ ∧ bb < w.heap.size ∧ w.cell? ⟨bb, off + k, none⟩ = some u
theorem RowV.src {w : World} {A : Option Addr} {vs : List Value} (h : RowV w A vs) : SrcRow w A vs.length 1 vs :=
  ⟨by omega, fun k u hk => by
    obtain ⟨hl, rfl⟩ := List.getElem?_eq_some_iff.1 hk
    exact h.2 k hl⟩
theorem RowHd.src {w : World} {A : Option Addr} {xs : List LHd} (h : RowHd w A xs) : SrcRow w A xs.length 5 (xs.flatMap LHd.cells) :=
  ⟨flat_len _ 5 (fun _ => rfl) _, fun k u hk => by
    obtain ⟨j, c, hj, hc, rfl, hu⟩ := flat_split LHd.cells 5 (by omega) (fun _ => rfl) xs k u hk
    obtain ⟨bb, off, e, hb, h0, h1, h2, h3, h4⟩ := h.2 j hj
    refine ⟨bb, off, e, hb, ?_⟩
    rw [← hu, ← Nat.add_assoc]
    match c, hc with
    | 0, _ => exact h0
    | 1, _ => exact h1
    | 2, _ => exact h2
    | 3, _ => exact h3
    | 4, _ => exact h4⟩
theorem RowOps.src {w : World} {A : Option Addr} {xs : List LOp} (h : RowOps w A xs) : SrcRow w A xs.length 6 (xs.flatMap LOp.cells) :=
  ⟨flat_len _ 6 (fun _ => rfl) _, fun k u hk => by
    obtain ⟨j, c, hj, hc, rfl, hu⟩ := flat_split LOp.cells 6 (by omega) (fun _ => rfl) xs k u hk
    obtain ⟨bb, off, e, hb, h0, h1, h2, h3, h4, h5⟩ := h.2 j hj
    refine ⟨bb, off, e, hb, ?_⟩
    rw [← hu, ← Nat.add_assoc]
    match c, hc with
    | 0, _ => exact h0
    | 1, _ => exact h1
    | 2, _ => exact h2
    | 3, _ => exact h3
    | 4, _ => exact h4
    | 5, _ => exact h5⟩

theorem run_append_src {P : Program} (w : World) (t ty e : TypeId) (i : TypeInfo) (z : Value) (size bytes : Nat) (ht : P.underlying t = some (.slice e)) (hi : P.info? e = some i) (hz : i.zero = some z)
    (hsize : i.size = size) (hby : i.bytes = bytes) (hzs : z.cells.size = size) (hsz : 0 < size) (A : Option Addr) (n c : Nat) (xs : List Value) (hr : SrcRow w A n size xs) (h1 : ∀ u ∈ xs, u.oneCell' = true)
    (h63 : n ≤ maxLen) (hbytes : n * bytes ≤ 140737488355328) :
    ∃ v' w', (Builtin.append_ #[t, t] ty #[.slice none 0 0, .slice A n c]).run P w = .ok v' w' ∧ w'.ownsRow w.heap.size e size v' n xs ∧ Ext w w' := by
  cases A with
  | none =>
    have hx : xs = [] := by
      cases xs with
      | nil => rfl
      | cons u us =>
        obtain ⟨bb, off, e, _⟩ := hr.2 0 u rfl
        cases e
    subst hx
    have hn : n = 0 := by
      have := hr.1
      simp only [List.length_nil] at this
      rcases Nat.eq_zero_or_pos n with h | h
      · exact h
      · have := Nat.mul_pos h hsz
        omega
    subst hn
    refine ⟨.slice none 0 0, w, ?_, World.ownsRow_nil _ _ _ _, Ext.refl w⟩
    simp [Builtin.append_, run_underlying ht, sizeOf, typeInfo, hi, Builtin.lenOf, Builtin.firstCells]
  | some ad =>
    have hnews : ∀ j u, xs[j]? = some u → w.cell? (ad.add j) = some u := by
      intro j u hj
      obtain ⟨bb, off, e, _, hc⟩ := hr.2 j u hj
      injection e with e
      subst e
      rw [← hc]
      congr 1
      unfold Addr.add
      split
      · rename_i h0; subst h0; rfl
      · rfl
    obtain ⟨v', w', hrun, h2, h3, _, _⟩ := run_append_own_at (P := P) w w.heap.size t ty e i z size bytes ht hi hz hsize hby hzs hsz (.slice none 0 0) 0 [] (World.ownsRow_nil _ _ _ _) ad n c xs hr.1 hnews h1 (by simpa using h63) (by simpa using hbytes) (Nat.le_refl _)
    exact ⟨v', w', hrun, by simpa using h2, (Below.refl _ _).grown h3 (Nat.le_refl _) (by simp [Value.ownBlock])⟩
theorem wp_append_src {P : Program} {w : World} {o : Oper} {a : Act} {K : Act → World → Prop} {Q : Exit → Act → World → Prop} (x : Operand) (t : TypeId)
    (ho : o.op = .call { callee := .builtin .append, args := #[.const (.slice none 0 0), x], argTypes := #[t, t] })
    (e : TypeId) (z : Value) (size bytes : Nat) (ht : P.underlying t = some (.slice e)) (hinfo : (P.info? e).map (fun i => (i.zero, i.size, i.bytes)) = some (some z, size, bytes)) (hzs : z.cells.size = size) (hsz : 0 < size)
    (A : Option Addr) (n c : Nat) (xs : List Value) (hx : a.eval x = .slice A n c) (hr : SrcRow w A n size xs) (h1 : ∀ u ∈ xs, u.oneCell' = true) (h63 : n ≤ maxLen) (hbytes : n * bytes ≤ 140737488355328)
    (h : ∀ v' w', w'.ownsRow w.heap.size e size v' n xs → Ext w w' → K (a.put o.dst v') w') : o.wp P a w K Q := by
  obtain ⟨i0, hi, hzz⟩ := Option.map_eq_some_iff.1 hinfo
  simp only [Prod.mk.injEq] at hzz
  obtain ⟨hz0, hz1, hz2⟩ := hzz
  obtain ⟨v', w', hrun, h2, h3⟩ := run_append_src (P := P) w t o.type e i0 z size bytes ht hi hz0 hz1 hz2 hzs hsz A n c xs hr h1 h63 hbytes
  unfold Oper.wp execOp
  simp only [ho, resolve, invoke, builtin, Sem.run_bind, Sem.run_pure, Result.andThen_ok, List.map_toArray, List.map_cons, List.map_nil, hx]
  simp only [Act.eval] at hx ⊢
  simp only [hrun, Result.andThen_ok]
  exact h v' w' h2 h3
theorem step_append_src {P : Program} {w : World} {ops : Array Oper} {o : Oper} {a : Act} {K : Act → World → Prop} {Q : Exit → Act → World → Prop} {E : Prop} (hgd : o.guard = none) (x : Operand) (t : TypeId)
    (ho : o.op = .call { callee := .builtin .append, args := #[.const (.slice none 0 0), x], argTypes := #[t, t] })
    (e : TypeId) (z : Value) (size bytes : Nat) (ht : P.underlying t = some (.slice e)) (hinfo : (P.info? e).map (fun i => (i.zero, i.size, i.bytes)) = some (some z, size, bytes)) (hzs : z.cells.size = size) (hsz : 0 < size)
    (A : Option Addr) (n c : Nat) (xs : List Value) (hx : a.eval x = .slice A n c) (hr : SrcRow w A n size xs) (h1 : ∀ u ∈ xs, u.oneCell' = true) (h63 : n ≤ maxLen) (hbytes : n * bytes ≤ 140737488355328)
    (h : ∀ v' w', w'.ownsRow w.heap.size e size v' n xs → Ext w w' → K (a.put o.dst v') w') : if Region.wanted o (yielded ops a.tmps) = true then Oper.wp P o a w K Q else E := by
  have hw : Region.wanted o (yielded ops a.tmps) = true := by simp [Region.wanted, hgd]
  rw [if_pos hw]
  exact wp_append_src x t ho e z size bytes ht hinfo hzs hsz A n c xs hx hr h1 h63 hbytes h
theorem wpList_append_src {P : Program} {w : World} {ops : Array Oper} {rest : List Oper} {o : Oper} {a : Act} {Q : Exit → Act → World → Prop} (hgd : o.guard = none) (x : Operand) (t : TypeId)
    (ho : o.op = .call { callee := .builtin .append, args := #[.const (.slice none 0 0), x], argTypes := #[t, t] })
    (e : TypeId) (z : Value) (size bytes : Nat) (ht : P.underlying t = some (.slice e)) (hinfo : (P.info? e).map (fun i => (i.zero, i.size, i.bytes)) = some (some z, size, bytes)) (hzs : z.cells.size = size) (hsz : 0 < size)
    (A : Option Addr) (n c : Nat) (xs : List Value) (hx : a.eval x = .slice A n c) (hr : SrcRow w A n size xs) (h1 : ∀ u ∈ xs, u.oneCell' = true) (h63 : n ≤ maxLen) (hbytes : n * bytes ≤ 140737488355328)
    (h : ∀ v' w', w'.ownsRow w.heap.size e size v' n xs → Ext w w' → wpList P ops Q rest (a.put o.dst v') w') : wpList P ops Q (o :: rest) a w :=
  wpList_plain hgd fun _ hK => wp_append_src x t ho e z size bytes ht hinfo hzs hsz A n c xs hx hr h1 h63 hbytes fun v' w' h2 h3 => hK _ _ (h v' w' h2 h3)
end Go.Proofs.YtggjcjdjhgfbmaaGreat
