/- The walk of goes: a run, block by block. Conditions: what each step comes to is handed in. -/
import Derived.Test.YtggjcjdjhgfbmaaGreatGo2
import Derived.Test.YtggjcjdjhgfbmaaGreatChk3
import Derived.Deep.LoopGhost
namespace Go.Proofs.YtggjcjdjhgfbmaaGreat
open Go.RowKit Go.BigFrame

theorem runs_of_goto {st : Mach → LOp → Res} {bs : List LBlock} {n k : Nat} {m : Mach} {b : LBlock} (h : bs[k]? = some b) {m' : Mach} {k' : Nat} (hb : runBlock st m b = .goto m' k') : runs st bs (n + 1) m k = runs st bs n m' k' := by
  rw [runs_succ h, hb]
theorem runs_of_done {st : Mach → LOp → Res} {bs : List LBlock} {n k : Nat} {m : Mach} {b : LBlock} (h : bs[k]? = some b) {m' : Mach} {e : Int} (hb : runBlock st m b = .done m' e) : runs st bs (n + 1) m k = (m', e) := by
  rw [runs_succ h, hb]
theorem blocks_ok {p : LIr} (h : irOk p = true) : ∀ (k : Nat) (hk : k < p.blocks.length), endOk p.secret p.blocks.length p.blocks[k] = true ∧ ∀ o ∈ p.blocks[k].ops, opOk p.secret o = true := by
  have hb : blocksOk p.secret p.blocks.length 0 p.blocks = true := by
    simp only [irOk, Bool.and_eq_true] at h
    exact h.2
  have key : ∀ (l : List LBlock) (n : Nat), blocksOk p.secret p.blocks.length n l = true → ∀ b ∈ l, endOk p.secret p.blocks.length b = true ∧ ∀ o ∈ b.ops, opOk p.secret o = true := by
    intro l
    induction l with
    | nil => intro n _ b hb; cases hb
    | cons b l ih =>
      intro n hn c hc
      simp only [blocksOk, Bool.and_eq_true] at hn
      rcases List.mem_cons.1 hc with rfl | hc
      · exact ⟨hn.1.1.2, fun o ho => List.all_eq_true.1 hn.1.2 o ho⟩
      · exact ih _ hn.2 c hc
  exact fun k hk => key _ 0 hb _ (List.getElem_mem hk)

set_option maxRecDepth 100000 in
theorem call_step (k : Int) (h1 : 1 ≤ k) (h2 : k ≤ 13) : ∀ (args : Array Value) (w : World), (callFunc (fnOf k.toNat) args).run Tryz.prog w = .ok (.enter (fnOf k.toNat) args) w := by
  have : k = 1 ∨ k = 2 ∨ k = 3 ∨ k = 4 ∨ k = 5 ∨ k = 6 ∨ k = 7 ∨ k = 8 ∨ k = 9 ∨ k = 10 ∨ k = 11 ∨ k = 12 ∨ k = 13 := by omega
  rcases this with rfl | rfl | rfl | rfl | rfl | rfl | rfl | rfl | rfl | rfl | rfl | rfl | rfl
  all_goals exact fun args w => by kernel_rfl
/-- A block that lies there, and is none of the machine's. -/
def At1 (w : World) (S : Spot) (B : Nat) (o : Obj) : Prop := w.heap[B]? = some o ∧ B ∉ S.blocks
theorem At1.turn {w w' : World} {S S' : Spot} {B : Nat} {o : Obj} (h : At1 w S B o) (hT : Turn w w' S S') : At1 w' S' B o := ⟨hT.heap h.1 h.2, hT.not (Array.getElem?_eq_some_iff.1 h.1).1 h.2⟩
theorem At1.ext {w w' : World} {S : Spot} {B : Nat} {o : Obj} (h : At1 w S B o) (hx : Ext w w') : At1 w' S B o := ⟨hx.heap h.1, h.2⟩
theorem At1.lt {w : World} {S : Spot} {B : Nat} {o : Obj} (h : At1 w S B o) : B < w.heap.size := (Array.getElem?_eq_some_iff.1 h.1).1
theorem Ext.turn {wb w w' : World} {S S' : Spot} {m : Mach} (h : Ext wb w) (hM : MachAt w wb.heap.size S m) (hT : Turn w w' S S') : Ext wb w' := Below.trans h (hT.below hM.lo h.size)
theorem payO_calls {w : World} {base : Nat} {S : Spot} {m : Mach} {n : Int} (h : MachAt w base S m) (hk : m.Ok) (h0 : 0 ≤ n) (h1 : n < 18446744073709551616) (hp : m.fuel - m.steps < n) :
    Calls Tryz.prog 69 #[.pointer (some ⟨S.M, 0, none⟩), .int .u64 n] w (Over w base S m 0) := by
  have := pay_calls w base S m n h hk h0 h1
  rwa [pay_over hp] at this
theorem payG_calls {w : World} {base : Nat} {S : Spot} {m : Mach} {n : Int} (h : MachAt w base S m) (hk : m.Ok) (h0 : 0 ≤ n) (h1 : n < 18446744073709551616) (hp : ¬ m.fuel - m.steps < n) :
    Calls Tryz.prog 69 #[.pointer (some ⟨S.M, 0, none⟩), .int .u64 n] w (Went w base S { m with steps := m.steps + n }) := by
  have := pay_calls w base S m n h hk h0 h1
  rwa [pay_go hp] at this

theorem cost_at {w : World} {base : Nat} {S : Spot} {m : Mach} {M : Nat} (hSM : Hid (S.M = M)) (o : LOp) (h : MachAt w base S m) (hk : m.Ok) (ha : Hid (o.kind = 9 → 0 ≤ o.a ∧ o.a < m.v.length)) (hb : Hid (o.kind = 10 → 0 ≤ o.b ∧ o.b < m.v.length)) :
    Calls Tryz.prog 70 #[.pointer (some ⟨M, 0, none⟩), o.val] w fun e w' => e = .returned (.int .u64 (m.cost o)) ∧ Ext w w' := by
  obtain rfl := hSM.out
  exact cost_calls w base S m o h hk ha.out hb.out
theorem payO_at {w : World} {base : Nat} {S : Spot} {m : Mach} {n : Int} {M : Nat} (hSM : Hid (S.M = M)) (h : MachAt w base S m) (hk : m.Ok) (h0 : 0 ≤ n) (h1 : n < 18446744073709551616) (hp : Hid (m.fuel - m.steps < n)) :
    Calls Tryz.prog 69 #[.pointer (some ⟨M, 0, none⟩), .int .u64 n] w (Over w base S m 0) := by
  obtain rfl := hSM.out
  exact payO_calls h hk h0 h1 hp.out
theorem payG_at {w : World} {base : Nat} {S : Spot} {m : Mach} {n : Int} {M : Nat} (hSM : Hid (S.M = M)) (h : MachAt w base S m) (hk : m.Ok) (h0 : 0 ≤ n) (h1 : n < 18446744073709551616) (hp : Hid (n ≤ m.fuel - m.steps)) :
    Calls Tryz.prog 69 #[.pointer (some ⟨M, 0, none⟩), .int .u64 n] w (Went w base S { m with steps := m.steps + n }) := by
  obtain rfl := hSM.out
  exact payG_calls h hk h0 h1 (by have := hp.out; omega)
theorem trap_at {w : World} {base : Nat} {S : Spot} {m : Mach} {n : Int} {M : Nat} (hSM : Hid (S.M = M)) (h : MachAt w base S m) :
    Calls Tryz.prog 71 #[.pointer (some ⟨M, 0, none⟩), .int .i64 n] w (Over w base S { m with fin := 4, trap := n } 0) := by
  obtain rfl := hSM.out
  exact trap_calls w base S m n h
theorem step_at {st : Mach → LOp → Res} {base : Nat} {M : Nat} {w : World} {S : Spot} {m : Mach} {o : LOp} {F : Nat} (hSM : Hid (S.M = M)) (hF : Hid (fnOf o.kind.toNat = F)) (r : Res) (hr : Hid (st m o = r)) (h : Calls Tryz.prog (fnOf o.kind.toNat) #[.pointer (some ⟨S.M, 0, none⟩), o.val] w (Post w base S (st m o))) :
    Calls Tryz.prog F #[.pointer (some ⟨M, 0, none⟩), o.val] w (Post w base S r) := by
  obtain rfl := hSM.out
  obtain rfl := hr.out
  obtain rfl := hF.out
  exact h
theorem res_pay {st : Mach → LOp → Res} {bs : List LBlock} {gn k : Nat} {mr mi Rm : Mach} {Re cst : Int} {b : LBlock} {o : LOp} {l : List LOp} (hget : bs[k]? = some b) (hv : runs st bs (gn + 1) mr k = (Rm, Re)) (hro : runOps st mr b.ops = runOps st mi (o :: l)) (hc : mi.cost o = cst) (hp : mi.fuel - mi.steps < cst) : Rm = mi ∧ Re = 0 := by
  have h1 : runBlock st mr b = .done mi 0 := by
    unfold runBlock
    rw [hro, runOps_cons, hc, pay_over hp]
  rw [runs_of_done hget h1] at hv
  injection hv with e1 e2
  exact ⟨e1.symm, e2.symm⟩
theorem res_step {st : Mach → LOp → Res} {bs : List LBlock} {gn k : Nat} {mr mi m2 Rm : Mach} {Re cst e : Int} {b : LBlock} {o : LOp} {l : List LOp} (hget : bs[k]? = some b) (hv : runs st bs (gn + 1) mr k = (Rm, Re)) (hro : runOps st mr b.ops = runOps st mi (o :: l)) (hc : mi.cost o = cst) (hp : ¬ mi.fuel - mi.steps < cst)
    (hs : st { mi with steps := mi.steps + cst } o = .over m2 e) : Rm = m2 ∧ Re = e := by
  have h1 : runBlock st mr b = .done m2 e := by
    unfold runBlock
    rw [hro, runOps_cons, hc, pay_go hp]
    simp only [hs]
  rw [runs_of_done hget h1] at hv
  injection hv with e1 e2
  exact ⟨e1.symm, e2.symm⟩
theorem ops_step {st : Mach → LOp → Res} {mr mi m2 : Mach} {cst : Int} {b : LBlock} {o : LOp} {l : List LOp} (hro : runOps st mr b.ops = runOps st mi (o :: l)) (hc : mi.cost o = cst) (hp : ¬ mi.fuel - mi.steps < cst)
    (hs : st { mi with steps := mi.steps + cst } o = .go m2) : runOps st mr b.ops = runOps st m2 l := by
  rw [hro, runOps_cons, hc, pay_go hp]
  simp only [hs]
theorem res_pay1 {st : Mach → LOp → Res} {bs : List LBlock} {gn k : Nat} {mr mi Rm : Mach} {Re : Int} {b : LBlock} (hget : bs[k]? = some b) (hv : runs st bs (gn + 1) mr k = (Rm, Re)) (hro : runOps st mr b.ops = .go mi) (hp : mi.fuel - mi.steps < 1) : Rm = mi ∧ Re = 0 := by
  have h1 : runBlock st mr b = .done mi 0 := by
    unfold runBlock
    rw [hro]
    simp only [pay_over hp]
  rw [runs_of_done hget h1] at hv
  injection hv with e1 e2
  exact ⟨e1.symm, e2.symm⟩
theorem res_done {st : Mach → LOp → Res} {bs : List LBlock} {gn k : Nat} {mr mi m' Rm : Mach} {Re e : Int} {b : LBlock} (hget : bs[k]? = some b) (hv : runs st bs (gn + 1) mr k = (Rm, Re)) (hro : runOps st mr b.ops = .go mi) (hp : ¬ mi.fuel - mi.steps < 1) (he : runEnd { mi with steps := mi.steps + 1 } b = .done m' e) : Rm = m' ∧ Re = e := by
  have h1 : runBlock st mr b = .done m' e := by
    unfold runBlock
    rw [hro]
    simp only [pay_go hp, he]
  rw [runs_of_done hget h1] at hv
  injection hv with e1 e2
  exact ⟨e1.symm, e2.symm⟩
theorem res_goto {st : Mach → LOp → Res} {bs : List LBlock} {gn k k' : Nat} {mr mi m' Rm : Mach} {Re : Int} {b : LBlock} (hget : bs[k]? = some b) (hv : runs st bs (gn + 1) mr k = (Rm, Re)) (hro : runOps st mr b.ops = .go mi) (hp : ¬ mi.fuel - mi.steps < 1) (he : runEnd { mi with steps := mi.steps + 1 } b = .goto m' k') : runs st bs gn m' k' = (Rm, Re) := by
  have h1 : runBlock st mr b = .goto m' k' := by
    unfold runBlock
    rw [hro]
    simp only [pay_go hp, he]
  rwa [runs_of_goto hget h1] at hv
theorem end_in {s : List Bool} {nb : Nat} {b : LBlock} (h : endOk s nb b = true) : (b.fin = 1 ∧ 0 ≤ b.to ∧ b.to < nb) ∨ (b.fin = 2 ∧ (0 ≤ b.a ∧ b.a < s.length) ∧ (0 ≤ b.to ∧ b.to < nb) ∧ 0 ≤ b.els ∧ b.els < nb) ∨ (b.fin = 3 ∧ (b.a = -1 ∨ 0 ≤ b.a ∧ b.a < s.length)) ∨ b.fin = 4 := by
  unfold endOk at h
  simp only [blockOk, vOk, if_true] at h
  split at h
  · rename_i e; simp at e h; exact .inl ⟨e, h.1.2⟩
  split at h
  · rename_i e; simp at e h; exact .inr (.inl ⟨e, h.1.1.1, h.1.2, h.2⟩)
  split at h
  · rename_i e; simp at e h; exact .inr (.inr (.inl ⟨e, h.1.1⟩))
  split at h
  · rename_i e; simp at e; exact .inr (.inr (.inr e))
  · cases h
theorem haltM {w5 : World} {base : Nat} {S5 : Spot} {m5 : Mach} {M : Nat} (HSM : Hid (S5.M = M)) (hM5 : MachAt w5 base S5 m5) : MachAt (w5.setCell ⟨M, 7, none⟩ (.int .u8 3)) base S5 { m5 with fin := 3 } := by
  obtain rfl := HSM.out
  exact hM5.setM 7 (.int .u8 3) { m5 with fin := 3 } rfl rfl rfl rfl rfl rfl
theorem retM {w5 : World} {base : Nat} {S5 : Spot} {m5 : Mach} {M : Nat} (HSM : Hid (S5.M = M)) (hM5 : MachAt w5 base S5 m5) (r : Int) : MachAt (w5.setCell ⟨M, 9, none⟩ (.int .u64 r)) base S5 { m5 with ret := r } := by
  obtain rfl := HSM.out
  exact hM5.setM 9 (.int .u64 r) { m5 with ret := r } rfl rfl rfl rfl rfl rfl
theorem turnM {w w5 : World} {S S5 : Spot} {M : Nat} (HSM : Hid (S5.M = M)) (hT : Turn w w5 S S5) (i : Nat) (v : Value) : Turn w (w5.setCell ⟨M, i, none⟩ v) S S5 := by
  obtain rfl := HSM.out
  exact hT.trans (Turn.setM w5 S5 i v)
theorem atM {w5 : World} {S5 : Spot} {M B : Nat} {o : Obj} (HSM : Hid (S5.M = M)) (h : At1 w5 S5 B o) (i : Nat) (v : Value) : At1 (w5.setCell ⟨M, i, none⟩ v) S5 B o := by
  obtain rfl := HSM.out
  exact ⟨(setCell_heap_ne (fun e => h.2 (by rw [← e]; exact S5.M_mem))).trans h.1, h.2⟩
set_option maxRecDepth 100000 in
/-- The door, behind a halt. -/
theorem door_halt {w w6 : World} {base : Nat} {S S5 : Spot} {m6 : Mach} {Be : Nat} {tmps : Array Value} (hM6 : MachAt w6 base S5 m6) (hT6 : Turn w w6 S S5) (hs1 : At1 w6 S5 Be (.cells #[.int .i64 0] 30 (0, 0))) (hB : w.heap.size ≤ Be)
    (ht : tmps.getD 4 undef = .pointer (some ⟨Be, 0, none⟩)) :
    Leaves Tryz.prog Tryz.f41 tmps (GoneTo w base S m6 0) [{ target := .fn (.func 67) #[.pointer (some ⟨Be, 0, none⟩)], args := #[] }] .returning (w6.setCell ⟨Be, 0, none⟩ (.int .i64 0)) :=
  door_ret (by rw [setCell_heap hs1.1]; rfl) (hM6.far (grown_set _ _ _ _) hs1.2) (hT6.newSet hB 0 _) ht
set_option maxRecDepth 100000 in
theorem door_halt_drew {w w6 : World} {base : Nat} {S S5 : Spot} {m6 : Mach} {Be : Nat} {tmps : Array Value} (hM6 : MachAt w6 base S5 m6) (hT6 : Turn w w6 S S5) (hs1 : At1 w6 S5 Be (.cells #[.int .i64 0] 30 (0, 0))) (hB : w.heap.size ≤ Be)
    (ht : tmps.getD 4 undef = .pointer (some ⟨Be, 0, none⟩)) :
    Leaves Tryz.prog Tryz.f41 tmps (GoneTo w base S m6 0) [{ target := .fn (.func 67) #[.pointer (some ⟨Be, 0, none⟩)], args := #[] }] .returning (w6.setCell ⟨Be, 0, none⟩ (.int .i64 0)).drew :=
  door_ret (Be := Be) (by show (w6.setCell ⟨Be, 0, none⟩ (.int .i64 0)).heap[Be]? = _; rw [setCell_heap hs1.1]; rfl) (drewM (hM6.far (grown_set _ _ _ _) hs1.2)) (drewT (hT6.newSet hB 0 _)) ht
theorem kind_in {s : List Bool} {o : LOp} (h : opOk s o = true) : (1 ≤ o.kind ∧ o.kind ≤ 13) ∧ (o.kind = 9 → 0 ≤ o.a ∧ o.a < s.length) ∧ (o.kind = 10 → 0 ≤ o.b ∧ o.b < s.length) := by
  simp only [opOk, opForm, Bool.and_eq_true, decide_eq_true_eq] at h
  obtain ⟨⟨⟨⟨⟨⟨hk, -⟩, ha⟩, hb⟩, -⟩, -⟩, -⟩ := h
  refine ⟨hk, fun e => ?_, fun e => ?_⟩
  · rw [e] at ha; exact vOk_in ha
  · rw [e] at hb; exact vOk_in hb

set_option maxRecDepth 100000 in
set_option maxHeartbeats 16000000 in
theorem goes_calls (st : Mach → LOp → Res) (I : Mach → Prop) (L : Lay) (p : LIr) (wb w : World) (S : Spot) (m : Mach) (hp : IrAt wb L p) (hE : Ext wb w) (h : MachAt w wb.heap.size S m) (hI : I m) (hok : irOk p = true)
    (hI1 : ∀ m, I m → m.Ok ∧ m.v.length = p.secret.length) (hI2 : ∀ m n, I m → 0 ≤ n → n ≤ m.fuel - m.steps → I { m with steps := m.steps + n })
    (hst : ∀ b ∈ p.blocks, ∀ o ∈ b.ops, ∀ w S m, wb.heap.size ≤ w.heap.size → MachAt w wb.heap.size S m → I m → Calls Tryz.prog (fnOf o.kind.toNat) #[.pointer (some ⟨S.M, 0, none⟩), o.val] w (Post w wb.heap.size S (st m o)))
    (hgo : ∀ b ∈ p.blocks, ∀ o ∈ b.ops, ∀ m m', I m → st m o = .go m' → I m' ∧ m'.steps = m.steps ∧ m'.fuel = m.fuel) :
    Calls Tryz.prog 41 #[.pointer (some ⟨S.M, 0, none⟩), L.val p] w (GoneTo w wb.heap.size S (runs st p.blocks ((m.fuel - m.steps).toNat + 1) m 0).1 (runs st p.blocks ((m.fuel - m.steps).toNat + 1) m 0).2) := by
  generalize hRm : (runs st p.blocks ((m.fuel - m.steps).toNat + 1) m 0).1 = Rm
  generalize hRe : (runs st p.blocks ((m.fuel - m.steps).toNat + 1) m 0).2 = Re
  have HR : Hid (runs st p.blocks ((m.fuel - m.steps).toNat + 1) m 0 = (Rm, Re)) := Lib.hid (by rw [← hRm, ← hRe])
  clear hRm hRe
  have HI1 := Lib.hid hI1
  have HI2 := Lib.hid hI2
  have Hst := Lib.hid hst
  have Hgo := Lib.hid hgo
  have HI := Lib.hid hI
  have Hbl := Lib.hid (blocks_ok hok)
  have hnb : 0 < p.blocks.length := by
    simp only [irOk, Bool.and_eq_true, decide_eq_true_eq] at hok
    omega
  clear hI1 hI2 hst hgo hI hok
  have hmf : ∀ (fn : Fn) (first cap : Array Value) (w : World), (Instr.makeFunc fn first cap).run Tryz.prog w = .ok (.func fn first cap) w := fun _ _ _ _ => rfl
  have hlt0 := h.lt
  obtain ⟨sA, sc, pA, pc, bA, bc⟩ := L
  go_enter_defers Tryz.func41, Tryz.ntmps41
  go_upto_region 3 with (go_at_call 68; refine (steps_calls _).mono ?_; rintro e w1 ⟨rfl, rfl⟩)
  have hX0 : Ext w (((w.alloc (Lay.box ⟨sA, sc, pA, pc, bA, bc⟩ p)).alloc (.cells #[.int .i64 0] 30)).alloc (.map (stepEs 13) 13)) := (((Ext.refl w).alloc _).alloc _).alloc _
  have hK0 : (((w.alloc (Lay.box ⟨sA, sc, pA, pc, bA, bc⟩ p)).alloc (.cells #[.int .i64 0] 30)).alloc (.map (stepEs 13) 13)).heap[w.heap.size]? = some (Lay.box ⟨sA, sc, pA, pc, bA, bc⟩ p) := heap_alloc_was (heap_alloc_was (heap_alloc_self _ _) _) _
  have hK1 : (((w.alloc (Lay.box ⟨sA, sc, pA, pc, bA, bc⟩ p)).alloc (.cells #[.int .i64 0] 30)).alloc (.map (stepEs 13) 13)).heap[w.heap.size + 1]? = some (.cells #[.int .i64 0] 30 (0, 0)) := heap_alloc_was (heap_alloc_at _ _ (by simp)) _
  have hK2 : (((w.alloc (Lay.box ⟨sA, sc, pA, pc, bA, bc⟩ p)).alloc (.cells #[.int .i64 0] 30)).alloc (.map (stepEs 13) 13)).heap[w.heap.size + 1 + 1]? = some (.map (stepEs 13) 13) := heap_alloc_at _ _ (by simp)
  generalize ((w.alloc (Lay.box ⟨sA, sc, pA, pc, bA, bc⟩ p)).alloc (.cells #[.int .i64 0] 30)).alloc (.map (stepEs 13) 13) = W1 at hX0 hK0 hK1 hK2 ⊢
  have hN : ∀ B, w.heap.size ≤ B → B ∉ S.blocks := fun B hB hm => by have := hlt0 B hm; omega
  have hs0 : At1 W1 S w.heap.size (Lay.box ⟨sA, sc, pA, pc, bA, bc⟩ p) := ⟨hK0, hN _ (Nat.le_refl _)⟩
  have hs1 : At1 W1 S (w.heap.size + 1) (.cells #[.int .i64 0] 30 (0, 0)) := ⟨hK1, hN _ (by omega)⟩
  have hs2 : At1 W1 S (w.heap.size + 1 + 1) (.map (stepEs 13) 13) := ⟨hK2, hN _ (by omega)⟩
  have hM1 := h.ext hX0
  have hT1 := Turn.ext S hX0
  have hE1 := hE.trans hX0
  clear hK0 hK1 hK2 hN hlt0 hE h
  go_wp2
  go_loopg [6] ((m.fuel - m.steps).toNat + 1) (fun n a wr => ∃ (k : Nat) (mr : Mach) (Sr : Spot), a = .int .i64 k ∧ k < p.blocks.length ∧ Hid (I mr) ∧ MachAt wr wb.heap.size Sr mr ∧ Turn w wr S Sr ∧ Ext wb wr ∧ At1 wr Sr w.heap.size (Lay.box ⟨sA, sc, pA, pc, bA, bc⟩ p) ∧ At1 wr Sr (w.heap.size + 1) (.cells #[.int .i64 0] 30 (0, 0)) ∧ At1 wr Sr (w.heap.size + 1 + 1) (.map (stepEs 13) 13) ∧ Hid ((mr.fuel - mr.steps).toNat < n) ∧ Hid (runs st p.blocks n mr k = (Rm, Re)))
  case atStart => exact ⟨0, m, S, rfl, hnb, HI, hM1, hT1, hE1, hs0, hs1, hs2, Lib.hid (Nat.lt_succ_self _), HR⟩
  case round =>
    clear hM1 hT1 hE1 hs0 hs1 hs2 hX0
    obtain ⟨wo, rfl⟩ : ∃ wo : World, wo = wr := ⟨_, rfl⟩
    obtain ⟨k, mr, Sr, rfl, hk, hI, hM, hT, hE, hs0, hs1, hs2, hms, hv⟩ := hrel
    obtain ⟨gn, Hgn⟩ : ∃ gn, Hid (gk = gn + 1) := ⟨gk - 1, Lib.hid (by have := hms.out; omega)⟩
    have Hv : Hid (runs st p.blocks (gn + 1) mr k = (Rm, Re)) := Lib.hid (by have e := hv.out; rw [Hgn.out] at e; exact e)
    obtain ⟨bb, off, A', c, rfl, hbb, ⟨h0, h1, h2, h3, h4⟩, hcl, hrops⟩ := hp.rb.2 k hk
    have hget : Hid (p.blocks[k]? = some p.blocks[k]) := Lib.hid (List.getElem?_eq_getElem hk)
    have hmem : Hid (p.blocks[k] ∈ p.blocks) := Lib.hid (List.getElem_mem hk)
    have hbk := Lib.hid (Hbl.out k hk)
    generalize p.blocks[k] = b at h0 h1 h2 h3 h4 hcl hrops hget hmem hbk
    replace h0 := (hE.cells.1 _ _ hbb).trans h0
    replace h1 := (hE.cells.1 _ _ hbb).trans h1
    replace h2 := (hE.cells.1 _ _ hbb).trans h2
    replace h3 := (hE.cells.1 _ _ hbb).trans h3
    replace h4 := (hE.cells.1 _ _ hbb).trans h4
    have hbr := Nat.lt_of_lt_of_le hbb hE.size
    have b0 := box_cell hs0.1
    dsimp only at b0
    have hop := hrops.1
    have hrow := Lib.hid hrops
    clear hrops
    go_upto_region 5 with fail
    generalize hW2 : wo.alloc (b.box A' c) = W2
    have hX2 : Ext wo W2 := by rw [← hW2]; exact below_alloc1 _
    have hs3 : At1 W2 Sr wo.heap.size (b.box A' c) := ⟨by rw [← hW2]; exact heap_alloc_self _ _, fun hm => Nat.lt_irrefl _ (hM.lt _ hm)⟩
    clear hW2 h0 h1 h2 h3 h4 b0
    replace hM := hM.ext hX2
    replace hT := hT.after hX2
    replace hE := hE.trans hX2
    replace hs0 := hs0.ext hX2
    replace hs1 := hs1.ext hX2
    replace hs2 := hs2.ext hX2
    have b3 := box_cell hs3.1
    go_wp2
    go_loopw [20] (fun i wi => ∃ (q : Nat) (mi : Mach) (Si : Spot), q ≤ b.ops.length ∧ i = .int .i64 q ∧ Hid (I mi) ∧ MachAt wi wb.heap.size Si mi ∧ Turn w wi S Si ∧ Ext wb wi ∧ At1 wi Si w.heap.size (Lay.box ⟨sA, sc, pA, pc, some ⟨bb, off, none⟩, bc⟩ p) ∧ At1 wi Si (w.heap.size + 1) (.cells #[.int .i64 0] 30 (0, 0)) ∧ At1 wi Si (w.heap.size + 1 + 1) (.map (stepEs 13) 13) ∧ At1 wi Si wo.heap.size (b.box A' c) ∧ Hid (mi.fuel - mi.steps ≤ mr.fuel - mr.steps) ∧ Hid (runOps st mr b.ops = runOps st mi (b.ops.drop q))) (fun i _ => b.ops.length - (intOf i).toNat)
    case atStart => exact ⟨0, mr, Sr, Nat.zero_le _, rfl, hI, hM, hT, hE, hs0, hs1, hs2, hs3, Lib.hid (Int.le_refl _), Lib.hid rfl⟩
    case round =>
      clear hM hT hE hs0 hs1 hs2 hs3 b3 hX2 hI
      obtain ⟨q, mi, Si, hq, rfl, hI, hM, hT, hE, hs0, hs1, hs2, hs3, hfu, hro⟩ := hrel
      have HSM : Hid (Si.M = S.M) := Lib.hid hT.M
      obtain ⟨hmok, hmv⟩ := HI1.out mi hI.out
      have Hmv := Lib.hid hmv
      clear hmv
      by_cases hql : q < b.ops.length
      · obtain ⟨ob, oo, rfl, hob, o0, o1, o2, o3, o4, o5⟩ := hrow.out.2 q hql
        have hdrop : Hid (b.ops.drop q = b.ops[q] :: b.ops.drop (q + 1)) := Lib.hid (List.drop_eq_getElem_cons hql)
        have hom : Hid (b.ops[q] ∈ b.ops) := Lib.hid (List.getElem_mem hql)
        generalize b.ops[q] = o at *
        replace o0 := (hE.cells.1 _ _ hob).trans o0
        replace o1 := (hE.cells.1 _ _ hob).trans o1
        replace o2 := (hE.cells.1 _ _ hob).trans o2
        replace o3 := (hE.cells.1 _ _ hob).trans o3
        replace o4 := (hE.cells.1 _ _ hob).trans o4
        replace o5 := (hE.cells.1 _ _ hob).trans o5
        have obl := Nat.lt_of_lt_of_le hob hE.size
        go_upto_region 8 with fail
        generalize hW3 : wr.alloc o.box = W3
        have hX3 : Ext wr W3 := by rw [← hW3]; exact below_alloc1 _
        have hs4 : At1 W3 Si wr.heap.size o.box := ⟨by rw [← hW3]; exact heap_alloc_self _ _, fun hm => Nat.lt_irrefl _ (hM.lt _ hm)⟩
        clear hW3 o0 o1 o2 o3 o4 o5
        replace hM := hM.ext hX3
        replace hT := hT.after hX3
        replace hE := hE.trans hX3
        replace hs0 := hs0.ext hX3
        replace hs1 := hs1.ext hX3
        replace hs2 := hs2.ext hX3
        replace hs3 := hs3.ext hX3
        have b4 := box_cell hs4.1
        have bl4 := hs4.lt
        have hko := kind_in (hbk.out.2 o hom.out)
        obtain ⟨c0, c1⟩ := cost_range hmok o
        have Ha9 : Hid (o.kind = 9 → 0 ≤ o.a ∧ o.a < mi.v.length) := Lib.hid (by rw [Hmv.out]; exact hko.2.1)
        have Hb10 : Hid (o.kind = 10 → 0 ≤ o.b ∧ o.b < mi.v.length) := Lib.hid (by rw [Hmv.out]; exact hko.2.2)
        obtain ⟨k1, k2⟩ := hko.1
        clear hko hX3
        generalize hcc : mi.cost o = cst at c0 c1
        have Hcc := Lib.hid hcc
        clear hcc
        by_cases hpay : mi.fuel - mi.steps < cst
        · have Hpay := Lib.hid hpay
          clear hpay
          go_wp2_with (first
            | (go_at_call 70; refine (cost_at HSM o hM hmok Ha9 Hb10).mono ?_; rw [Hcc.out]; rintro e w4 ⟨rfl, hx4⟩; replace hM := hM.ext hx4; replace hT := hT.after hx4; replace hs1 := hs1.ext hx4)
            | (go_at_call 69; refine (payO_at HSM hM hmok (by omega) c1 Hpay).mono ?_; rintro e w5 ⟨rfl, S5, hM5, hT5⟩))
          have hres := res_pay hget.out Hv.out (by rw [hro.out, hdrop.out]) Hcc.out Hpay.out
          rw [hres.1, hres.2]
          exact door_over (hs1.turn hT5).1 hM5 (hT.trans hT5) (Nat.le_succ _) (hs1.turn hT5).2 rfl
        · have Hpay : Hid (cst ≤ mi.fuel - mi.steps) := Lib.hid (by omega)
          have hI1 := Lib.hid (HI2.out mi cst hI.out (by omega) (by omega))
          clear hpay
          have hcf := call_step o.kind k1 k2
          have hlk0 := fun (W : World) (hW : W.heap[w.heap.size + 1 + 1]? = some (.map (stepEs 13) 13)) => look_step hW o.kind k1 k2
          generalize hF : fnOf o.kind.toNat = F at hcf hlk0
          have HF := Lib.hid hF
          have Hlk0 := Lib.hid hlk0
          clear hF hlk0
          go_wp2_with (first
            | (go_at_call 70; refine (cost_at HSM o hM hmok Ha9 Hb10).mono ?_; rw [Hcc.out]; rintro e w4 ⟨rfl, hx4⟩; replace hM := hM.ext hx4; replace hT := hT.after hx4; replace hE := hE.trans hx4; replace hs0 := hs0.ext hx4; replace hs1 := hs1.ext hx4; replace hs2 := hs2.ext hx4; replace hs3 := hs3.ext hx4; replace hs4 := hs4.ext hx4)
            | (go_at_call 69; refine (payG_at HSM hM hmok (by omega) c1 Hpay).mono ?_; rintro e w5 ⟨rfl, S5, hM5, hT5⟩; replace hE := hE.turn hM hT5; replace hT := hT.trans hT5; clear hM b4 bl4; replace hs0 := hs0.turn hT5; replace hs1 := hs1.turn hT5; replace hs2 := hs2.turn hT5; replace hs3 := hs3.turn hT5; replace hs4 := hs4.turn hT5; have b5 := box_cell hs4.1; have bl5 := hs4.lt; have hlk := Hlk0.out w5 hs2.1))
          have HSM5 : Hid (S5.M = S.M) := Lib.hid hT.M
          cases hs : st { mi with steps := mi.steps + cst } o with
          | over m2 ee =>
            have Hs := Lib.hid hs
            clear hs
            have hres := res_step hget.out Hv.out (by rw [hro.out, hdrop.out]) Hcc.out (by have := Hpay.out; omega) Hs.out
            have Hres := Lib.hid hres
            clear hres
            refine (step_at HSM5 HF (.over m2 ee) Hs (Hst.out b hmem.out o hom.out w5 S5 _ hE.size hM5 hI1.out)).mono ?_
            intro e' w6 hpost
            obtain ⟨rfl, S6, hM6, hT6⟩ : Over _ _ _ _ _ _ _ := hpost
            go_wp2
            rw [Hres.out.1, Hres.out.2]
            exact door_over (hs1.turn hT6).1 hM6 (hT.trans hT6) (Nat.le_succ _) (hs1.turn hT6).2 rfl
          | go m2 =>
            have Hs := Lib.hid hs
            clear hs
            obtain ⟨hI2, hst2, hfl2⟩ := Hgo.out b hmem.out o hom.out _ _ hI1.out Hs.out
            have HI2' := Lib.hid hI2
            have Hst2 := Lib.hid hst2
            have Hfl2 := Lib.hid hfl2
            clear hI2 hst2 hfl2
            refine (step_at HSM5 HF (.go m2) Hs (Hst.out b hmem.out o hom.out w5 S5 _ hE.size hM5 hI1.out)).mono ?_
            intro e' w6 hpost
            obtain ⟨rfl, S6, hM6, hT6⟩ : Went _ _ _ _ _ _ := hpost
            replace hE := hE.turn hM5 hT6
            go_wp2
            go_roundw
            case rel =>
              refine ⟨q + 1, m2, S6, hql, by go_num, HI2', hM6, hT.trans hT6, hE, hs0.turn hT6, hs1.turn hT6, hs2.turn hT6, hs3.turn hT6, Lib.hid ?_, Lib.hid ?_⟩
              · have e1 := Hst2.out
                have e2 := Hfl2.out
                have e3 := hfu.out
                omega
              · exact ops_step (by rw [hro.out, hdrop.out]) Hcc.out (by have := Hpay.out; omega) Hs.out
            case measure => simp [intOf]; omega
      · have hqe : Hid (runOps st mr b.ops = .go mi) := Lib.hid (by rw [hro.out, List.drop_eq_nil_of_le (by omega), runOps_nil])
        have hb2 := hbk.out.1
        have HI1' := HI1
        by_cases hpay : mi.fuel - mi.steps < 1
        · have Hpay := Lib.hid hpay
          clear hpay
          have hres := res_pay1 hget.out Hv.out hqe.out Hpay.out
          have Hres := Lib.hid hres
          clear hres hb2
          go_wp2_with (go_at_call 69; refine (payO_at HSM hM hmok (by omega) (by omega) Hpay).mono ?_; rintro e w5 ⟨rfl, S5, hM5, hT5⟩)
          rw [Hres.out.1, Hres.out.2]
          exact door_over (hs1.turn hT5).1 hM5 (hT.trans hT5) (Nat.le_succ _) (hs1.turn hT5).2 rfl
        · have Hpay : Hid (1 ≤ mi.fuel - mi.steps) := Lib.hid (by omega)
          have Hnp : Hid (¬ mi.fuel - mi.steps < 1) := Lib.hid (by omega)
          have hI1 := Lib.hid (HI2.out mi 1 hI.out (by omega) (by omega))
          have Hlow : Hid ((mi.fuel - (mi.steps + 1)).toNat < gn) := Lib.hid (by
            have e1 := hfu.out
            have e2 := hms.out
            have e3 := Hgn.out
            omega)
          clear hpay
          have hends := end_in hb2
          clear hb2
          rcases hends with ⟨hf, t0, t1⟩ | ⟨hf, ⟨a0, a1⟩, ⟨t0, t1⟩, e0, e1⟩ | ⟨hf, ha⟩ | hf
          · have Hrun := Lib.hid (res_goto (m' := { mi with steps := mi.steps + 1 }) (k' := b.to.toNat) hget.out Hv.out hqe.out (by have := Hnp.out; omega) (by simp [runEnd, hf]))
            have f1 : (b.fin == 1) = true := by simp [hf]
            have Hto : Hid (((b.to.toNat : Nat) : Int) = b.to) := Lib.hid (Int.toNat_of_nonneg t0)
            clear hf
            go_wp2_with (go_at_call 69; refine (payG_at HSM hM hmok (by omega) (by omega) Hpay).mono ?_; rintro e w5 ⟨rfl, S5, hM5, hT5⟩; replace hE := hE.turn hM hT5; replace hT := hT.trans hT5; clear hM; replace hs0 := hs0.turn hT5; replace hs1 := hs1.turn hT5; replace hs2 := hs2.turn hT5; replace hs3 := hs3.turn hT5; have b5 := box_cell hs3.1; have bl5 := hs3.lt)
            go_roundg gn
            case rel => exact ⟨b.to.toNat, _, S5, by rw [Hto.out], by omega, hI1, hM5, hT, hE, hs0, hs1, hs2, Hlow, Hrun⟩
            case measure => rw [Hgn.out]; exact Nat.lt_succ_self _
          · have f1 : (b.fin == 1) = false := by simp [hf]
            have f2 : (b.fin == 2) = true := by simp [hf]
            have Hf := Lib.hid hf
            clear hf
            go_wp2_with (go_at_call 69; refine (payG_at HSM hM hmok (by omega) (by omega) Hpay).mono ?_; rintro e w5 ⟨rfl, S5, hM5, hT5⟩; replace hE := hE.turn hM hT5; replace hT := hT.trans hT5; clear hM; replace hs0 := hs0.turn hT5; replace hs1 := hs1.turn hT5; replace hs2 := hs2.turn hT5; replace hs3 := hs3.turn hT5; have b5 := box_cell hs3.1; have bl5 := hs3.lt; have HSM5 : Hid (S5.M = S.M) := Lib.hid hT.M; have m0 := hM5.m_cell; rw [HSM5.out] at m0; have ml : S.M < w5.heap.size := HSM5.out ▸ hM5.lt _ S5.M_mem; have vl := hM5.lt _ S5.vB_mem; have hf := hM5.frozen; rw [HSM5.out] at hf; have hne0 : S5.M ≠ wo.heap.size := (fun e => hs3.2 (e ▸ S5.M_mem)); have hne : S.M ≠ wo.heap.size := HSM5.out ▸ hne0; clear hne0; have hne' := Ne.symm hne; have hnv : S5.vB ≠ wo.heap.size := (fun e => hs3.2 (e ▸ S5.vB_mem)); have hnv' := Ne.symm hnv; have hmv0 := hM5.apart.Mv; rw [HSM5.out] at hmv0; have hmv1 := Ne.symm hmv0)
            have vca := hM5.v_cell b.a (by simp only [Hmv.out]; omega) a0
            have hva1 : b.a < (mi.v.length : Int) := by rw [Hmv.out]; exact a1
            go_quiet (fail)
            have hq2 : Ext w5 (w5.drewN nq) := (Ext.refl w5).drewN nq
            have hM6 := hM5.ext hq2
            have hT6 := hT.after hq2
            have hE6 := hE.trans hq2
            have k0 := hs0.ext hq2
            have k1 := hs1.ext hq2
            have k2 := hs2.ext hq2
            have k3 := hs3.ext hq2
            by_cases hz : mi.rd b.a = 0
            · have Hz := Lib.hid hz
              have Hrun := Lib.hid (res_goto (m' := { mi with steps := mi.steps + 1 }) (k' := b.els.toNat) hget.out Hv.out hqe.out (by have := Hnp.out; omega) (by have e2 : ({ mi with steps := mi.steps + 1 } : Mach).rd b.a = 0 := hz; simp [runEnd, Hf.out, e2]))
              have Hto : Hid (((b.els.toNat : Nat) : Int) = b.els) := Lib.hid (Int.toNat_of_nonneg e0)
              have hz2 : (({ mi with steps := mi.steps + 1 } : Mach).rd b.a != 0) = false := by simp; exact hz
              clear hz
              go_wp2
              go_roundg gn
              case rel => exact ⟨b.els.toNat, _, S5, by rw [Hto.out], by omega, hI1, hM6, hT6, hE6, k0, k1, k2, Hlow, Hrun⟩
              case measure => rw [Hgn.out]; exact Nat.lt_succ_self _
            · have Hrun := Lib.hid (res_goto (m' := { mi with steps := mi.steps + 1 }) (k' := b.to.toNat) hget.out Hv.out hqe.out (by have := Hnp.out; omega) (by have e2 : ¬ ({ mi with steps := mi.steps + 1 } : Mach).rd b.a = 0 := hz; simp [runEnd, Hf.out, e2]))
              have Hto : Hid (((b.to.toNat : Nat) : Int) = b.to) := Lib.hid (Int.toNat_of_nonneg t0)
              have hz2 : (({ mi with steps := mi.steps + 1 } : Mach).rd b.a != 0) = true := by simp; exact hz
              clear hz
              go_wp2
              go_roundg gn
              case rel => exact ⟨b.to.toNat, _, S5, by rw [Hto.out], by omega, hI1, hM6, hT6, hE6, k0, k1, k2, Hlow, Hrun⟩
              case measure => rw [Hgn.out]; exact Nat.lt_succ_self _
          · have f1 : (b.fin == 1) = false := by simp [hf]
            have f2 : (b.fin == 2) = false := by simp [hf]
            have f4 : (b.fin == 4) = false := by simp [hf]
            have Hf := Lib.hid hf
            clear hf
            go_upto_region 12 with (go_at_call 69; refine (payG_at HSM hM hmok (by omega) (by omega) Hpay).mono ?_; rintro e w5 ⟨rfl, S5, hM5, hT5⟩; replace hE := hE.turn hM hT5; replace hT := hT.trans hT5; clear hM; replace hs0 := hs0.turn hT5; replace hs1 := hs1.turn hT5; replace hs2 := hs2.turn hT5; replace hs3 := hs3.turn hT5; have b5 := box_cell hs3.1; have bl5 := hs3.lt; have HSM5 : Hid (S5.M = S.M) := Lib.hid hT.M; have m0 := hM5.m_cell; rw [HSM5.out] at m0; have ml : S.M < w5.heap.size := HSM5.out ▸ hM5.lt _ S5.M_mem; have vl := hM5.lt _ S5.vB_mem; have hf := hM5.frozen; rw [HSM5.out] at hf; have hne0 : S5.M ≠ wo.heap.size := (fun e => hs3.2 (e ▸ S5.M_mem)); have hne : S.M ≠ wo.heap.size := HSM5.out ▸ hne0; clear hne0; have hne' := Ne.symm hne; have hnv : S5.vB ≠ wo.heap.size := (fun e => hs3.2 (e ▸ S5.vB_mem)); have hnv' := Ne.symm hnv; have hmv0 := hM5.apart.Mv; rw [HSM5.out] at hmv0; have hmv1 := Ne.symm hmv0)
            have hr1 := hs1.1
            have r1 := box_cell hr1 0
            simp only [List.getElem?_toArray, List.getElem?_cons_zero] at r1
            have rf1 : w5.frozen? ⟨w.heap.size + 1, 0, none⟩ = false := by simp [World.frozen?, hr1]
            have rl1 := hs1.lt
            have n50 : S5.M ≠ w.heap.size + 1 := fun e => hs1.2 (e ▸ S5.M_mem)
            have n5 : S.M ≠ w.heap.size + 1 := HSM5.out ▸ n50
            have n5' := Ne.symm n5
            have n6 : S5.vB ≠ w.heap.size + 1 := fun e => hs1.2 (e ▸ S5.vB_mem)
            have n6' := Ne.symm n6
            clear n50
            by_cases hneg : b.a < 0
            · have hres := res_done (m' := { mi with steps := mi.steps + 1, fin := 3 }) (e := 0) hget.out Hv.out hqe.out (by have := Hnp.out; omega) (by simp [runEnd, Hf.out, Mach.halt, show ¬ 0 ≤ b.a by omega])
              have Hres := Lib.hid hres
              clear hres ha
              go_wp2
              rw [Hres.out.1, Hres.out.2]
              exact door_halt (haltM HSM5 hM5) (turnM HSM5 hT 7 _) (atM HSM5 hs1 7 _) (Nat.le_succ _) rfl
            · have ha0 : 0 ≤ b.a := by omega
              have ha1 : b.a < (p.secret.length : Int) := by omega
              have hva1 : b.a < (mi.v.length : Int) := by rw [Hmv.out]; exact ha1
              have vca := hM5.v_cell b.a (by simp only [Hmv.out]; omega) ha0
              have hres := res_done (m' := { mi with steps := mi.steps + 1, fin := 3, ret := mi.rd b.a }) (e := 0) hget.out Hv.out hqe.out (by have := Hnp.out; omega) (by simp [runEnd, Hf.out, Mach.halt, ha0]; rfl)
              have Hres := Lib.hid hres
              clear hres ha
              go_upto_region 15 with fail
              have hM6 := haltM HSM5 hM5
              have hT6 := turnM HSM5 hT 7 (.int .u8 3)
              have k1 := atM HSM5 hs1 7 (.int .u8 3)
              have k3 := atM HSM5 hs3 7 (.int .u8 3)
              generalize w5.setCell ⟨S.M, 7, none⟩ (.int .u8 3) = W6 at hM6 hT6 k1 k3 ⊢
              clear m0 ml vl hf b5 bl5 vca r1 rf1 rl1 hr1
              have m0 := hM6.m_cell
              rw [HSM5.out] at m0
              have ml : S.M < W6.heap.size := HSM5.out ▸ hM6.lt _ S5.M_mem
              have vl := hM6.lt _ S5.vB_mem
              have hf := hM6.frozen
              rw [HSM5.out] at hf
              have b6 := box_cell k3.1
              have bl6 := k3.lt
              have vca := hM6.v_cell b.a (by simp only [Hmv.out]; omega) ha0
              have r1 := box_cell k1.1 0
              simp only [List.getElem?_toArray, List.getElem?_cons_zero] at r1
              have rf1 : W6.frozen? ⟨w.heap.size + 1, 0, none⟩ = false := by simp [World.frozen?, k1.1]
              have rl1 := k1.lt
              go_still_tail 12, (by kernel_rfl)
              change wpList _ _ _ _ _ W6.drew
              go_wp2
              rw [Hres.out.1, Hres.out.2]
              exact door_halt_drew (retM HSM5 hM6 (mi.rd b.a)) (turnM HSM5 hT6 9 _) (atM HSM5 k1 9 _) (Nat.le_succ _) rfl
          · have hres := res_done (m' := { mi with steps := mi.steps + 1, fin := 4, trap := b.to }) (e := 0) hget.out Hv.out hqe.out (by have := Hnp.out; omega) (by simp [runEnd, hf])
            have Hres := Lib.hid hres
            clear hres
            have f1 : (b.fin == 1) = false := by simp [hf]
            have f2 : (b.fin == 2) = false := by simp [hf]
            have f4 : (b.fin == 4) = true := by simp [hf]
            clear hf
            go_wp2_with (first
              | (go_at_call 69; refine (payG_at HSM hM hmok (by omega) (by omega) Hpay).mono ?_; rintro e w5 ⟨rfl, S5, hM5, hT5⟩; replace hE := hE.turn hM hT5; replace hT := hT.trans hT5; clear hM; replace hs0 := hs0.turn hT5; replace hs1 := hs1.turn hT5; replace hs2 := hs2.turn hT5; replace hs3 := hs3.turn hT5; have b5 := box_cell hs3.1; have bl5 := hs3.lt; have HSM5 : Hid (S5.M = S.M) := Lib.hid hT.M)
              | (go_at_call 71; refine (trap_at HSM5 hM5).mono ?_; rintro e w6 ⟨rfl, S6, hM6, hT6⟩))
            rw [Hres.out.1, Hres.out.2]
            exact door_over (hs1.turn hT6).1 hM6 (hT.trans hT6) (Nat.le_succ _) (hs1.turn hT6).2 rfl
end Go.Proofs.YtggjcjdjhgfbmaaGreat
