/- The chapter's example: what each call in it comes to. Conditions: none. -/
import Derived.Test.YtggjcjdjhgfbmaaGreatRun4
import Derived.Test.YtggjcjdjhgfbmaaGreatRf9
namespace Go.Proofs.YtggjcjdjhgfbmaaGreat
open Go.RowKit Go.BigFrame

def p0 : LIr := ⟨[false, true], [], [⟨[⟨1, 0, 0, 0, 0, 7⟩], 3, 0, 0, 0⟩]⟩
def q0 : LIr := ⟨[false, true], [], [⟨[⟨2, 0, 0, 1, 0, 0⟩], 3, 0, 0, 0⟩]⟩
def z0 : LIr := ⟨[], [], []⟩
def stA (m : Mach) (o : LOp) : Res := .go (m.put o.d o.imm)
def machA : Mach := { v := [7, 0], handed := [], arena := [], left := [], taken := 0, size := 0, fuel := 9, fin := 3, trap := 0, ret := 7, told := [], steps := 2 }
def IA (m : Mach) : Prop := m.Ok ∧ m.v.length = 2
theorem IA_start : IA (mach0 2 0 9) := by
  refine ⟨⟨by simp [mach0], by simp [mach0], by simp [mach0], by simp [mach0], by simp [mach0], by simp [mach0], ?_, by simp [mach0]⟩, by simp [mach0]⟩
  intro x hx
  simp [mach0] at hx
  omega
theorem p0_blocks : p0.blocks = [⟨[⟨1, 0, 0, 0, 0, 7⟩], 3, 0, 0, 0⟩] := rfl
theorem p0_op {b : LBlock} (hb : b ∈ p0.blocks) {o : LOp} (ho : o ∈ b.ops) : o = ⟨1, 0, 0, 0, 0, 7⟩ := by
  rw [p0_blocks] at hb
  have := List.mem_singleton.1 hb
  subst this
  exact List.mem_singleton.1 ho
theorem p0_ok : irOk p0 = true := by decide
set_option maxRecDepth 100000 in
set_option maxHeartbeats 1000000 in
theorem run9_calls (L : Lay) (w : World) (hp : IrAt w L p0) :
    Calls Tryz.prog 19 #[L.val p0, inV0, .int .i64 0, .int .i64 9] w fun e w' => ∃ q d, e = .returned (.tuple #[outL 3 0 7 2 (.slice q 0 d), .int .i64 0]) ∧ Ext w w' := by
  refine (run0_calls stA IA L p0 w 0 9 machA hp rfl p0_ok (fun b hb o ho => by rw [p0_op hb ho]; simp) (fun b hb => ?_) (by omega) (by omega) (by omega) (by omega) IA_start (fun m hm => ⟨hm.1, hm.2⟩) (fun m n hm h0 h1 => ?_) (fun b hb o ho W S m hW hM hI => ?_) (fun b hb o ho m m' hI hs => ?_) (by kernel_rfl) rfl).mono ?_
  · rw [p0_blocks] at hb
    have := List.mem_singleton.1 hb
    subst this
    simp
  · obtain ⟨hk, hv⟩ := hm
    exact ⟨⟨by have := hk.s0; simp only; omega, by simp only; omega, hk.fl, hk.t0, hk.ts, hk.sl, hk.v, hk.ll⟩, hv⟩
  · have e := p0_op hb ho
    subst e
    have h2 : (m.v.length : Int) = 2 := by rw [hI.2]; rfl
    exact konst_calls W w.heap.size S m ⟨1, 0, 0, 0, 0, 7⟩ hM (by simp) (by simp only; omega)
  · have e := p0_op hb ho
    subst e
    injection hs with hs
    subst hs
    obtain ⟨hk, hv⟩ := hI
    refine ⟨⟨⟨hk.s0, hk.sf, hk.fl, hk.t0, hk.ts, hk.sl, ?_, hk.ll⟩, by simpa [Mach.put] using hv⟩, rfl, rfl⟩
    intro x hx
    rcases List.mem_or_eq_of_mem_set hx with hx | rfl
    · exact hk.v x hx
    · simp
  · rintro e w' ⟨tv, rfl, hown, hx⟩
    obtain ⟨q, d, rfl⟩ := own_form hown
    exact ⟨q, d, rfl, hx⟩
theorem runM_calls (L : Lay) (w : World) (hp : IrAt w L p0) :
    Calls Tryz.prog 19 #[L.val p0, inV0, .int .i64 0, .int .i64 (-1)] w fun e w' => e = .returned (.tuple #[outL 0 0 0 0 (.slice none 0 0), .int .i64 2]) ∧ Ext w w' :=
  runNeg_calls L p0 w hp rfl p0_ok (fun b hb o ho => by rw [p0_op hb ho]; simp) (fun b hb => by
    rw [p0_blocks] at hb
    have := List.mem_singleton.1 hb
    subst this
    simp)
theorem copy0_calls (L : Lay) (w : World) (hp : IrAt w L p0) : Calls Tryz.prog 10 #[L.val p0] w fun e w' => ∃ mA mc nA nc rA rc ms, e = .returned (.agg #[.slice mA 2 mc, .slice nA 0 nc, .slice rA 1 rc]) ∧ IrOwn w' w.heap.size ⟨mA, mc, nA, nc, rA, rc⟩ p0 ms ∧ Ext w w' :=
  (copy_calls L p0 w hp (by simp [p0]) (by simp [p0]) (by simp [p0]) (fun b hb => by
    rw [p0_blocks] at hb
    have := List.mem_singleton.1 hb
    subst this
    simp)).mono fun e w' ⟨⟨mA, mc, nA, nc, rA, rc⟩, ms, he, ho, hx⟩ => ⟨mA, mc, nA, nc, rA, rc, ms, he, ho, hx⟩
theorem check0_calls (L : Lay) (w : World) (hp : IrAt w L p0) : Calls Tryz.prog 11 #[L.val p0] w fun e w' => e = .returned (.int .i64 0) ∧ Ext w w' := by
  have := check_calls L p0 w hp (by simp [p0]) (fun b hb o ho => by rw [p0_op hb ho]; simp) (fun b hb => by
    rw [p0_blocks] at hb
    have := List.mem_singleton.1 hb
    subst this
    simp)
  rwa [show checkE p0 = 0 from by decide] at this
theorem checkQ_calls (L : Lay) (w : World) (hp : IrAt w L q0) : Calls Tryz.prog 11 #[L.val q0] w fun e w' => e = .returned (.int .i64 2) ∧ Ext w w' := by
  have := check_calls L q0 w hp (by simp [q0]) (fun b hb o ho => by
    have h1 : b = ⟨[⟨2, 0, 0, 1, 0, 0⟩], 3, 0, 0, 0⟩ := List.mem_singleton.1 hb
    subst h1
    have h2 := List.mem_singleton.1 ho
    subst h2
    simp) (fun b hb => by
    have h1 : b = ⟨[⟨2, 0, 0, 1, 0, 0⟩], 3, 0, 0, 0⟩ := List.mem_singleton.1 hb
    subst h1
    simp)
  rwa [show checkE q0 = 2 from by decide] at this
theorem z0_at (w : World) : IrAt w ⟨none, 0, none, 0, none, 0⟩ z0 :=
  ⟨⟨by simp [z0], fun j h => by simp [z0] at h⟩, ⟨by simp [z0], fun j h => by simp [z0] at h⟩, ⟨by simp [z0], fun j h => by simp [z0] at h⟩, Nat.le_refl _, Nat.le_refl _, Nat.le_refl _⟩
theorem checkZ_calls (w : World) : Calls Tryz.prog 11 #[.agg #[.slice none 0 0, .slice none 0 0, .slice none 0 0]] w fun e w' => e = .returned (.int .i64 2) ∧ Ext w w' := by
  have := check_calls ⟨none, 0, none, 0, none, 0⟩ z0 w (z0_at w) (by simp [z0]) (fun b hb => by cases hb) (fun b hb => by cases hb)
  rwa [show checkE z0 = 2 from by decide] at this
theorem alive_at {W : World} {B C D : Nat} (hB : W.heap[B]? = some (.cells #[.bool false, .bool true] 4 (0, 0))) (hC : W.heap[C]? = some (.cells #[.int .u8 1, .int .u8 0, .int .i64 0, .int .i64 0, .int .i64 0, .int .u64 7] 54 (0, 0)))
    (hD : W.heap[D]? = some (.cells #[.slice (some ⟨C, 0, none⟩) 1 1, .int .u8 3, .int .i64 0, .int .i64 0, .int .i64 0] 38 (0, 0))) : IrAt W ⟨some ⟨B, 0, none⟩, 2, none, 0, some ⟨D, 0, none⟩, 1⟩ p0 where
  rs := ⟨by simp [p0], fun j hj => by
    have hl := (Array.getElem?_eq_some_iff.1 hB).1
    refine ⟨B, 0, rfl, hl, ?_⟩
    rw [box_cell hB]
    match j, hj with
    | 0, _ => rfl
    | 1, _ => rfl⟩
  rp := ⟨by simp [p0], fun j h => by simp [p0] at h⟩
  rb := ⟨by simp [p0], fun j hj => by
    have hl := (Array.getElem?_eq_some_iff.1 hD).1
    match j, hj with
    | 0, _ =>
      refine ⟨D, 0, some ⟨C, 0, none⟩, 1, rfl, hl, ⟨?_, ?_, ?_, ?_, ?_⟩, Nat.le_refl _, by simp [p0], fun i hi => ?_⟩
      · rw [box_cell hD]; rfl
      · rw [box_cell hD]; rfl
      · rw [box_cell hD]; rfl
      · rw [box_cell hD]; rfl
      · rw [box_cell hD]; rfl
      · have hlc := (Array.getElem?_eq_some_iff.1 hC).1
        match i, hi with
        | 0, _ =>
          refine ⟨C, 0, rfl, hlc, ?_, ?_, ?_, ?_, ?_, ?_⟩ <;> (rw [box_cell hC]; rfl)⟩
  sc := Nat.le_refl _
  pc := Nat.le_refl _
  bc := Nat.le_refl _
end Go.Proofs.YtggjcjdjhgfbmaaGreat
