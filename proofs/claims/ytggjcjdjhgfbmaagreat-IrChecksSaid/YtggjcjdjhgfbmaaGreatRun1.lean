/- The table of the steps: which function does each kind. Conditions: none. -/
import Derived.Test.YtggjcjdjhgfbmaaGreatMach2
import Derived.MapKept
namespace Go.Proofs.YtggjcjdjhgfbmaaGreat
open Go.RowKit

def fnOf (k : Nat) : Nat :=
  if k = 1 then 82 else if k = 2 then 83 else if k = 3 then 84 else if k = 4 then 85 else if k = 5 then 86 else if k = 6 then 87
  else if k = 7 then 88 else if k = 8 then 89 else if k = 9 then 90 else if k = 10 then 91 else if k = 11 then 92 else if k = 12 then 93 else 94
def stepE (k : Nat) : MapEntry := { key := .int .u8 k, val := .func (.func (fnOf k)) #[] #[], born := k - 1 }
def stepEs (n : Nat) : Array MapEntry := ((List.range n).map fun k => stepE (k + 1)).toArray
theorem stepEs_succ (n : Nat) : stepEs (n + 1) = (stepEs n).push (stepE (n + 1)) := by simp [stepEs, List.range_succ]
theorem alloc_set (w : World) (o o' : Obj) : ({ w.alloc o with heap := (w.alloc o).heap.setIfInBounds w.heap.size o' } : World) = w.alloc o' := by
  have e : (w.alloc o).heap.setIfInBounds w.heap.size o' = (w.alloc o').heap := by
    show (w.heap.push o).setIfInBounds w.heap.size o' = w.heap.push o'
    apply Array.toList_inj.1
    rw [Array.toList_setIfInBounds, Array.toList_push, Array.toList_push, List.set_append_right _ _ (by simp)]
    simp
  rw [e]; rfl
theorem run_insert {w : World} {n : Nat} (hn : Instr.findNow (.int .u8) (.int .u8 ((n + 1 : Nat) : Int)) (stepEs n).toList 0 = some none) (hkk : ∀ w, (Instr.checkKey false 10000 5 (.int .u8 ((n + 1 : Nat) : Int))).run Tryz.prog w = .ok () w) :
    (Instr.mapUpdate 122 (.map (some w.heap.size)) (.int .u8 ((n + 1 : Nat) : Int)) (.func (.func (fnOf (n + 1))) #[] #[])).run Tryz.prog (w.alloc (.map (stepEs n) n)) = .ok () (w.alloc (.map (stepEs (n + 1)) (n + 1))) := by
  have hg : (w.alloc (.map (stepEs n) n)).heap[w.heap.size]? = some (.map (stepEs n) n) := heap_alloc_self w _
  have hs := MapKept.run_setObj_map (P := Tryz.prog) (w := w.alloc (.map (stepEs n) n)) (.map (stepEs (n + 1)) (n + 1)) hg
  rw [alloc_set] at hs
  rw [stepEs_succ] at hs ⊢
  simp only [Instr.mapUpdate, Sem.run_bind, run_underlying Tryz.underlying122, Result.andThen_ok, MapKept.run_getObj_map hg, hkk, Instr.findKey, run_underlying Tryz.underlying5, hn, Sem.run_pure]
  exact hs
theorem ins1 (w : World) : (Instr.mapUpdate 122 (.map (some w.heap.size)) (.int .u8 1) (.func (.func 82) #[] #[])).run Tryz.prog (w.alloc (.map #[] 0)) = .ok () (w.alloc (.map (stepEs 1) 1)) := run_insert (n := 0) (by rfl) (fun w => by kernel_rfl)
theorem ins2 (w : World) : (Instr.mapUpdate 122 (.map (some w.heap.size)) (.int .u8 2) (.func (.func 83) #[] #[])).run Tryz.prog (w.alloc (.map (stepEs 1) 1)) = .ok () (w.alloc (.map (stepEs 2) 2)) := run_insert (n := 1) (by rfl) (fun w => by kernel_rfl)
theorem ins3 (w : World) : (Instr.mapUpdate 122 (.map (some w.heap.size)) (.int .u8 3) (.func (.func 84) #[] #[])).run Tryz.prog (w.alloc (.map (stepEs 2) 2)) = .ok () (w.alloc (.map (stepEs 3) 3)) := run_insert (n := 2) (by rfl) (fun w => by kernel_rfl)
theorem ins4 (w : World) : (Instr.mapUpdate 122 (.map (some w.heap.size)) (.int .u8 4) (.func (.func 85) #[] #[])).run Tryz.prog (w.alloc (.map (stepEs 3) 3)) = .ok () (w.alloc (.map (stepEs 4) 4)) := run_insert (n := 3) (by rfl) (fun w => by kernel_rfl)
theorem ins5 (w : World) : (Instr.mapUpdate 122 (.map (some w.heap.size)) (.int .u8 5) (.func (.func 86) #[] #[])).run Tryz.prog (w.alloc (.map (stepEs 4) 4)) = .ok () (w.alloc (.map (stepEs 5) 5)) := run_insert (n := 4) (by rfl) (fun w => by kernel_rfl)
theorem ins6 (w : World) : (Instr.mapUpdate 122 (.map (some w.heap.size)) (.int .u8 6) (.func (.func 87) #[] #[])).run Tryz.prog (w.alloc (.map (stepEs 5) 5)) = .ok () (w.alloc (.map (stepEs 6) 6)) := run_insert (n := 5) (by rfl) (fun w => by kernel_rfl)
theorem ins7 (w : World) : (Instr.mapUpdate 122 (.map (some w.heap.size)) (.int .u8 7) (.func (.func 88) #[] #[])).run Tryz.prog (w.alloc (.map (stepEs 6) 6)) = .ok () (w.alloc (.map (stepEs 7) 7)) := run_insert (n := 6) (by rfl) (fun w => by kernel_rfl)
theorem ins8 (w : World) : (Instr.mapUpdate 122 (.map (some w.heap.size)) (.int .u8 8) (.func (.func 89) #[] #[])).run Tryz.prog (w.alloc (.map (stepEs 7) 7)) = .ok () (w.alloc (.map (stepEs 8) 8)) := run_insert (n := 7) (by rfl) (fun w => by kernel_rfl)
theorem ins9 (w : World) : (Instr.mapUpdate 122 (.map (some w.heap.size)) (.int .u8 9) (.func (.func 90) #[] #[])).run Tryz.prog (w.alloc (.map (stepEs 8) 8)) = .ok () (w.alloc (.map (stepEs 9) 9)) := run_insert (n := 8) (by rfl) (fun w => by kernel_rfl)
theorem ins10 (w : World) : (Instr.mapUpdate 122 (.map (some w.heap.size)) (.int .u8 10) (.func (.func 91) #[] #[])).run Tryz.prog (w.alloc (.map (stepEs 9) 9)) = .ok () (w.alloc (.map (stepEs 10) 10)) := run_insert (n := 9) (by rfl) (fun w => by kernel_rfl)
theorem ins11 (w : World) : (Instr.mapUpdate 122 (.map (some w.heap.size)) (.int .u8 11) (.func (.func 92) #[] #[])).run Tryz.prog (w.alloc (.map (stepEs 10) 10)) = .ok () (w.alloc (.map (stepEs 11) 11)) := run_insert (n := 10) (by rfl) (fun w => by kernel_rfl)
theorem ins12 (w : World) : (Instr.mapUpdate 122 (.map (some w.heap.size)) (.int .u8 12) (.func (.func 93) #[] #[])).run Tryz.prog (w.alloc (.map (stepEs 11) 11)) = .ok () (w.alloc (.map (stepEs 12) 12)) := run_insert (n := 11) (by rfl) (fun w => by kernel_rfl)
theorem ins13 (w : World) : (Instr.mapUpdate 122 (.map (some w.heap.size)) (.int .u8 13) (.func (.func 94) #[] #[])).run Tryz.prog (w.alloc (.map (stepEs 12) 12)) = .ok () (w.alloc (.map (stepEs 13) 13)) := run_insert (n := 12) (by rfl) (fun w => by kernel_rfl)

set_option maxRecDepth 100000 in
set_option maxHeartbeats 4000000 in
theorem steps_calls (w : World) : Calls Tryz.prog 68 #[] w fun e w' => e = .returned (.map (some w.heap.size)) ∧ w' = w.alloc (.map (stepEs 13) 13) := by
  have hmm := @run_makeMap Tryz.prog
  have h1 := ins1 w
  have h2 := ins2 w
  have h3 := ins3 w
  have h4 := ins4 w
  have h5 := ins5 w
  have h6 := ins6 w
  have h7 := ins7 w
  have h8 := ins8 w
  have h9 := ins9 w
  have h10 := ins10 w
  have h11 := ins11 w
  have h12 := ins12 w
  have h13 := ins13 w
  go_enter Tryz.func68, Tryz.ntmps68
  go_wp2
  go_ret
  exact ⟨rfl, rfl⟩
end Go.Proofs.YtggjcjdjhgfbmaaGreat
