/- The numbers that are met: sorted, taken over, thinned out: contracts of the library's, in the words of rows that a call owns; and the plain law: as many are left just if none was met twice. Conditions: none. -/
import Derived.Test.YtggjcjdjhgfbmaaGreatApp
import Derived.Test.YtggjcjdjhgfbmaaGreatShelf
import Derived.Lib.OwnBridge
namespace Go.Proofs.YtggjcjdjhgfbmaaGreat
open Go.RowKit Go.Sort

theorem below_growO {B : Nat} {w0 w : World} {os : Array Obj} (h : Below B w0 w) (hB : B ≤ w.heap.size) : Below B w0 (grow w os) :=
  ⟨h.os, h.tape, h.output, Nat.le_trans h.size (by simp), fun k hk => by rw [← h.block k hk]; exact heap_grow_old w os (Nat.lt_of_lt_of_le hk hB)⟩
theorem own_grow {w : World} {base : Nat} {e : TypeId} {size n : Nat} {v : Value} {xs : List Value} (os : Array Obj) (h : w.ownsRow base e size v n xs) (_hb : base ≤ w.heap.size): (grow w os).ownsRow base e size v n xs :=
  h.kept (row := none) ⟨rfl, rfl, rfl, by simp, fun k hk _ => heap_grow_old w os hk⟩ (by cases v.ownBlock <;> simp)

def sorted (zs : List Int) : List Int := zs.mergeSort fun x y => decide (x ≤ y)
theorem sorted_len (zs : List Int) : (sorted zs).length = zs.length := by simp [sorted]

theorem sort_own (base : Nat) (v : Value) (zs : List Int) (w : World) (h : w.ownsRow base 3 1 v zs.length (zs.map (.int .i64))) (hb : base ≤ w.heap.size) (hl : zs.length < 4611686018427387904) :
    Calls Tryz.prog 45 #[v] w fun e w' => e = .returned (.tuple #[]) ∧ w'.ownsRow base 3 1 v zs.length ((sorted zs).map (.int .i64)) ∧ Below base w w' := by
  rcases Nat.eq_zero_or_pos zs.length with h0 | h0
  · obtain rfl : zs = [] := List.length_eq_zero_iff.1 h0
    have hs : sorted [] = [] := by simp [sorted]
    rw [hs]
    have : ∃ p cap, v = .slice p 0 cap := by
      rcases h.2 with ⟨e, _⟩ | ⟨g, cap, cur, e, _⟩
      · exact ⟨_, _, e⟩
      · exact ⟨_, _, e⟩
    obtain ⟨p, cap, rfl⟩ := this
    refine (Tryz.slices_Sort_int_none p cap w).mono ?_
    rintro e w' ⟨rfl, rfl⟩
    exact ⟨rfl, h, Below.refl _ _⟩
  · have hv : v ≠ .slice none 0 0 := by
      intro e
      rcases h.2 with ⟨_, e0⟩ | ⟨g, cap, cur, e1, _⟩
      · omega
      · rw [e] at e1; cases e1
    obtain ⟨g, cap, rfl, hbg, hlt, _, _, _, hH⟩ := Lib.holds_of_ownsRow h hv
    refine (Tryz.slices_Sort_int g 0 cap zs w hH hlt hl).mono ?_
    rintro e w' ⟨rfl, n, os, rfl⟩
    have hsz : base ≤ (putRow (Value.int .i64) (Sort.ahead w n) g 0 (sorted zs).toArray).heap.size := by simpa using hb
    refine ⟨rfl, own_grow os ?_ hsz, below_growO ?_ hsz⟩
    · have := Lib.ownsRow_putRow (q := n) (k := zs.length) (ys := sorted zs) h (sorted_len zs) (Nat.le_refl _)
      rwa [← sorted_len zs, List.take_length, sorted_len zs] at this
    · exact Lib.below_putRow (Below.refl _ _) hbg

theorem clone_own (base : Nat) (v : Value) (zs : List Int) (w : World) (h : w.ownsRow base 3 1 v zs.length (zs.map (.int .i64))) (hl : zs.length * 8 ≤ 140737488355328) :
    Calls Tryz.prog 47 #[v] w fun e w' => ∃ v', e = .returned v' ∧ w'.ownsRow w.heap.size 3 1 v' zs.length (zs.map (.int .i64)) ∧ Below w.heap.size w w' := by
  by_cases hv : v = .slice none 0 0
  · subst hv
    refine (Tryz.slices_Clone_int_nil 0 0 w).mono ?_
    rintro e w' ⟨rfl, rfl⟩
    rcases h.2 with ⟨_, e0⟩ | ⟨g, cap, cur, e1, _⟩
    · obtain rfl : zs = [] := List.length_eq_zero_iff.1 e0
      exact ⟨_, rfl, World.ownsRow_nil _ _ _ _, Below.refl _ _⟩
    · cases e1
  · obtain ⟨g, cap, rfl, hbg, hlt, _, _, _, hH⟩ := Lib.holds_of_ownsRow h hv
    refine (Tryz.slices_Clone_int g 0 zs.length cap zs w (Nat.le_refl _) hl ?_).mono ?_
    · intro j hj
      rw [(hH j (by simpa using hj)).1]
      simp [getElem!_pos, hj, List.getD]
    · rintro e w' ⟨v', rfl, h1, _, h3⟩
      rw [List.take_length] at h1
      exact ⟨v', rfl, h1, h3⟩

theorem compact_own (base : Nat) (v : Value) (zs : List Int) (w : World) (h : w.ownsRow base 3 1 v zs.length (zs.map (.int .i64))) (hl : zs.length ≤ 9223372036854775807) :
    Calls Tryz.prog 46 #[v] w fun e w' => (∃ p cap, e = .returned (.slice p (Lib.compact zs).length cap)) ∧ Below base w w' := by
  rcases Nat.eq_zero_or_pos zs.length with h0 | h0
  · obtain rfl : zs = [] := List.length_eq_zero_iff.1 h0
    have : ∃ p cap, v = .slice p 0 cap := by
      rcases h.2 with ⟨e, _⟩ | ⟨g, cap, cur, e, _⟩
      · exact ⟨_, _, e⟩
      · exact ⟨_, _, e⟩
    obtain ⟨p, cap, rfl⟩ := this
    refine (Tryz.slices_Compact_int_empty p cap w).mono ?_
    rintro e w' ⟨rfl, rfl⟩
    exact ⟨⟨p, cap, rfl⟩, Below.refl _ _⟩
  · have hv : v ≠ .slice none 0 0 := by
      intro e
      rcases h.2 with ⟨_, e0⟩ | ⟨g, cap, cur, e1, _⟩
      · omega
      · rw [e] at e1; cases e1
    obtain ⟨g, cap, rfl, hbg, hlt, hcap, _, _, hH⟩ := Lib.holds_of_ownsRow h hv
    refine (Tryz.slices_Compact_int g 0 cap zs w hH hl hcap).mono ?_
    rintro e w' ⟨rfl, q, rfl⟩
    exact ⟨⟨_, _, rfl⟩, Lib.below_putRow (Below.refl _ _) hbg⟩

/-- As many are left as there were just if no neighbours are alike. -/
theorem compact_len_iff (zs : List Int) : (Lib.compact zs).length = zs.length ↔ ∀ j, j < zs.length → Lib.keeps zs.toArray j = true := by
  constructor
  · intro h j hj
    have h1 : ((List.range zs.length).filter (Lib.keeps zs.toArray)).length = (List.range zs.length).length := by simpa [Lib.compact, Lib.compactUpTo] using h
    exact List.length_filter_eq_length_iff.1 h1 j (List.mem_range.2 hj)
  · intro h; rw [Lib.compact_all zs h]

theorem sorted_pairwise (zs : List Int) : (sorted zs).Pairwise (· ≤ ·) := by
  have := List.pairwise_mergeSort (le := fun x y : Int => decide (x ≤ y)) (fun a b c h1 h2 => by simp at h1 h2 ⊢; omega) (fun a b => by simp; omega) zs
  simpa [sorted] using this

theorem nodup_iff_compact (zs : List Int) : (Lib.compact (sorted zs)).length = zs.length ↔ zs.Nodup := by
  rw [← sorted_len zs, compact_len_iff, ← (List.mergeSort_perm zs fun x y => decide (x ≤ y)).nodup_iff]
  change _ ↔ (sorted zs).Nodup
  have hp := sorted_pairwise zs
  generalize sorted zs = l at *
  constructor
  · intro h
    refine List.pairwise_iff_getElem.2 ?_
    have step : ∀ j (hj : j + 1 < l.length), l[j]'(Nat.lt_of_succ_lt hj) < l[j + 1] := by
      intro j hj
      have h1 := h (j + 1) hj
      simp only [Lib.keeps, decide_eq_true_eq] at h1
      rcases h1 with h1 | h1
      · omega
      · have h2 := List.pairwise_iff_getElem.1 hp j (j + 1) (by omega) hj (by omega)
        have h3 : l[j + 1] ≠ l[j] := by
          intro e
          apply h1
          rw [Nat.add_sub_cancel, getElem!_pos _ _ (by simpa using hj), getElem!_pos _ _ (by simp; omega)]
          simpa using e
        omega
    intro i j hi hj hij
    have : ∀ d, ∀ i (hi : i < l.length) (h : i + d + 1 < l.length), l[i] < l[i + d + 1] := by
      intro d
      induction d with
      | zero => intro i _ h; exact step i h
      | succ d ih =>
        intro i hi h
        exact Int.lt_trans (ih i hi (by omega)) (step (i + d + 1) (by omega))
    have h1 := this (j - i - 1) i hi (by omega)
    simp only [show i + (j - i - 1) + 1 = j by omega] at h1
    omega
  · intro h j hj
    simp only [Lib.keeps, decide_eq_true_eq]
    by_cases h0 : j = 0
    · exact Or.inl h0
    · right
      rw [getElem!_pos _ _ (by simpa using hj), getElem!_pos _ _ (by simp; omega)]
      have := List.pairwise_iff_getElem.1 h (j - 1) j (by omega) hj (by omega)
      simpa using fun e : l[j] = l[j - 1] => this e.symm
end Go.Proofs.YtggjcjdjhgfbmaaGreat
