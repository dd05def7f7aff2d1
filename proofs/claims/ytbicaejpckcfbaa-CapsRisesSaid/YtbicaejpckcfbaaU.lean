/- Plain laws of stacks: one over another; the same twice. -/
import Derived.Test.YtbicaejpckcfbaaR
import Derived.Test.YtbicaejpckcfbaaE
namespace Go.Proofs.Ytbicaejpckcfbaa
open Go.RowKit

theorem keep_lt {k : Nat} {ls : List Nat} (h : ∀ x ∈ ls, x < 16) : keepN k ls < 16 := by
  have hE := everyN_small h
  have h0 : A0 ls < 16 := by
    cases ls with
    | nil => decide
    | cons x l => exact h x (List.mem_cons_self ..)
  have hb : ∀ a : Fin 16, bufN a.val < 16 ∧ cipN a.val < 16 := by decide
  match k with
  | 0 => exact and_le _ _ h0
  | 1 => exact and_le _ _ hE
  | 2 => exact or_small (and_le _ _ hE) (and_le _ _ h0)
  | 3 => exact and_le _ _ h0
  | 4 => exact (hb ⟨_, h0⟩).1
  | 5 => exact and_le _ _ hE
  | 6 => exact and_le _ _ h0
  | 7 => exact (hb ⟨_, h0⟩).2
  | 8 =>
    show jourN ls < 16
    unfold jourN
    split
    · decide
    · split
      · decide
      · exact or_small (by decide) (and_le _ _ h0)
  | 9 => exact and_le _ _ h0
  | (_ + 10) => exact and_le _ _ h0
theorem over_lt (k : Int) (ls : List Nat) : (overN k ls).1 < 16 := by
  unfold overN
  split
  · show 0 < 16; decide
  · split
    · show 0 < 16; decide
    · split
      · show 0 < 16; decide
      · rename_i h
        refine keep_lt (fun x hx => ?_)
        apply Nat.lt_of_not_le
        intro hge
        exact h (List.any_eq_true.2 ⟨x, hx, decide_eq_true (by omega)⟩)
theorem foldS_lt (ls : List Wr) : ∀ can, can < 16 → (foldS ls can).1 < 16 := by
  induction ls with
  | nil => intro can h; exact h
  | cons x ls ih =>
    intro can h
    simp only [foldS]
    split
    · show 0 < 16; decide
    · exact ih _ (over_lt _ _)
theorem foldS_append (l m : List Wr) : ∀ can, foldS (l ++ m) can = if (foldS l can).2 ≠ 0 then (0, 2) else foldS m (foldS l can).1 := by
  induction l with
  | nil => intro can; rfl
  | cons x l ih =>
    intro can
    by_cases h : (overN x.kd (belowN x.kd can)).2 = 0
    · have e1 : foldS (x :: (l ++ m)) can = foldS (l ++ m) (overN x.kd (belowN x.kd can)).1 := if_neg (fun h' => h' h)
      have e2 : foldS (x :: l) can = foldS l (overN x.kd (belowN x.kd can)).1 := if_neg (fun h' => h' h)
      rw [List.cons_append, e1, e2]
      exact ih _
    · have e1 : foldS (x :: (l ++ m)) can = (0, 2) := if_pos h
      have e2 : foldS (x :: l) can = (0, 2) := if_pos h
      rw [List.cons_append, e1, e2]
      rfl
theorem stack_folds {l m : List Wr} {leaf : Nat} (h : (stackN (l ++ m) leaf).2 = 0) : (stackN l leaf).2 = 0 ∧ (stackN m (stackN l leaf).1).2 = 0 ∧ (stackN (l ++ m) leaf).1 = (stackN m (stackN l leaf).1).1 := by
  unfold stackN at h ⊢
  by_cases h1 : 32 < (l ++ m).length
  · rw [if_pos h1] at h; cases h
  · rw [if_neg h1] at h ⊢
    rw [List.length_append] at h1
    by_cases h2 : 15 < leaf
    · rw [if_pos h2] at h; cases h
    · rw [if_neg h2] at h ⊢
      rw [if_neg (show ¬ 32 < l.length by omega), if_neg h2, if_neg (show ¬ 32 < m.length by omega)]
      have hlt := foldS_lt l leaf (by omega)
      rw [foldS_append] at h ⊢
      by_cases h3 : (foldS l leaf).2 ≠ 0
      · rw [if_pos h3] at h; cases h
      · rw [if_neg h3] at h ⊢
        rw [if_neg (show ¬ 15 < (foldS l leaf).1 by omega)]
        exact ⟨by simpa using h3, h, rfl⟩
def wk (k : Int) : Wr := ⟨k, 0, 0, 0⟩
/-- Once and twice. -/
def twiceB (k : Int) (leaf : Nat) : Bool := decide (stackN [wk k, wk k] leaf = stackN [wk k] leaf) && (!decide ((stackN [wk k] leaf).2 = 0) || decide (k = 4) || lessB (stackN [wk k] leaf).1 leaf)
theorem twice_ok {k : Int} (hk : k = 0 ∨ k = 3 ∨ k = 9 ∨ k = 10 ∨ k = 7 ∨ k = 4) (leaf : Nat) : twiceB k leaf = true := by
  by_cases h : leaf < 16
  · have key : ∀ leaf : Fin 16, twiceB 0 leaf.val = true ∧ twiceB 3 leaf.val = true ∧ twiceB 9 leaf.val = true ∧ twiceB 10 leaf.val = true ∧ twiceB 7 leaf.val = true ∧ twiceB 4 leaf.val = true := by decide
    obtain ⟨a, b, c, d, e, f⟩ := key ⟨leaf, h⟩
    rcases hk with rfl | rfl | rfl | rfl | rfl | rfl <;> assumption
  · have h1 : ∀ ls : List Wr, ls.length ≤ 32 → stackN ls leaf = (0, 2) := fun ls hl => by
      unfold stackN
      rw [if_neg (by omega), if_pos (by omega)]
    unfold twiceB
    rw [h1 _ (by simp), h1 _ (by simp)]
    simp
end Go.Proofs.Ytbicaejpckcfbaa
