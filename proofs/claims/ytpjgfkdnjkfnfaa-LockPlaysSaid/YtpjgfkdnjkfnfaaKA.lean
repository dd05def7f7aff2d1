/- Plain values for the statement LockKnown. -/
import Derived.Test.YtpjgfkdnjkfnfaaO
namespace Go.Proofs.Ytpjgfkdnjkfnfaa
open Go.RowKit Go.Maps

/-- Ways, by what may follow whom: where who is no end of an edge out of a set that is closed, there is no way to it. -/
theorem no_way_of {H W : List Lk} (S : Int → Prop) (a b : Int) (hc : ∀ x y, S x → Edge H W x y → S y ∧ y ≠ b) (ha : S a) : ¬ Way H W a b := by
  intro h
  have key : ∀ x y, Way H W x y → S x → y ≠ b := by
    intro x y h
    induction h with
    | one e => exact fun hs => (hc _ _ hs e).2
    | cons e _ ih => exact fun hs => ih (hc _ _ hs e).1
  exact key _ _ h ha rfl
/-- All edges, listed. -/
def edges (H W : List Lk) : List (Int × Int) := (List.range W.length).flatMap fun i => match W[i]? with
  | some x => ((H ++ W.take i).filter (meetB x)).map fun y => (x.who, y.who)
  | none => []
theorem edge_mem {H W : List Lk} {a b : Int} (h : Edge H W a b) : (a, b) ∈ edges H W := by
  obtain ⟨i, x, y, hx, rfl, hy, hm, rfl⟩ := h
  refine List.mem_flatMap.2 ⟨i, List.mem_range.2 (List.getElem?_eq_some_iff.1 hx).1, ?_⟩
  rw [hx]
  refine List.mem_map.2 ⟨y, List.mem_filter.2 ⟨?_, hm⟩, rfl⟩
  exact List.mem_append.2 hy
theorem mem_edge {H W : List Lk} {a b : Int} (h : (a, b) ∈ edges H W) : Edge H W a b := by
  obtain ⟨i, -, h⟩ := List.mem_flatMap.1 h
  split at h
  · rename_i x hx
    obtain ⟨y, hy, he⟩ := List.mem_map.1 h
    obtain ⟨hy, hm⟩ := List.mem_filter.1 hy
    injection he with h1 h2
    exact ⟨i, x, y, hx, h1, List.mem_append.1 hy, hm, h2⟩
  · cases h
/-- A closed list of whos that does not come back to b. -/
theorem no_way_list {H W : List Lk} (l : List Int) (a b : Int) (hc : ((edges H W).all fun e => !l.contains e.1 || (l.contains e.2 && !(e.2 == b))) = true) (ha : l.contains a = true) : ¬ Way H W a b := by
  refine no_way_of (fun x => l.contains x = true) a b (fun x y hx he => ?_) ha
  have := List.all_eq_true.1 hc _ (edge_mem he)
  simp only [Bool.or_eq_true, Bool.not_eq_true', Bool.and_eq_true, beq_eq_false_iff_ne] at this
  rcases this with h | h
  · rw [hx] at h; cases h
  · exact h
theorem wait_values {l : Lk} {H W : List Lk} (h1 : checkF l H W = 0) (h2 : freeB l H W = false) (hw : ¬ Way H (W ++ [l]) l.who l.who) : waitF l H W = (false, 0) ∧ waitH l H W = (H, W ++ [l]) := by
  constructor
  · unfold waitF
    rw [if_neg (by simp [h1]), h2, if_neg (by simp)]
    exact if_neg hw
  · unfold waitH
    rw [if_neg (by simp [h1]), h2, if_neg (by simp)]
    exact if_neg hw
theorem wait_circle {l : Lk} {H W : List Lk} (h1 : checkF l H W = 0) (h2 : freeB l H W = false) (hw : Way H (W ++ [l]) l.who l.who) : waitF l H W = (false, 151) ∧ waitH l H W = (H, W) := by
  constructor
  · unfold waitF
    rw [if_neg (by simp [h1]), h2, if_neg (by simp)]
    exact if_pos hw
  · unfold waitH
    rw [if_neg (by simp [h1]), h2, if_neg (by simp)]
    exact if_pos hw
theorem wait_full {l : Lk} {H W : List Lk} (h1 : checkF l H W ≠ 0) : waitF l H W = (false, checkF l H W) ∧ waitH l H W = (H, W) := by
  constructor
  · unfold waitF; rw [if_pos h1]
  · unfold waitH; rw [if_pos h1]
end Go.Proofs.Ytpjgfkdnjkfnfaa
