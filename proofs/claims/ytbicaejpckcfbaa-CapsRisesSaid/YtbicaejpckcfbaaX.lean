/- Plain law: who can more below never can less above. -/
import Derived.Test.YtbicaejpckcfbaaU
namespace Go.Proofs.Ytbicaejpckcfbaa
open Go.RowKit

/-- One list of sets can less than another, place by place. -/
inductive LessL : List Nat → List Nat → Prop
  | nil : LessL [] []
  | cons {x y : Nat} {xs ys : List Nat} : x &&& y = x → LessL xs ys → LessL (x :: xs) (y :: ys)
theorem LessL.length {xs ys : List Nat} (h : LessL xs ys) : xs.length = ys.length := by
  induction h with
  | nil => rfl
  | cons _ _ ih => simp [ih]
theorem LessL.A0 {xs ys : List Nat} (h : LessL xs ys) : A0 xs &&& A0 ys = A0 xs := by
  cases h with
  | nil => rfl
  | cons h _ => exact h
theorem LessL.A1 {xs ys : List Nat} (h : LessL xs ys) : A1 xs &&& A1 ys = A1 xs := by
  cases h with
  | nil => rfl
  | cons _ h =>
    cases h with
    | nil => show (0 : Nat) &&& 0 = 0; decide
    | cons h _ => exact h
theorem LessL.eand {xs ys : List Nat} (h : LessL xs ys) : ∀ a b : Nat, a &&& b = a → eand a xs &&& eand b ys = eand a xs := by
  induction h with
  | nil => intro a b h; exact h
  | @cons x y xs ys hx _ ih =>
    intro a b hab
    refine ih _ _ ?_
    have : (a &&& x) &&& (b &&& y) = (a &&& b) &&& (x &&& y) := by ac_rfl
    rw [this, hab, hx]
theorem LessL.every {xs ys : List Nat} (h : LessL xs ys) : everyN xs &&& everyN ys = everyN xs := h.eand 15 15 rfl
theorem and_const {a b m : Nat} (h : a &&& b = a) : (a &&& m) &&& (b &&& m) = a &&& m := by
  have : (a &&& m) &&& (b &&& m) = (a &&& b) &&& (m &&& m) := by ac_rfl
  rw [this, h, Nat.and_self]
theorem buf_mono {a b : Nat} (ha : a < 16) (hb : b < 16) (h : a &&& b = a) : bufN a &&& bufN b = bufN a := by
  have key : ∀ a b : Fin 16, a.val &&& b.val = a.val → bufN a.val &&& bufN b.val = bufN a.val := by decide
  exact key ⟨a, ha⟩ ⟨b, hb⟩ h
theorem cip_mono {a b : Nat} (ha : a < 16) (hb : b < 16) (h : a &&& b = a) : cipN a &&& cipN b = cipN a := by
  have key : ∀ a b : Fin 16, a.val &&& b.val = a.val → cipN a.val &&& cipN b.val = cipN a.val := by decide
  exact key ⟨a, ha⟩ ⟨b, hb⟩ h
theorem or_mono {a b c d : Nat} (h1 : a &&& b = a) (h2 : c &&& d = c) : (a ||| c) &&& (b ||| d) = a ||| c := by
  apply Nat.eq_of_testBit_eq
  intro i
  have e1 := congrArg (fun n => n.testBit i) h1
  have e2 := congrArg (fun n => n.testBit i) h2
  simp only [Nat.testBit_and, Nat.testBit_or] at e1 e2 ⊢
  revert e1 e2
  cases a.testBit i <;> cases b.testBit i <;> cases c.testBit i <;> cases d.testBit i <;> simp
theorem zero_mono {a b m : Nat} (h : a &&& b = a) (hz : b &&& m = 0) : a &&& m = 0 := by
  rw [← h, Nat.and_assoc, hz, Nat.and_zero]
theorem jour_mono {xs ys : List Nat} (h : LessL xs ys) : jourN xs &&& jourN ys = jourN xs := by
  unfold jourN
  by_cases h1 : everyN xs &&& 1 = 0
  · rw [if_pos h1, Nat.zero_and]
  · by_cases h2 : A1 xs &&& 2 = 0
    · rw [if_neg h1, if_pos h2, Nat.zero_and]
    · rw [if_neg h1, if_neg h2, if_neg (fun e => h1 (zero_mono h.every e)), if_neg (fun e => h2 (zero_mono h.A1 e))]
      exact or_mono (by decide) (and_const h.A0)
theorem keep_mono {k : Nat} {xs ys : List Nat} (h : LessL xs ys) (hx : ∀ x ∈ xs, x < 16) (hy : ∀ y ∈ ys, y < 16) : keepN k xs &&& keepN k ys = keepN k xs := by
  have hz : ∀ ls : List Nat, (∀ x ∈ ls, x < 16) → A0 ls < 16 := fun ls h => by
    cases ls with
    | nil => decide
    | cons x l => exact h x (List.mem_cons_self ..)
  have a0 := hz xs hx
  have b0 := hz ys hy
  match k with
  | 0 => exact and_const h.A0
  | 1 => exact and_const h.every
  | 2 => exact or_mono (and_const h.every) (and_const h.A0)
  | 3 => exact and_const h.A0
  | 4 => exact buf_mono a0 b0 h.A0
  | 5 => exact and_const h.every
  | 6 => exact and_const h.A0
  | 7 => exact cip_mono a0 b0 h.A0
  | 8 => exact jour_mono h
  | 9 => exact and_const h.A0
  | (_ + 10) => exact and_const h.A0
theorem over_parts {k : Int} {ls : List Nat} (h : (overN k ls).2 = 0) : ¬ (k < 0 ∨ 11 ≤ k) ∧ ¬ (ls.length < leastN k.toNat ∨ mostN k.toNat < ls.length) ∧ (∀ x ∈ ls, x < 16) ∧ overN k ls = (keepN k.toNat ls, 0) := by
  unfold overN at h ⊢
  by_cases h1 : k < 0 ∨ 11 ≤ k
  · rw [if_pos h1] at h; cases h
  · rw [if_neg h1] at h ⊢
    by_cases h2 : ls.length < leastN k.toNat ∨ mostN k.toNat < ls.length
    · rw [if_pos h2] at h; cases h
    · rw [if_neg h2] at h ⊢
      by_cases h3 : ls.any (fun x => decide (15 < x)) = true
      · rw [if_pos h3] at h; cases h
      · rw [if_neg h3]
        refine ⟨h1, h2, fun x hx => ?_, rfl⟩
        apply Nat.lt_of_not_le
        intro hge
        exact h3 (List.any_eq_true.2 ⟨x, hx, decide_eq_true (by omega)⟩)
/-- Over rises. -/
theorem over_rises {k : Int} {xs ys : List Nat} (h : LessL xs ys) (h1 : (overN k xs).2 = 0) (h2 : (overN k ys).2 = 0) : (overN k xs).1 &&& (overN k ys).1 = (overN k xs).1 := by
  obtain ⟨-, -, hx, e1⟩ := over_parts h1
  obtain ⟨-, -, hy, e2⟩ := over_parts h2
  rw [e1, e2]
  exact keep_mono h hx hy
theorem belowL {k : Int} {a b : Nat} (h : a &&& b = a) : LessL (belowN k a) (belowN k b) := by
  unfold belowN
  split
  · exact .cons h (.cons rfl .nil)
  · exact .cons h .nil
theorem over_down {k : Int} {a b : Nat} (ha : a < 16) (h : (overN k (belowN k b)).2 = 0) : (overN k (belowN k a)).2 = 0 := by
  obtain ⟨h1, h2, -, -⟩ := over_parts h
  have hl : (belowN k a).length = (belowN k b).length := by unfold belowN; split <;> rfl
  have h3 : ¬ ((belowN k a).any (fun x => decide (15 < x)) = true) := by
    intro he
    obtain ⟨x, hx, hb⟩ := List.any_eq_true.1 he
    have hb := of_decide_eq_true hb
    unfold belowN at hx
    split at hx
    · simp at hx; omega
    · simp at hx; omega
  unfold overN
  rw [if_neg h1, hl, if_neg h2, if_neg h3]
theorem foldS_rises (ls : List Wr) : ∀ a b : Nat, a < 16 → b < 16 → a &&& b = a → (foldS ls b).2 = 0 → (foldS ls a).2 = 0 ∧ (foldS ls a).1 &&& (foldS ls b).1 = (foldS ls a).1 := by
  induction ls with
  | nil => intro a b _ _ h _; exact ⟨rfl, h⟩
  | cons x ls ih =>
    intro a b ha hb hab h
    by_cases hz : (overN x.kd (belowN x.kd b)).2 = 0
    · have hz2 := over_down (a := a) ha hz
      have e1 : foldS (x :: ls) b = foldS ls (overN x.kd (belowN x.kd b)).1 := if_neg (fun h' => h' hz)
      have e2 : foldS (x :: ls) a = foldS ls (overN x.kd (belowN x.kd a)).1 := if_neg (fun h' => h' hz2)
      rw [e1] at h
      rw [e1, e2]
      exact ih _ _ (over_lt _ _) (over_lt _ _) (over_rises (belowL hab) hz2 hz) h
    · have e1 : foldS (x :: ls) b = (0, 2) := if_pos hz
      rw [e1] at h
      cases h
/-- Stack rises. -/
theorem stack_rises {ls : List Wr} {a b : Nat} (hab : a &&& b = a) (h : (stackN ls b).2 = 0) : (stackN ls a).2 = 0 ∧ (stackN ls a).1 &&& (stackN ls b).1 = (stackN ls a).1 := by
  unfold stackN at h ⊢
  by_cases h1 : 32 < ls.length
  · rw [if_pos h1] at h; cases h
  · rw [if_neg h1] at h ⊢
    by_cases h2 : 15 < b
    · rw [if_pos h2] at h; cases h
    · have ha : a ≤ b := by rw [← hab]; exact Nat.and_le_right
      rw [if_neg h2] at h ⊢
      rw [if_neg h1, if_neg (show ¬ 15 < a by omega)]
      exact foldS_rises ls a b (by omega) (by omega) hab h
end Go.Proofs.Ytbicaejpckcfbaa
