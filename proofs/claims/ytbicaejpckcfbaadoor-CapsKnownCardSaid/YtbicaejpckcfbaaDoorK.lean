/- Plain laws of texts and words: a text cut at its blanks; Parse, as a function; there and back. -/
import Derived.Test.YtbicaejpckcfbaaDoorG
namespace Go.Proofs.YtbicaejpckcfbaaDoor
open Go.RowKit

/-- A text cut at its blanks. -/
def cutS : List UInt8 → List (List UInt8)
  | [] => [[]]
  | b :: l => if b = 32 then [] :: cutS l else match cutS l with
    | [] => [[b]]
    | p :: r => (b :: p) :: r
theorem cutS_ne : ∀ l, cutS l ≠ []
  | [] => by simp [cutS]
  | b :: l => by
    unfold cutS
    split
    · simp
    · split <;> simp
theorem splitK_cut : ∀ s : List UInt8, Lib.splitK [32] 0 (Lib.count s [32]) s = cutS s
  | [] => rfl
  | b :: l => by
    have ih := splitK_cut l
    by_cases h : b = 32
    · subst h
      have hix : Lib.index (32 :: l) [32] = 0 := by rw [Lib.index]; simp [List.isPrefixOf]
      rw [Lib.count_cons_eq, Nat.add_comm]
      unfold Lib.splitK
      rw [hix]
      simp only [cutS]
      rw [if_neg (by decide), if_pos trivial]
      simp
      exact ih
    · rw [Lib.count_cons_ne b 32 l h]
      simp only [cutS]
      rw [if_neg h, ← ih]
      cases hc : Lib.count l [32] with
      | zero => rfl
      | succ k =>
        obtain ⟨j, hj⟩ : ∃ j : Nat, Lib.index l [32] = j := by
          have hge := Lib.index_ge l [32]
          by_cases hm : Lib.index l [32] = -1
          · rw [Lib.count_miss hm] at hc; omega
          · exact ⟨(Lib.index l [32]).toNat, by omega⟩
        have hp : ([32] : List UInt8).isPrefixOf (b :: l) = false := by simp [List.isPrefixOf, Ne.symm h]
        have hix : Lib.index (b :: l) [32] = ((j + 1 : Nat) : Int) := by
          rw [Lib.index, hp, hj]
          simp
        unfold Lib.splitK
        rw [hix, hj]
        rw [if_neg (by simp; omega), if_neg (by simp)]
        simp
def mkB (l : List UInt8) : ByteArray := ⟨l.toArray⟩
theorem mkB_data (b : ByteArray) : mkB b.data.toList = b := rfl
def pieces (s : ByteArray) : List ByteArray := (cutS s.data.toList).map mkB
theorem split_pieces (s : ByteArray) : Lib.splitB ⟨#[32]⟩ 0 (Lib.countB s ⟨#[32]⟩) s = pieces s := by
  have h := Lib.splitB_data ⟨#[32]⟩ 0 (Lib.countB s ⟨#[32]⟩) s
  have e : Lib.splitK [32] 0 (Lib.countB s ⟨#[32]⟩) s.data.toList = cutS s.data.toList := splitK_cut s.data.toList
  have e2 : (Lib.splitB ⟨#[32]⟩ 0 (Lib.countB s ⟨#[32]⟩) s).map (·.data.toList) = cutS s.data.toList := h.trans e
  unfold pieces
  rw [← e2, List.map_map]
  conv => lhs; rw [← List.map_id (Lib.splitB ⟨#[32]⟩ 0 (Lib.countB s ⟨#[32]⟩) s)]
  rfl
theorem join_cons (a : List UInt8) (b : List UInt8) (l : List (List UInt8)) : Lib.join (a :: b :: l) [32] = a ++ 32 :: Lib.join (b :: l) [32] := by
  simp [Lib.join, List.intercalate]
theorem join_cut : ∀ s : List UInt8, Lib.join (cutS s) [32] = s
  | [] => rfl
  | b :: l => by
    have ih := join_cut l
    simp only [cutS]
    by_cases h : b = 32
    · rw [if_pos h]
      cases hc : cutS l with
      | nil => exact absurd hc (cutS_ne l)
      | cons p r => rw [join_cons, ← hc, ih, h]; rfl
    · rw [if_neg h]
      cases hc : cutS l with
      | nil => exact absurd hc (cutS_ne l)
      | cons p r =>
        simp only
        rw [hc] at ih
        cases r with
        | nil => simp [Lib.join, List.intercalate] at ih ⊢; exact ih
        | cons q r => rw [join_cons] at ih ⊢; rw [← ih]; rfl
theorem join_pieces (s : ByteArray) : joinB (pieces s) = s := by
  unfold joinB pieces
  rw [List.map_map]
  have : (fun x : ByteArray => x.data.toList) ∘ mkB = id := by funext l; simp [mkB]
  rw [this, List.map_id, join_cut]
def weight (l : List ByteArray) : Nat := (l.map fun b => b.data.size + 1).sum
theorem weight_cut : ∀ s : List UInt8, ((cutS s).map fun l => l.length + 1).sum = s.length + 1
  | [] => rfl
  | b :: l => by
    have ih := weight_cut l
    simp only [cutS]
    by_cases h : b = 32
    · rw [if_pos h]; simp [ih]; omega
    · rw [if_neg h]
      cases hc : cutS l with
      | nil => exact absurd hc (cutS_ne l)
      | cons p r =>
        rw [hc] at ih
        simp at ih ⊢
        omega
theorem weight_pieces (s : ByteArray) : weight (pieces s) = s.data.size + 1 := by
  have h := weight_cut s.data.toList
  unfold weight pieces
  rw [List.map_map]
  have e : (fun b : ByteArray => b.data.size + 1) ∘ mkB = fun l => l.length + 1 := by funext l; show l.toArray.size + 1 = _; simp
  rw [e, h]
  simp
theorem weight_drop {l : List ByteArray} {k : Nat} {x : ByteArray} (h : l[k]? = some x) : weight (l.drop k) = x.data.size + 1 + weight (l.drop (k + 1)) := by
  obtain ⟨h1, h2⟩ := List.getElem?_eq_some_iff.1 h
  rw [List.drop_eq_getElem_cons h1, h2]
  simp [weight]

/-- The word's place, at or behind 'next', below k. -/
def fnd (next : Nat) (w : ByteArray) : Nat → Int
  | 0 => -1
  | k + 1 => if wordB k = w ∧ next ≤ k then (k : Int) else fnd next w k
def readB : ByteArray := ⟨#[114, 101, 97, 100]⟩
/-- Parse over the pieces: the set, and the fault's place and word. -/
def parseL : Nat → List ByteArray → Nat → Nat → Nat → Nat × Option (Nat × ByteArray)
  | _, [], can, _, _ => (can, none)
  | n, w :: r, can, next, pos =>
    if n = 0 ∧ w = readB then parseL (n + 1) r can 4 (pos + (w.data.size + 1))
    else if fnd next w 4 < 0 then (0, some (pos, w))
    else parseL (n + 1) r (can ||| 2 ^ (fnd next w 4).toNat) ((fnd next w 4).toNat + 1) (pos + (w.data.size + 1))
def parseN (s : ByteArray) : Nat × Option (Nat × ByteArray) := if s = readB then (0, none) else parseL 0 (pieces s) 0 0 0

theorem fnd_cases (next : Nat) (w : ByteArray) : ∀ k, fnd next w k = -1 ∨ ∃ f : Nat, fnd next w k = f ∧ f < k ∧ next ≤ f ∧ w = wordB f
  | 0 => .inl rfl
  | k + 1 => by
    unfold fnd
    by_cases h : wordB k = w ∧ next ≤ k
    · rw [if_pos h]; exact .inr ⟨k, rfl, by omega, h.2, h.1.symm⟩
    · rw [if_neg h]
      rcases fnd_cases next w k with h | ⟨f, h1, h2, h3⟩
      · exact .inl h
      · exact .inr ⟨f, h1, by omega, h3⟩

def idxs (x next : Nat) : List Nat := (List.range 4).filter fun i => decide (next ≤ i) && bitB x i
set_option maxRecDepth 100000 in
theorem step_fin : ∀ x : Fin 16, ∀ next : Fin 5, ∀ f : Fin 4, ∀ can : Fin 16, next.val ≤ f.val → can.val < 2 ^ next.val → x.val % 2 ^ (f.val + 1) = (can.val ||| 2 ^ f.val) →
    x.val % 2 ^ next.val = can.val ∧ idxs x.val next.val = f.val :: idxs x.val (f.val + 1) := by decide +kernel
theorem or_fin : ∀ f : Fin 4, ∀ can : Fin 16, can.val < 2 ^ f.val → (can.val ||| 2 ^ f.val) < 2 ^ (f.val + 1) := by decide +kernel
theorem end_fin : ∀ x : Fin 16, ∀ next : Fin 5, x.val < 2 ^ next.val → idxs x.val next.val = [] := by decide +kernel
theorem parse_sel : ∀ (ps : List ByteArray) (n can next pos x : Nat), 0 < n → next ≤ 4 → can < 2 ^ next → parseL n ps can next pos = (x, none) → x < 16 ∧ x % 2 ^ next = can ∧ ps = (idxs x next).map wordB
  | [], n, can, next, pos, x, _, hx, hc, h => by
    simp only [parseL, Prod.mk.injEq] at h
    obtain rfl := h.1
    have h16 : can < 16 := by have : 2 ^ next ≤ 2 ^ 4 := Nat.pow_le_pow_right (by decide) hx; omega
    refine ⟨h16, Nat.mod_eq_of_lt hc, ?_⟩
    rw [end_fin ⟨can, h16⟩ ⟨next, by omega⟩ hc]
    rfl
  | w :: r, n, can, next, pos, x, hn, hx, hc, h => by
    unfold parseL at h
    rw [if_neg (fun e => by omega)] at h
    rcases fnd_cases next w 4 with hf | ⟨f, hf, hf4, hnf, hw⟩
    · rw [if_pos (by omega)] at h
      simp at h
    · rw [if_neg (by omega), hf, Int.toNat_natCast] at h
      have hcf : can < 2 ^ f := by have : 2 ^ next ≤ 2 ^ f := Nat.pow_le_pow_right (by decide) hnf; omega
      have h16 : can < 16 := by have : 2 ^ f ≤ 2 ^ 4 := Nat.pow_le_pow_right (by decide) (by omega); omega
      have hor := or_fin ⟨f, hf4⟩ ⟨can, h16⟩ hcf
      obtain ⟨i1, i2, i3⟩ := parse_sel r (n + 1) (can ||| 2 ^ f) (f + 1) _ x (by omega) (by omega) hor h
      obtain ⟨j1, j2⟩ := step_fin ⟨x, i1⟩ ⟨next, by omega⟩ ⟨f, hf4⟩ ⟨can, h16⟩ hnf hc i2
      refine ⟨i1, j1, ?_⟩
      simp only at j2
      rw [j2, List.map_cons, ← i3, hw]
theorem parse_later : ∀ (r : List ByteArray) (n m can next pos : Nat), 0 < n → 0 < m → parseL n r can next pos = parseL m r can next pos
  | [], _, _, _, _, _, _, _ => rfl
  | v :: r, n, m, can, next, pos, h1, h2 => by
    simp only [parseL]
    rw [if_neg (fun e => by omega : ¬ (n = 0 ∧ v = readB)), if_neg (fun e => by omega : ¬ (m = 0 ∧ v = readB))]
    by_cases hf : fnd next v 4 < 0
    · rw [if_pos hf, if_pos hf]
    · rw [if_neg hf, if_neg hf, parse_later r (n + 1) (m + 1) _ _ _ (by omega) (by omega)]
theorem four_not (w : ByteArray) : fnd 4 w 4 = -1 := by
  rcases fnd_cases 4 w 4 with h | ⟨f, _, h1, h2, _⟩
  · exact h
  · omega
theorem idx_sel : ∀ x : Fin 16, (idxs x.val 0).map wordB = selB x.val 4 := by decide +kernel
theorem sel_zero : selB 0 4 = [] := by decide
/-- What is read back is the text of what was read. -/
theorem parse_text {s : ByteArray} {x : Nat} (h : parseN s = (x, none)) : x < 16 ∧ textN x = s := by
  unfold parseN at h
  by_cases hr : s = readB
  · rw [if_pos hr] at h
    simp only [Prod.mk.injEq] at h
    obtain rfl := h.1
    exact ⟨by decide, hr.symm⟩
  · rw [if_neg hr] at h
    cases hp : pieces s with
    | nil => exact absurd hp (by unfold pieces; simp; exact cutS_ne _)
    | cons w r =>
      have hj := join_pieces s
      have key : (fnd 0 w 4 < 0 ∨ w = readB) ∨ (0 ≤ fnd 0 w 4 ∧ w ≠ readB) := by
        by_cases h1 : w = readB
        · exact .inl (.inr h1)
        · by_cases h2 : fnd 0 w 4 < 0
          · exact .inl (.inl h2)
          · exact .inr ⟨by omega, h1⟩
      rw [hp] at h hj
      by_cases hw : w = readB
      · exfalso
        unfold parseL at h
        rw [if_pos ⟨rfl, hw⟩] at h
        cases r with
        | nil =>
          apply hr
          rw [← hj, hw]
          decide
        | cons v r =>
          unfold parseL at h
          rw [if_neg (fun e => by omega), four_not, if_pos (by decide)] at h
          simp at h
      · have h1 : parseL 1 (w :: r) 0 0 0 = (x, none) := by
          unfold parseL at h ⊢
          rw [if_neg (fun e => hw e.2)] at h
          rw [if_neg (fun e => by omega)]
          rcases fnd_cases 0 w 4 with hf | ⟨f, hf, hf4, hnf, -⟩
          · rw [if_pos (by omega)] at h
            simp at h
          · rw [if_neg (by omega)] at h ⊢
            rw [parse_later r _ 2 _ _ _ (by omega) (by decide)] at h ⊢
            exact h
        obtain ⟨i1, -, i3⟩ := parse_sel (w :: r) 1 0 0 0 x (by decide) (by decide) (by decide) h1
        refine ⟨i1, ?_⟩
        have hs := idx_sel ⟨x, i1⟩
        simp only at hs
        rw [hs] at i3
        have hx0 : x ≠ 0 := by
          rintro rfl
          rw [sel_zero] at i3
          cases i3
        unfold textN
        rw [if_neg (by omega), if_neg hx0, ← i3, hj]
theorem text_parse : ∀ a : Fin 16, parseN (textN a.val) = (a.val, none) := by decide +kernel
theorem parse_small {s : ByteArray} : ∀ x, parseN s = (x, none) → x < 16 := fun _ h => (parse_text h).1
end Go.Proofs.YtbicaejpckcfbaaDoor
