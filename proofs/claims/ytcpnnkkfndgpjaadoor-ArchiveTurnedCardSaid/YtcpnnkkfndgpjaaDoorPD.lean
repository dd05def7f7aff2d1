/- Paths, plainly: their parts, what is left of them; a path that is clean. -/
import Derived.Test.YtcpnnkkfndgpjaaDoorPC
import Derived.Test.YtcpnnkkfndgpjaaDoorJ
namespace Go.Proofs.YtcpnnkkfndgpjaaDoor

/-- A text cut at its strokes. -/
def cutS : List UInt8 → List (List UInt8)
  | [] => [[]]
  | b :: l => if b = 47 then [] :: cutS l else match cutS l with
    | [] => [[b]]
    | p :: r => (b :: p) :: r
theorem cutS_ne : ∀ l, cutS l ≠ []
  | [] => by simp [cutS]
  | b :: l => by
    unfold cutS
    split
    · simp
    · split <;> simp
theorem splitK_cut : ∀ s : List UInt8, Lib.splitK [47] 0 (Lib.count s [47]) s = cutS s
  | [] => rfl
  | b :: l => by
    have ih := splitK_cut l
    by_cases h : b = 47
    · subst h
      have hix : Lib.index (47 :: l) [47] = 0 := by rw [Lib.index]; simp [List.isPrefixOf]
      rw [Lib.count_cons_eq, Nat.add_comm]
      unfold Lib.splitK
      rw [hix]
      simp only [cutS]
      rw [if_neg (by decide), if_pos trivial]
      simp
      exact ih
    · rw [Lib.count_cons_ne b 47 l h]
      simp only [cutS]
      rw [if_neg h, ← ih]
      cases hc : Lib.count l [47] with
      | zero => rfl
      | succ k =>
        obtain ⟨j, hj⟩ : ∃ j : Nat, Lib.index l [47] = j := by
          have hge := Lib.index_ge l [47]
          by_cases hm : Lib.index l [47] = -1
          · rw [Lib.count_miss hm] at hc; omega
          · exact ⟨(Lib.index l [47]).toNat, by omega⟩
        have hp : ([47] : List UInt8).isPrefixOf (b :: l) = false := by simp [List.isPrefixOf, Ne.symm h]
        have hix : Lib.index (b :: l) [47] = ((j + 1 : Nat) : Int) := by
          rw [Lib.index, hp, hj]
          simp
        unfold Lib.splitK
        rw [hix, hj]
        rw [if_neg (by simp; omega), if_neg (by simp)]
        simp
def mkB (l : List UInt8) : ByteArray := ⟨l.toArray⟩
theorem mkB_data (b : ByteArray) : mkB b.data.toList = b := rfl
def pieces (s : ByteArray) : List ByteArray := (cutS s.data.toList).map mkB
theorem split_pieces (s : ByteArray) : Lib.splitB ⟨#[47]⟩ 0 (Lib.countB s ⟨#[47]⟩) s = pieces s := by
  have h := Lib.splitB_data ⟨#[47]⟩ 0 (Lib.countB s ⟨#[47]⟩) s
  have e : Lib.splitK [47] 0 (Lib.countB s ⟨#[47]⟩) s.data.toList = cutS s.data.toList := splitK_cut s.data.toList
  have e2 : (Lib.splitB ⟨#[47]⟩ 0 (Lib.countB s ⟨#[47]⟩) s).map (·.data.toList) = cutS s.data.toList := h.trans e
  unfold pieces
  rw [← e2, List.map_map]
  conv => lhs; rw [← List.map_id (Lib.splitB ⟨#[47]⟩ 0 (Lib.countB s ⟨#[47]⟩) s)]
  rfl
def weight (l : List ByteArray) : Nat := (l.map fun b => b.data.size + 1).sum
theorem weight_cut : ∀ s : List UInt8, ((cutS s).map fun l => l.length + 1).sum = s.length + 1
  | [] => rfl
  | b :: l => by
    have ih := weight_cut l
    simp only [cutS]
    by_cases h : b = 47
    · rw [if_pos h]; simp [ih]; omega
    · rw [if_neg h]
      cases hc : cutS l with
      | nil => exact absurd hc (cutS_ne l)
      | cons p r =>
        rw [hc] at ih
        simp at ih ⊢
        omega
theorem weight_pieces (s : ByteArray) : weight (pieces s) = s.data.size + 1 := by
  have h := weight_cut s.data.toList
  unfold weight pieces
  rw [List.map_map]
  have e : (fun b : ByteArray => b.data.size + 1) ∘ mkB = fun l => l.length + 1 := by funext l; show l.toArray.size + 1 = _; simp
  rw [e, h]
  simp
theorem length_weight (l : List ByteArray) : l.length ≤ weight l := by
  induction l with
  | nil => simp [weight]
  | cons a l ih => simp [weight] at ih ⊢; omega
theorem mem_weight {l : List ByteArray} {b : ByteArray} (h : b ∈ l) : b.data.size + 1 ≤ weight l := by
  induction l with
  | nil => cases h
  | cons a l ih =>
    simp only [weight, List.map_cons, List.sum_cons] at ih ⊢
    rcases List.mem_cons.1 h with rfl | h
    · omega
    · have := ih h; omega

def emptyB : ByteArray := ⟨#[]⟩
def dotB : ByteArray := ⟨#[46]⟩
def dotsB : ByteArray := ⟨#[46, 46]⟩
instance : DecidableEq ByteArray := fun a b => decidable_of_iff (a.data = b.data) ⟨fun h => by cases a; cases b; simpa using h, fun h => by rw [h]⟩
/-- The parts that say something. -/
def saysB (s : ByteArray) : Bool := decide (s ≠ emptyB) && decide (s ≠ dotB)
def partsN (s : ByteArray) : List ByteArray := (pieces s).filter saysB
/-- May a name be so? -/
def nameB (s : ByteArray) : Bool := decide (s ≠ emptyB) && decide (s.size ≤ 64) && decide (s ≠ dotB) && decide (s ≠ dotsB) && !(s.data.toList.any fun c => c == 47 || c == 0)
def leftF : List ByteArray → List ByteArray → Option (List ByteArray)
  | left, [] => some left
  | left, s :: r => if s = dotsB then leftF left.dropLast r else if nameB s = true then leftF (left ++ [s]) r else none
def joinB (l : List ByteArray) : ByteArray := mkB (Lib.join (l.map (·.data.toList)) [47])
def cleanN (s : ByteArray) : ByteArray × Int := if 4096 < s.size then (emptyB, 3) else match leftF [] (partsN s) with
  | none => (emptyB, 190)
  | some l => (joinB l, 0)
theorem cleanN_len {s t : ByteArray} (h : cleanN s = (t, 0)) : s.size ≤ 4096 := by
  unfold cleanN at h
  split at h
  · cases h
  · omega
end Go.Proofs.YtcpnnkkfndgpjaaDoor
