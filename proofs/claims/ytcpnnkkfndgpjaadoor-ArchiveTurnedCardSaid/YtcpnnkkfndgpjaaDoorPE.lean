/- Trees as bytes, plainly: a whole archive read; what was read whole is what Write writes; one byte turned. -/
import Derived.Test.YtcpnnkkfndgpjaaDoorPC
namespace Go.Proofs.YtcpnnkkfndgpjaaDoor

section
variable (Z : Sp)
theorem writeN_ok {l : List It} {b : Bs} {i : Nat} (h : writeN Z l = (b, 0, i)) : badAt Z [] 0 l = none ∧ l.length ≤ 4096 ∧ b = allB Z l ∧ i = 0 := by
  unfold writeN at h
  split at h
  · cases h
  · split at h
    · rename_i e j hb
      exfalso
      injection h with _ h
      injection h with h _
      subst h
      have key : ∀ (l : List It) (a : Bs) (i : Nat) (e : Int) (j : Nat), badAt Z a i l = some (e, j) → e ≠ 0 := by
        intro l
        induction l with
        | nil => intro a i e j h; cases h
        | cons x l ih =>
          intro a i e j h
          unfold badAt at h
          split at h
          · exact ih _ _ _ _ h
          · rename_i hne
            injection h with h
            injection h with h _
            rw [← h]; exact hne
      exact key l [] 0 0 j hb rfl
    · rename_i hb
      injection h with h1 h2
      injection h2 with h2 h3
      exact ⟨hb, by omega, h1.symm, h3.symm⟩
theorem writeN_of {l : List It} (h : badAt Z [] 0 l = none) (hl : l.length ≤ 4096) : writeN Z l = (allB Z l, 0, 0) := by
  unfold writeN
  rw [if_neg (by omega), h]
theorem badAt_range : ∀ (l : List It) (a : Bs) (i : Nat) (e : Int) (j : Nat), badAt Z a i l = some (e, j) → i ≤ j ∧ j < i + l.length
  | [], _, _, _, _, h => by cases h
  | x :: l, a, i, e, j, h => by
    unfold badAt at h
    split at h
    · have := badAt_range l _ _ _ _ h
      simp; omega
    · injection h with h
      injection h with _ h
      subst h
      simp
/-- Where Write hands back an error: no bytes, a place among the items. -/
theorem writeN_bad {l : List It} {b : Bs} {e : Int} {i : Nat} (h : writeN Z l = (b, e, i)) (he : e ≠ 0) : b = [] ∧ i ≤ l.length := by
  unfold writeN at h
  split at h
  · injection h with h1 h2
    injection h2 with h2 h3
    exact ⟨h1.symm, by omega⟩
  · split at h
    · rename_i hb
      injection h with h1 h2
      injection h2 with h2 h3
      have := badAt_range Z _ _ _ _ _ hb
      exact ⟨h1.symm, by omega⟩
    · injection h with h1 h2
      injection h2 with h2 h3
      exact absurd h2.symm he
theorem head_all (m : Bs) : headOk (headB ++ m) = true := by
  unfold headOk
  rw [beq_iff_eq, show (headB ++ m).take 4 = headB from List.take_left' rfl]
  rw [List.take_of_length_le (by rw [List.length_append]; omega)]
theorem first_go {x : Rd} (hb : x.begun = false) (hh : headOk x.b = true) (h4 : 4 ≤ x.b.length) : stp Z x = .go none { x with begun := true, b := x.b.drop 4, sum := fnv Z x.sum (x.b.take 4) } := by
  unfold stp; rw [if_pos hb, if_pos hh, if_pos h4]
theorem first_stop {x : Rd} (hb : x.begun = false) (hh : headOk x.b = true) (h4 : ¬ 4 ≤ x.b.length) : stp Z x = .stop := by
  unfold stp; rw [if_pos hb, if_pos hh, if_neg h4]
theorem first_tear {x : Rd} (hb : x.begun = false) (hh : headOk x.b = false) : stp Z x = .tear := by
  unfold stp; rw [if_pos hb, if_neg (by simp [hh])]
theorem stp_begin {m : Bs} : stp Z (Rd.new.on (headB ++ m)) = .go none { Rd.new with begun := true, b := m, sum := fnv Z fnv0 headB } := by
  rw [first_go Z rfl (head_all m) (by show 4 ≤ (headB ++ m).length; rw [List.length_append]; show 4 ≤ 4 + _; omega)]
  have h2 : (headB ++ m).drop 4 = m := List.drop_left' rfl
  have h3 : (headB ++ m).take 4 = headB := List.take_left' rfl
  show Stp.go none { Rd.new with begun := true, b := (headB ++ m).drop 4, sum := fnv Z fnv0 ((headB ++ m).take 4) } = _
  rw [h2, h3]
/-- What was written is read whole. -/
theorem read_all {l : List It} (h : badAt Z [] 0 l = none) (hl : l.length ≤ 4096) : ∃ q, Runs Z (Rd.new.on (allB Z l)) l (some q) ∧ q.done = true ∧ q.begun = true ∧ q.b = [] := by
  rw [allB_eq]
  have hlt : fnv Z fnv0 headB < 18446744073709551616 := fnv_lt _ _ (by decide)
  obtain ⟨q, h1, h2, h3, h4⟩ := runs_back Z l { Rd.new with begun := true, b := encs Z l ++ tailB Z l.length (fnv Z (fnv Z fnv0 headB) (encs Z l)), sum := fnv Z fnv0 headB } 0 rfl rfl (by show 0 + l.length ≤ 4096; omega) hlt h
    (by show _ = encs Z l ++ tailB Z (0 + l.length) _; rw [Nat.zero_add])
  exact ⟨q, .step (o := none) (stp_begin Z) h1, h2, h3, h4⟩
/-- What is done is what Write writes of what was told. -/
theorem write_back {l : List It} {q : Rd} {b : Bs} (h : Runs Z (Rd.new.on b) l (some q)) (hq : q.done = true) : writeN Z l = (b, 0, 0) := by
  have hb : (Rd.new.on b).b = b := rfl
  cases h with
  | stop h => cases hq
  | @step _ r' o l' _ h k =>
    cases hh : headOk b with
    | false => rw [first_tear Z rfl hh] at h; cases h
    | true =>
      by_cases h4 : 4 ≤ b.length
      · rw [first_go Z rfl hh h4] at h
        have hd : headB ++ b.drop 4 = b := by
          have : b.take 4 = headB := by
            unfold headOk at hh
            rw [beq_iff_eq] at hh
            rw [hh]
            exact List.take_of_length_le h4
          rw [← this]; exact List.take_append_drop 4 b
        have ht : b.take 4 = headB := by conv => lhs; rw [← hd]
                                         exact List.take_left' rfl
        have e : ({ Rd.new with begun := true, b := b.drop 4, sum := fnv Z fnv0 headB } : Rd) = r' ∧ o = none := by
          injection h with h1 h2
          refine ⟨?_, h1.symm⟩
          rw [← h2, ← ht]; rfl
        obtain ⟨rfl, rfl⟩ := e
        obtain ⟨h1, h2, h3⟩ := runs_done Z k hq rfl rfl (by show 0 ≤ 4096; omega) 0
        have h1' : b.drop 4 = encs Z l' ++ tailB Z (0 + l'.length) (fnv Z (fnv Z fnv0 headB) (encs Z l')) := h1
        have h3' : 0 + l'.length ≤ 4096 := h3
        rw [Nat.zero_add] at h1' h3'
        show writeN Z l' = (b, 0, 0)
        rw [writeN_of Z h2 h3', allB_eq, ← h1', hd]
      · rw [first_stop Z rfl hh h4] at h; cases h
/-- One byte turned: some of the items, and the reader is torn. -/
theorem read_turned {l : List It} {p s : Bs} {c d : UInt8} (h : badAt Z [] 0 l = none) (hl : l.length ≤ 4096) (he : allB Z l = p ++ c :: s) (hcd : c ≠ d) : ∃ l1 l2, l = l1 ++ l2 ∧ Runs Z (Rd.new.on (p ++ d :: s)) l1 none := by
  rw [allB_eq, List.append_eq_append_iff] at he
  have hlt : fnv Z fnv0 headB < 18446744073709551616 := fnv_lt _ _ (by decide)
  have later : ∀ a : Bs, p = headB ++ a → encs Z l ++ tailB Z l.length (fnv Z (fnv Z fnv0 headB) (encs Z l)) = a ++ c :: s → ∃ l1 l2, l = l1 ++ l2 ∧ Runs Z (Rd.new.on (p ++ d :: s)) l1 none := by
    intro a h1 h2
    obtain ⟨l1, l2, i1, i2⟩ := runs_turned Z l { Rd.new with begun := true, b := a ++ d :: s, sum := fnv Z fnv0 headB } 0 a s c d rfl rfl (by show 0 + l.length ≤ 4096; omega) hlt h
      (by show encs Z l ++ tailB Z (0 + l.length) _ = _; rw [Nat.zero_add]; exact h2) hcd rfl
    refine ⟨l1, l2, i1, ?_⟩
    rw [h1, List.append_assoc]
    exact .step (o := none) (stp_begin Z) i2
  rcases he with ⟨a, h1, h2⟩ | ⟨a, h1, h2⟩
  · exact later a h1 h2
  · cases a with
    | nil => rw [List.append_nil] at h1; exact later [] (by rw [h1, List.append_nil]) (by simpa using h2.symm)
    | cons y a =>
      rw [List.cons_append] at h2
      injection h2 with h3 h4
      subst h3
      refine ⟨[], l, rfl, .tear ?_⟩
      refine first_tear Z rfl ?_
      show headOk (p ++ d :: s) = false
      rw [Bool.eq_false_iff]
      unfold headOk
      rw [Ne, beq_iff_eq]
      have hpl : p.length < 4 := by have := congrArg List.length h1; simp [headB] at this; omega
      intro e
      have e1 := congrArg (fun l => l[p.length]?) e
      have hh : headB[p.length]? = some c := by rw [h1]; simp
      simp only [List.getElem?_take, if_pos hpl] at e1
      rw [List.getElem?_append_right (Nat.le_refl _), Nat.sub_self] at e1
      rw [if_pos (by simp), hh] at e1
      simp at e1
      exact hcd e1.symm
end
end Go.Proofs.YtcpnnkkfndgpjaaDoor
