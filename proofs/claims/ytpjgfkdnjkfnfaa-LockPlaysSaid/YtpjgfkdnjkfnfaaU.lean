/- What holds of every table behind any calls: no two held ones meet, each waiting one meets one ahead of it, nobody waits in a circle. Plain Lean: no program. -/
import Derived.Test.YtpjgfkdnjkfnfaaN
namespace Go.Proofs.Ytpjgfkdnjkfnfaa

theorem meet_symm (a b : Lk) : meetB a b = meetB b a := by
  have h : decide (a.who = b.who) = decide (b.who = a.who) := by
    by_cases h : a.who = b.who
    · simp [h]
    · have h' : ¬ b.who = a.who := fun e => h e.symm
      simp [h, h']
  unfold meetB
  rw [h, Bool.and_comm a.sh b.sh, Bool.and_assoc _ (!aheadB a b.pos), Bool.and_assoc _ (!aheadB b a.pos), Bool.and_comm (!aheadB a b.pos)]
theorem meets_iff {l : Lk} {ls : List Lk} : meetsB l ls = true ↔ ∃ y ∈ ls, meetB l y = true := by
  unfold meetsB; rw [List.any_eq_true]
theorem meets_no {l : Lk} {ls : List Lk} : meetsB l ls = false ↔ ∀ y ∈ ls, meetB l y = false := by
  unfold meetsB; rw [List.any_eq_false]; simp

theorem edge_iff {H W : List Lk} {a b : Int} : Edge H W a b ↔ ∃ P x Q y, W = P ++ x :: Q ∧ x.who = a ∧ (y ∈ H ∨ y ∈ P) ∧ meetB x y = true ∧ y.who = b := by
  constructor
  · rintro ⟨i, x, y, hx, ha, hy, hm, hb⟩
    have hlt : i < W.length := (List.getElem?_eq_some_iff.1 hx).1
    have he : W[i] = x := (List.getElem?_eq_some_iff.1 hx).2
    exact ⟨W.take i, x, W.drop (i + 1), y, by rw [← he, ← List.drop_eq_getElem_cons hlt, List.take_append_drop], ha, hy, hm, hb⟩
  · rintro ⟨P, x, Q, y, rfl, ha, hy, hm, hb⟩
    exact ⟨P.length, x, y, by simp, ha, by simpa using hy, hm, hb⟩
theorem Way.sub {H W H' W' : List Lk} (h : ∀ a b, Edge H W a b → Edge H' W' a b) {a b : Int} (hw : Way H W a b) : Way H' W' a b := by
  induction hw with
  | one e => exact .one (h _ _ e)
  | cons e _ ih => exact .cons (h _ _ e) ih

structure Inv (H W : List Lk) : Prop where
  apart : H.Pairwise (fun x y => meetB x y = false)
  stuck : ∀ P x Q, W = P ++ x :: Q → ∃ y, (y ∈ H ∨ y ∈ P) ∧ meetB x y = true
  acyc : ∀ a, ¬ Way H W a a

theorem Inv.empty : Inv [] [] where
  apart := List.Pairwise.nil
  stuck := fun P x Q h => by simp at h
  acyc := fun a h => by
    have key : ∀ a b, ¬ Edge [] [] a b := fun a b ⟨i, x, y, hx, _⟩ => by simp at hx
    cases h with
    | one e => exact key _ _ e
    | cons e _ => exact key _ _ e

/-- One that meets none is held. -/
theorem Inv.push {H W : List Lk} {l : Lk} (h : Inv H W) (hf : freeB l H W = true) : Inv (H ++ [l]) W := by
  simp only [freeB, Bool.and_eq_true, Bool.not_eq_true'] at hf
  have h1 := meets_no.1 hf.1
  have h2 := meets_no.1 hf.2
  refine ⟨?_, fun P x Q e => ?_, fun a hw => h.acyc a (hw.sub fun a b he => ?_)⟩
  · rw [List.pairwise_append]
    refine ⟨h.apart, List.pairwise_singleton _ _, fun x hx y hy => ?_⟩
    rw [List.mem_singleton.1 hy, meet_symm]
    exact h1 x hx
  · obtain ⟨y, hy, hm⟩ := h.stuck P x Q e
    exact ⟨y, hy.imp (fun h => List.mem_append_left _ h) id, hm⟩
  · obtain ⟨P, x, Q, y, e, ha, hy, hm, hb⟩ := edge_iff.1 he
    refine edge_iff.2 ⟨P, x, Q, y, e, ha, ?_, hm, hb⟩
    rcases hy with hy | hy
    · rcases List.mem_append.1 hy with hy | hy
      · exact .inl hy
      · rw [List.mem_singleton.1 hy, meet_symm] at hm
        rw [h2 x (by rw [e]; simp)] at hm
        cases hm
    · exact .inr hy

/-- A new edge begins at the new one's who. -/
theorem way_new {H W : List Lk} {l : Lk} {a b : Int} (hw : Way H (W ++ [l]) a b) : Way H W a b ∨ (a = l.who ∨ Way H (W ++ [l]) a l.who) ∧ Way H (W ++ [l]) l.who b := by
  have key : ∀ a b, Edge H (W ++ [l]) a b → Edge H W a b ∨ a = l.who := by
    rintro a b ⟨i, x, y, hx, ha, hy, hm, hb⟩
    by_cases hi : i < W.length
    · left
      refine ⟨i, x, y, by rw [List.getElem?_append_left hi] at hx; exact hx, ha, ?_, hm, hb⟩
      rw [List.take_append_of_le_length (by omega)] at hy
      exact hy
    · right
      rw [List.getElem?_append_right (by omega)] at hx
      have : i - W.length = 0 := by
        have := (List.getElem?_eq_some_iff.1 hx).1
        simp at this; omega
      rw [this] at hx
      simp at hx
      rw [← ha, ← hx]
  induction hw with
  | one e =>
    rcases key _ _ e with h | h
    · exact .inl (.one h)
    · exact .inr ⟨.inl h, h ▸ .one e⟩
  | cons e k ih =>
    rcases key _ _ e with h | h
    · rcases ih with ih | ⟨ih1, ih2⟩
      · exact .inl (.cons h ih)
      · refine .inr ⟨.inr ?_, ih2⟩
        rcases ih1 with ih1 | ih1
        · exact ih1 ▸ .one e
        · exact .cons e ih1
    · exact .inr ⟨.inl h, h ▸ .cons e k⟩
/-- One that meets some waits, where that makes no circle. -/
theorem Inv.wait {H W : List Lk} {l : Lk} (h : Inv H W) (hf : freeB l H W = false) (hc : ¬ Way H (W ++ [l]) l.who l.who) : Inv H (W ++ [l]) where
  apart := h.apart
  stuck := fun P x Q e => by
    rcases List.append_eq_append_iff.1 e with ⟨P', e1, e2⟩ | ⟨Q', e1, e2⟩
    · cases P' with
      | nil =>
        simp at e1 e2
        obtain ⟨rfl, -⟩ := e2
        subst e1
        have : meetsB l H = true ∨ meetsB l P = true := by
          simp only [freeB, Bool.and_eq_false_iff, Bool.not_eq_false'] at hf
          exact hf
        rcases this with h | h
        · obtain ⟨y, hy, hm⟩ := meets_iff.1 h
          exact ⟨y, .inl hy, hm⟩
        · obtain ⟨y, hy, hm⟩ := meets_iff.1 h
          exact ⟨y, .inr hy, hm⟩
      | cons z P' => simp at e2
    · cases Q' with
      | nil =>
        simp at e1 e2
        obtain ⟨rfl, -⟩ := e2
        subst e1
        have : meetsB x H = true ∨ meetsB x W = true := by
          simp only [freeB, Bool.and_eq_false_iff, Bool.not_eq_false'] at hf
          exact hf
        rcases this with h | h
        · obtain ⟨y, hy, hm⟩ := meets_iff.1 h
          exact ⟨y, .inl hy, hm⟩
        · obtain ⟨y, hy, hm⟩ := meets_iff.1 h
          exact ⟨y, .inr hy, hm⟩
      | cons z Q' =>
        simp at e2
        obtain ⟨rfl, -⟩ := e2
        exact h.stuck P x Q' e1
  acyc := fun a hw => by
    rcases way_new hw with h1 | ⟨h1, h2⟩
    · exact h.acyc a h1
    · rcases h1 with h1 | h1
      · exact hc (h1 ▸ h2)
      · exact hc (h2.trans h1)

/-- What is left when some have gone: it may go on. -/
structure Pre (H W : List Lk) : Prop where
  apart : H.Pairwise (fun x y => meetB x y = false)
  acyc : ∀ a, ¬ Way H W a a
theorem Inv.erase {H W : List Lk} (h : Inv H W) (i : Nat) : Pre (H.eraseIdx i) W where
  apart := h.apart.sublist (List.eraseIdx_sublist ..)
  acyc := fun a hw => h.acyc a (hw.sub fun a b he => by
    obtain ⟨P, x, Q, y, e, ha, hy, hm, hb⟩ := edge_iff.1 he
    exact edge_iff.2 ⟨P, x, Q, y, e, ha, hy.imp (fun h => List.mem_of_mem_eraseIdx h) id, hm, hb⟩)
theorem Inv.others {H W : List Lk} (h : Inv H W) (who : Int) : Pre (others who H) (others who W) where
  apart := h.apart.sublist List.filter_sublist
  acyc := fun a hw => h.acyc a (hw.sub fun a b he => by
    obtain ⟨P, x, Q, y, e, ha, hy, hm, hb⟩ := edge_iff.1 he
    unfold Go.Proofs.Ytpjgfkdnjkfnfaa.others at e hy
    obtain ⟨W1, W2, rfl, e1, e2⟩ := List.filter_eq_append_iff.1 e
    obtain ⟨V1, V2, rfl, hv, hx, e3⟩ := List.filter_eq_cons_iff.1 e2
    refine edge_iff.2 ⟨W1 ++ V1, x, V2, y, by simp, ha, ?_, hm, hb⟩
    rcases hy with hy | hy
    · exact .inl (List.mem_filter.1 hy).1
    · right
      rw [← e1] at hy
      exact List.mem_append_left _ (List.mem_filter.1 hy).1)

/-- 'on', step by step: what still waits meets one ahead of it, and no new way is made. -/
structure Going (H0 W0 : List Lk) (H S R : List Lk) : Prop where
  apart : H.Pairwise (fun x y => meetB x y = false)
  stuck : ∀ P x Q, S = P ++ x :: Q → ∃ y, (y ∈ H ∨ y ∈ P) ∧ meetB x y = true
  edges : ∀ a b, Edge H (S ++ R) a b → Edge H0 W0 a b
theorem Going.step {H0 W0 H S R : List Lk} {l : Lk} (T : List Lk) (h : Going H0 W0 H S (l :: R)) : Going H0 W0 (onStep (H, S, T) l).1 (onStep (H, S, T) l).2.1 R := by
  unfold onStep
  split
  · rename_i hm
    dsimp only at hm ⊢
    refine ⟨h.apart, fun P x Q e => ?_, fun a b he => h.edges a b (by simpa using he)⟩
    rcases List.append_eq_append_iff.1 e with ⟨P', e1, e2⟩ | ⟨Q', e1, e2⟩
    · cases P' with
      | nil =>
        simp at e1 e2
        obtain ⟨rfl, -⟩ := e2
        subst e1
        rcases Bool.or_eq_true_iff.1 hm with h | h
        · obtain ⟨y, hy, hm⟩ := meets_iff.1 h
          exact ⟨y, .inl hy, hm⟩
        · obtain ⟨y, hy, hm⟩ := meets_iff.1 h
          exact ⟨y, .inr hy, hm⟩
      | cons z P' => simp at e2
    · cases Q' with
      | nil =>
        simp at e1 e2
        obtain ⟨rfl, -⟩ := e2
        subst e1
        rcases Bool.or_eq_true_iff.1 hm with h | h
        · obtain ⟨y, hy, hm⟩ := meets_iff.1 h
          exact ⟨y, .inl hy, hm⟩
        · obtain ⟨y, hy, hm⟩ := meets_iff.1 h
          exact ⟨y, .inr hy, hm⟩
      | cons z Q' =>
        simp at e2
        obtain ⟨rfl, -⟩ := e2
        exact h.stuck P x Q' e1
  · rename_i hm
    dsimp only at hm ⊢
    simp only [Bool.not_eq_true, Bool.or_eq_false_iff] at hm
    have h1 := meets_no.1 hm.1
    have h2 := meets_no.1 hm.2
    refine ⟨?_, fun P x Q e => ?_, fun a b he => h.edges a b ?_⟩
    · rw [List.pairwise_append]
      refine ⟨h.apart, List.pairwise_singleton _ _, fun x hx y hy => ?_⟩
      rw [List.mem_singleton.1 hy, meet_symm]
      exact h1 x hx
    · obtain ⟨y, hy, hmm⟩ := h.stuck P x Q e
      exact ⟨y, hy.imp (fun h => List.mem_append_left _ h) id, hmm⟩
    · obtain ⟨P, x, Q, y, e, ha, hy, hm, hb⟩ := edge_iff.1 he
      rcases List.append_eq_append_iff.1 e with ⟨P', e1, e2⟩ | ⟨Q', e1, e2⟩
      · -- x lies in R
        subst e1
        refine edge_iff.2 ⟨S ++ l :: P', x, Q, y, by rw [e2]; simp, ha, ?_, hm, hb⟩
        rcases hy with hy | hy
        · rcases List.mem_append.1 hy with hy | hy
          · exact .inl hy
          · right; rw [List.mem_singleton.1 hy]; simp
        · right
          rcases List.mem_append.1 hy with hy | hy
          · exact List.mem_append_left _ hy
          · exact List.mem_append_right _ (List.mem_cons_of_mem _ hy)
      · cases Q' with
        | nil =>
          simp at e1 e2
          subst e1
          refine edge_iff.2 ⟨S ++ [l], x, Q, y, by rw [← e2]; simp, ha, ?_, hm, hb⟩
          rcases hy with hy | hy
          · rcases List.mem_append.1 hy with hy | hy
            · exact .inl hy
            · right; rw [List.mem_singleton.1 hy]; simp
          · exact .inr (List.mem_append_left _ hy)
        | cons z Q' =>
          simp at e2
          obtain ⟨rfl, rfl⟩ := e2
          refine edge_iff.2 ⟨P, x, Q' ++ l :: R, y, by rw [e1]; simp, ha, ?_, hm, hb⟩
          rcases hy with hy | hy
          · rcases List.mem_append.1 hy with hy | hy
            · exact .inl hy
            · rw [List.mem_singleton.1 hy, meet_symm] at hm
              rw [h2 x (by rw [e1]; simp)] at hm
              cases hm
          · exact .inr hy
theorem Going.all {H0 W0 : List Lk} : ∀ (R : List Lk) (s : List Lk × List Lk × List Lk), Going H0 W0 s.1 s.2.1 R → Going H0 W0 (R.foldl onStep s).1 (R.foldl onStep s).2.1 [] := by
  intro R
  induction R with
  | nil => intro s h; exact h
  | cons l R ih =>
    intro s h
    obtain ⟨H, S, T⟩ := s
    exact ih _ (h.step T)
theorem Pre.on {H W : List Lk} (h : Pre H W) : Inv (onF H W).1 (onF H W).2.1 := by
  have h0 : Going H W H [] W := ⟨h.apart, fun P x Q e => by simp at e, fun a b he => by simpa using he⟩
  have h1 := Going.all W (H, [], []) h0
  exact ⟨h1.apart, h1.stuck, fun a hw => h.acyc a (hw.sub fun a b he => h1.edges a b (by rw [List.append_nil]; exact he))⟩

theorem Inv.tries {H W : List Lk} (h : Inv H W) (l : Lk) : Inv (tryH l H W) W := by
  unfold tryH
  split
  · rename_i h0
    refine h.push ?_
    unfold tryF at h0
    split at h0
    · contradiction
    · split at h0
      · assumption
      · cases h0
  · exact h
theorem Inv.waits {H W : List Lk} (h : Inv H W) (l : Lk) : Inv (waitH l H W).1 (waitH l H W).2 := by
  unfold waitH
  split
  · exact h
  · split
    · rename_i hf; exact h.push hf
    · rename_i hf
      split
      · exact h
      · rename_i hc; exact h.wait (by simpa using hf) hc
theorem Inv.frees {H W : List Lk} (h : Inv H W) (l : Lk) : Inv (freeF l H W).2.1 (freeF l H W).2.2.1 := by
  unfold freeF
  split
  · exact h
  · split
    · exact h
    · exact (h.erase _).on
theorem Inv.leaves {H W : List Lk} (h : Inv H W) (who : Int) : Inv (leaveF who H W).1 (leaveF who H W).2.1 := (h.others who).on

/-- All locks have a who that p lets in. -/
def Whos (p : Int → Prop) (H W : List Lk) : Prop := (∀ l ∈ H, p l.who) ∧ ∀ l ∈ W, p l.who
theorem Whos.tries {p H W} (h : Whos p H W) {l : Lk} (hl : p l.who) : Whos p (tryH l H W) W := by
  unfold tryH
  split
  · exact ⟨fun x hx => by rcases List.mem_append.1 hx with hx | hx; exact h.1 x hx; rw [List.mem_singleton.1 hx]; exact hl, h.2⟩
  · exact h
theorem Whos.waits {p H W} (h : Whos p H W) {l : Lk} (hl : p l.who) : Whos p (waitH l H W).1 (waitH l H W).2 := by
  have h1 : ∀ L : List Lk, (∀ x ∈ L, p x.who) → ∀ x ∈ L ++ [l], p x.who := fun L hL x hx => by
    rcases List.mem_append.1 hx with hx | hx
    · exact hL x hx
    · rw [List.mem_singleton.1 hx]; exact hl
  unfold waitH
  split
  · exact h
  · split
    · exact ⟨h1 _ h.1, h.2⟩
    · split
      · exact h
      · exact ⟨h.1, h1 _ h.2⟩
theorem Whos.on {p H W} (h : Whos p H W) : Whos p (onF H W).1 (onF H W).2.1 := by
  have := onF_mem W (H, [], [])
  refine ⟨fun l hl => ?_, fun l hl => ?_⟩
  · rcases this l (.inl hl) with h1 | h1 | h1 | h1
    · exact h.1 l h1
    · simp at h1
    · simp at h1
    · exact h.2 l h1
  · rcases this l (.inr (.inl hl)) with h1 | h1 | h1 | h1
    · exact h.1 l h1
    · simp at h1
    · simp at h1
    · exact h.2 l h1
theorem Whos.frees {p H W} (h : Whos p H W) (l : Lk) : Whos p (freeF l H W).2.1 (freeF l H W).2.2.1 := by
  unfold freeF
  split
  · exact h
  · split
    · exact h
    · exact Whos.on ⟨fun x hx => h.1 x (List.mem_of_mem_eraseIdx hx), h.2⟩
theorem Whos.leaves {p H W} (h : Whos p H W) (who : Int) : Whos p (leaveF who H W).1 (leaveF who H W).2.1 :=
  Whos.on ⟨fun x hx => h.1 x (List.mem_filter.1 hx).1, fun x hx => h.2 x (List.mem_filter.1 hx).1⟩
end Go.Proofs.Ytpjgfkdnjkfnfaa
