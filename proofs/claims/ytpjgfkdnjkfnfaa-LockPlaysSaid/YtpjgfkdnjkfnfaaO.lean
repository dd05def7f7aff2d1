/- A table of the call's own, and the few answers that each statement asks. -/
import Derived.Test.YtpjgfkdnjkfnfaaN
namespace Go.Proofs.Ytpjgfkdnjkfnfaa
open Go.RowKit Go.Maps

/-- A table of the call's own: nothing that was there when the call began has turned. -/
def TabB (w0 wr : World) (t : Nat) (H W : List Lk) : Prop := Ext w0 wr ∧ TabS wr 55 t (fun k => w0.heap.size ≤ k) H W
theorem TabB.ext {w0 wr wr' t H W} (h : TabB w0 wr t H W) (he : Ext wr wr') : TabB w0 wr' t H W := ⟨h.1.trans he, h.2.ext he⟩
theorem Ext.mod_new {w0 w w' : World} {F : Nat → Prop} (h : Ext w0 w) (hm : Mod F w w') (hF : ∀ k, F k → w0.heap.size ≤ k) : Ext w0 w' :=
  Mod.trans (S := fun _ => False) h hm (fun i hi hf => by have := hF i hf; omega)
theorem TabB.step {w0 wr wr' t H W H' W'} (h : TabB w0 wr t H W) (hn : TabN wr wr' 55 t (fun k => w0.heap.size ≤ k) H' W') : TabB w0 wr' t H' W' := by
  have hs := h.1.size
  exact ⟨h.1.mod_new hn.1 (fun k h => h), hn.2.mono (fun k hk => by rcases hk with hk | hk <;> omega)⟩
theorem TabB.told {w0 wr wr' t H W H' W' tv told} (h : TabB w0 wr t H W) (hn : TabR wr wr' 55 t (fun k => w0.heap.size ≤ k) H' W' tv told) : TabB w0 wr' t H' W' ∧ Own wr' 29 4 tv told.length (flat told) := by
  have hs := h.1.size
  obtain ⟨h1, G, h2, h3, h4, h5⟩ := hn
  exact ⟨⟨h.1.mod_new h1 (fun k h => h), h2.mono (fun k hk => by rcases h3 k hk with hk | hk <;> omega)⟩, h4⟩

section
variable (w0 w : World) (t : Nat) (H W : List Lk) (wa pa na : Int) (sa : Bool)
theorem new_b (w0 w : World) (h : Ext w0 w) : Calls Try.prog 9 #[] w fun e w' => ∃ t, e = .returned (.pointer (some ⟨t, 0, none⟩)) ∧ TabB w0 w' t [] [] :=
  (new_any w).mono fun e w' ⟨h1, h2, h3⟩ => ⟨_, h1, h.trans h2, h3.mono (fun k hk => by have := h.size; omega)⟩
theorem try_b (h : TabB w0 w t H W) : Calls Try.prog 17 #[.pointer (some ⟨t, 0, none⟩), .agg #[.int .i64 wa, .int .i64 pa, .int .i64 na, .bool sa]] w
    fun e w' => e = .returned (.int .i64 (tryF ⟨wa, pa, na, sa⟩ H W)) ∧ TabB w0 w' t (tryH ⟨wa, pa, na, sa⟩ H W) W :=
  (try_any t _ H W wa pa na sa w h.2).mono fun _ _ ⟨h1, h2⟩ => ⟨h1, h.step h2⟩
theorem wait_b (h : TabB w0 w t H W) : Calls Try.prog 16 #[.pointer (some ⟨t, 0, none⟩), .agg #[.int .i64 wa, .int .i64 pa, .int .i64 na, .bool sa]] w
    fun e w' => e = .returned (.tuple #[.bool (waitF ⟨wa, pa, na, sa⟩ H W).1, .int .i64 (waitF ⟨wa, pa, na, sa⟩ H W).2]) ∧ TabB w0 w' t (waitH ⟨wa, pa, na, sa⟩ H W).1 (waitH ⟨wa, pa, na, sa⟩ H W).2 :=
  (wait_any t _ H W wa pa na sa w h.2).mono fun _ _ ⟨h1, h2⟩ => ⟨h1, h.step h2⟩
theorem free_b (h : TabB w0 w t H W) : Calls Try.prog 18 #[.pointer (some ⟨t, 0, none⟩), .agg #[.int .i64 wa, .int .i64 pa, .int .i64 na, .bool sa]] w
    fun e w' => ∃ A c, e = .returned (.tuple #[.slice A (freeF ⟨wa, pa, na, sa⟩ H W).2.2.2.length c, .int .i64 (freeF ⟨wa, pa, na, sa⟩ H W).1]) ∧ TabB w0 w' t (freeF ⟨wa, pa, na, sa⟩ H W).2.1 (freeF ⟨wa, pa, na, sa⟩ H W).2.2.1 ∧ LkSl w' A (freeF ⟨wa, pa, na, sa⟩ H W).2.2.2.length (freeF ⟨wa, pa, na, sa⟩ H W).2.2.2 :=
  (free_call t _ H W wa pa na sa w h.2).mono fun _ _ ⟨tv, h1, h2⟩ => by
    obtain ⟨h3, h4⟩ := h.told h2
    obtain ⟨A, c, rfl, -, -⟩ := h4.form
    exact ⟨A, c, h1, h3, LkSl.of_own h4⟩
theorem leave_b (who : Int) (h : TabB w0 w t H W) : Calls Try.prog 24 #[.pointer (some ⟨t, 0, none⟩), .int .i64 who] w
    fun e w' => ∃ A c, e = .returned (.slice A (leaveF who H W).2.2.length c) ∧ TabB w0 w' t (leaveF who H W).1 (leaveF who H W).2.1 ∧ LkSl w' A (leaveF who H W).2.2.length (leaveF who H W).2.2 :=
  (leave_any t _ H W who w h.2).mono fun _ _ ⟨tv, h1, h2⟩ => by
    obtain ⟨h3, h4⟩ := h.told h2
    obtain ⟨A, c, rfl, -, -⟩ := h4.form
    exact ⟨A, c, h1, h3, LkSl.of_own h4⟩
theorem held_b (h : TabB w0 w t H W) : Calls Try.prog 11 #[.pointer (some ⟨t, 0, none⟩)] w fun e w' => ∃ A c, e = .returned (.slice A H.length c) ∧ Ext w w' ∧ TabB w0 w' t H W ∧ LkSl w' A H.length H :=
  (held_any t _ H W w h.2).mono fun _ _ ⟨v, h1, h2, h3, h4⟩ => by
    obtain ⟨A, c, rfl, -, -⟩ := h2.form
    exact ⟨A, c, h1, h4, h.ext h4, LkSl.of_own h2⟩
theorem waits_b (h : TabB w0 w t H W) : Calls Try.prog 12 #[.pointer (some ⟨t, 0, none⟩)] w fun e w' => ∃ A c, e = .returned (.slice A W.length c) ∧ Ext w w' ∧ TabB w0 w' t H W ∧ LkSl w' A W.length W :=
  (waits_any t _ H W w h.2).mono fun _ _ ⟨v, h1, h2, h3, h4⟩ => by
    obtain ⟨A, c, rfl, -, -⟩ := h2.form
    exact ⟨A, c, h1, h4, h.ext h4, LkSl.of_own h2⟩
end

def w0k : Lk := ⟨0, 0, 10, false⟩
def w1k : Lk := ⟨1, 5, 1, false⟩
theorem wk_noway : ¬ Way [w0k] [w1k] 1 1 := by
  have e1 : ∀ b, Edge [w0k] [w1k] 1 b → b = 0 := by
    rintro b ⟨i, x, y, hx, hxa, hy, hm, rfl⟩
    rcases hy with hy | hy
    · rw [List.mem_singleton.1 hy]; rfl
    · cases i with
      | zero => simp at hy
      | succ i => simp at hx
  have e0 : ∀ b, ¬ Edge [w0k] [w1k] 0 b := by
    rintro b ⟨i, x, y, hx, hxa, hy, hm, rfl⟩
    cases i with
    | zero => simp at hx; subst hx; revert hxa; decide
    | succ i => simp at hx
  intro h
  cases h with
  | one h => have := e1 _ h; omega
  | cons h k =>
    have := e1 _ h
    subst this
    cases k with
    | one h => exact e0 _ h
    | cons h _ => exact e0 _ h
theorem wk_wait : waitF w1k [w0k] [] = (false, 0) := by
  have h1 : checkF w1k [w0k] [] = 0 := by decide
  have h2 : freeB w1k [w0k] [] = false := by decide
  unfold waitF
  rw [if_neg (by simp [h1]), h2, if_neg (by simp)]
  exact if_neg wk_noway
theorem wk_waitH : waitH w1k [w0k] [] = ([w0k], [w1k]) := by
  have h1 : checkF w1k [w0k] [] = 0 := by decide
  have h2 : freeB w1k [w0k] [] = false := by decide
  unfold waitH
  rw [if_neg (by simp [h1]), h2, if_neg (by simp)]
  exact if_neg wk_noway

set_option maxRecDepth 20000 in
set_option maxHeartbeats 1000000 in
theorem wakes_any (w : World) : Calls Try.prog 15 #[] w fun e w' => e = .returned (.bool true) ∧ Ext w w' := by
  have T1 : Hid (tryF ⟨0, 0, 10, false⟩ [] [] = 0 ∧ tryH ⟨0, 0, 10, false⟩ [] [] = [w0k]) := by constructor <;> rfl
  have T2 : Hid (tryF ⟨1, 5, 1, false⟩ [w0k] [] = 150 ∧ tryH ⟨1, 5, 1, false⟩ [w0k] [] = [w0k]) := by constructor <;> rfl
  have T3 : Hid (waitF ⟨1, 5, 1, false⟩ [w0k] [] = (false, 0) ∧ waitH ⟨1, 5, 1, false⟩ [w0k] [] = ([w0k], [w1k])) := ⟨wk_wait, wk_waitH⟩
  have T4 : Hid (freeF ⟨0, 0, 10, false⟩ [w0k] [w1k] = (0, [w1k], [], [w1k])) := by rfl
  go_enter Try.func15, Try.ntmps15
  go_wp2_with fail
  refine (new_b w _ (Ext.refl _)).mono ?_
  rintro e w1 ⟨t, rfl, hT1⟩
  go_wp2_with fail
  refine (try_b w _ t [] [] 0 0 10 false hT1).mono ?_
  rintro e w2 ⟨rfl, hT2⟩
  rw [T1.out.1]
  rw [T1.out.2] at hT2
  go_wp2_with fail
  refine (try_b w _ t [w0k] [] 1 5 1 false hT2).mono ?_
  rintro e w3 ⟨rfl, hT3⟩
  rw [T2.out.1]
  rw [T2.out.2] at hT3
  go_wp2_with fail
  refine (wait_b w _ t [w0k] [] 1 5 1 false hT3).mono ?_
  rintro e w4 ⟨rfl, hT4⟩
  rw [T3.out.1]
  rw [T3.out.2] at hT4
  go_wp2_with fail
  refine (free_b w _ t [w0k] [w1k] 0 0 10 false hT4).mono ?_
  rintro e w5 ⟨A, c, rfl, hT5, hS⟩
  rw [T4.out]
  rw [T4.out] at hT5 hS
  obtain ⟨b, off, rfl, hb, hce⟩ := hS.2 (by simp)
  obtain ⟨e1, -, -, -⟩ := hce 0 w1k rfl
  have e2 : w5.cell? ⟨b, off, none⟩ = some (.int .i64 w1k.who) := by simpa using e1
  have e3 : w5.cell? ⟨b, off, none⟩ = some (.int .i64 1) := e2
  clear hce hS e1 e2
  simp only [List.length_cons, List.length_nil, Nat.zero_add]
  have HT5 := Lib.hid hT5
  clear hT5
  go_wp2_with (first
    | (go_at_call 11; refine (held_b w _ t [w1k] [] HT5.out).mono ?_; rintro e w6 ⟨A6, c6, rfl, hx6, hT6, -⟩; have HT6 := Lib.hid hT6; clear hT6)
    | (go_at_call 12; refine (waits_b w _ t [w1k] [] HT6.out).mono ?_; rintro e w7 ⟨A7, c7, rfl, hx7, hT7, -⟩; have HT7 := Lib.hid hT7; clear hT7))
  go_ret
  exact ⟨rfl, HT7.out.1⟩
end Go.Proofs.Ytpjgfkdnjkfnfaa
