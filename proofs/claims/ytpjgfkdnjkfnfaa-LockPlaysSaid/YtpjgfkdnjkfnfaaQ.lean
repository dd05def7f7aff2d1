/- A table of the call's own, its blocks named; lists handed out beside it. -/
import Derived.Test.YtpjgfkdnjkfnfaaO
namespace Go.Proofs.Ytpjgfkdnjkfnfaa
open Go.RowKit Go.Maps

/-- A table whose blocks lie in G, all of them of the call's own. -/
def TabG (w0 wr : World) (t : Nat) (G : Nat → Prop) (H W : List Lk) : Prop := Ext w0 wr ∧ TabS wr 55 t G H W ∧ ∀ k, G k → w0.heap.size ≤ k ∧ k < wr.heap.size
theorem TabB.toG {w0 wr t H W} (h : TabB w0 wr t H W) : TabG w0 wr t (fun k => w0.heap.size ≤ k ∧ k < wr.heap.size) H W := by
  obtain ⟨h1, hv, wv, ht, hF⟩ := h
  refine ⟨h1, ⟨hv, wv, ht, fun k hk => ⟨hF k hk, ?_⟩⟩, fun k hk => hk⟩
  rcases hk with rfl | hk | hk
  · exact ht.lt
  · exact ht.held.lt k hk
  · exact ht.waits.lt k hk
theorem TabG.toB {w0 wr t G H W} (h : TabG w0 wr t G H W) : TabB w0 wr t H W := ⟨h.1, h.2.1.mono (fun k hk => (h.2.2 k hk).1)⟩
theorem TabG.ext {w0 wr wr' t G H W} (h : TabG w0 wr t G H W) (he : Ext wr wr') : TabG w0 wr' t G H W :=
  ⟨h.1.trans he, h.2.1.ext he, fun k hk => by have := h.2.2 k hk; have := he.size; omega⟩
/-- A list of the call's own beside a table. -/
def Beside (G : Nat → Prop) (wr : World) (v : Value) (ls : List Lk) : Prop := Own wr 29 4 v ls.length (flat ls) ∧ ∀ k, v.ownBlock = some k → ¬ G k
theorem Beside.mod {G wr wr' v ls} (h : Beside G wr v ls) (hm : Mod G wr wr') : Own wr' 29 4 v ls.length (flat ls) := h.1.mod hm h.2
theorem Beside.ext {G wr wr' v ls} (h : Beside G wr v ls) (hm : Ext wr wr') : Beside G wr' v ls := ⟨h.1.ext hm, h.2⟩

section
variable (w0 w : World) (t : Nat) (G : Nat → Prop) (H W : List Lk) (wa pa na : Int) (sa : Bool)
theorem held_g (h : TabG w0 w t G H W) : Calls Try.prog 11 #[.pointer (some ⟨t, 0, none⟩)] w fun e w' => ∃ A c, e = .returned (.slice A H.length c) ∧ Ext w w' ∧ TabG w0 w' t G H W ∧ Beside G w' (.slice A H.length c) H :=
  (held_any t _ H W w h.2.1).mono fun _ _ ⟨v, h1, h2, h3, h4⟩ => by
    obtain ⟨A, c, rfl, -, -⟩ := h2.form
    exact ⟨A, c, h1, h4, h.ext h4, h2, fun k hk hg => by have := h3 k hk; have := h.2.2 k hg; omega⟩
theorem waits_g (h : TabG w0 w t G H W) : Calls Try.prog 12 #[.pointer (some ⟨t, 0, none⟩)] w fun e w' => ∃ A c, e = .returned (.slice A W.length c) ∧ Ext w w' ∧ TabG w0 w' t G H W ∧ Beside G w' (.slice A W.length c) W :=
  (waits_any t _ H W w h.2.1).mono fun _ _ ⟨v, h1, h2, h3, h4⟩ => by
    obtain ⟨A, c, rfl, -, -⟩ := h2.form
    exact ⟨A, c, h1, h4, h.ext h4, h2, fun k hk hg => by have := h3 k hk; have := h.2.2 k hg; omega⟩
theorem TabG.step {w0 wr wr' t G H W H' W'} (h : TabG w0 wr t G H W) (hn : TabN wr wr' 55 t G H' W') : TabG w0 wr' t (fun k => (G k ∨ wr.heap.size ≤ k) ∧ k < wr'.heap.size) H' W' := by
  have hs := h.1.size
  have hb : TabB w0 wr' t H' W' := ⟨h.1.mod_new hn.1 (fun k hk => (h.2.2 k hk).1), hn.2.mono (fun k hk => by rcases hk with hk | hk; exact (h.2.2 k hk).1; omega)⟩
  obtain ⟨hv, wv, ht, hF⟩ := hn.2
  refine ⟨hb.1, ⟨hv, wv, ht, fun k hk => ⟨hF k hk, ?_⟩⟩, fun k hk => ⟨?_, hk.2⟩⟩
  · rcases hk with rfl | hk | hk
    · exact ht.lt
    · exact ht.held.lt k hk
    · exact ht.waits.lt k hk
  · rcases hk.1 with hk | hk
    · exact (h.2.2 k hk).1
    · omega
theorem try_g (h : TabG w0 w t G H W) : Calls Try.prog 17 #[.pointer (some ⟨t, 0, none⟩), .agg #[.int .i64 wa, .int .i64 pa, .int .i64 na, .bool sa]] w
    fun e w' => e = .returned (.int .i64 (tryF ⟨wa, pa, na, sa⟩ H W)) ∧ Mod G w w' ∧ TabG w0 w' t (fun k => (G k ∨ w.heap.size ≤ k) ∧ k < w'.heap.size) (tryH ⟨wa, pa, na, sa⟩ H W) W :=
  (try_any t _ H W wa pa na sa w h.2.1).mono fun _ _ ⟨h1, h2⟩ => ⟨h1, h2.1, h.step h2⟩
theorem leave_g (who : Int) (h : TabG w0 w t G H W) : Calls Try.prog 24 #[.pointer (some ⟨t, 0, none⟩), .int .i64 who] w
    fun e w' => ∃ A c G', e = .returned (.slice A (leaveF who H W).2.2.length c) ∧ Mod G w w' ∧ TabG w0 w' t G' (leaveF who H W).1 (leaveF who H W).2.1 ∧ (∀ k, G' k → G k ∨ w.heap.size ≤ k) ∧ Beside G' w' (.slice A (leaveF who H W).2.2.length c) (leaveF who H W).2.2 :=
  (leave_any t _ H W who w h.2.1).mono fun _ _ ⟨tv, h1, h2, G', h3, h4, h5, h6⟩ => by
    obtain ⟨A, c, rfl, -, -⟩ := h5.form
    obtain ⟨hv, wv, ht, hF⟩ := h3
    have hs := h.1.size
    refine ⟨A, c, Foot t hv wv, h1, h2, ⟨h.1.mod_new h2 (fun k hk => (h.2.2 k hk).1), ⟨hv, wv, ht, fun k hk => hk⟩, fun k hk => ⟨?_, ?_⟩⟩, fun k hk => h4 k (hF k hk), h5, fun k hk hg => (h6 k hk).2 (hF k hg)⟩
    · rcases h4 k (hF k hk) with hg | hg
      · exact (h.2.2 k hg).1
      · omega
    · rcases hk with rfl | hk | hk
      · exact ht.lt
      · exact ht.held.lt k hk
      · exact ht.waits.lt k hk
end

theorem free_g (w0 w : World) (t : Nat) (G : Nat → Prop) (H W : List Lk) (wa pa na : Int) (sa : Bool) (h : TabG w0 w t G H W) : Calls Try.prog 18 #[.pointer (some ⟨t, 0, none⟩), .agg #[.int .i64 wa, .int .i64 pa, .int .i64 na, .bool sa]] w
    fun e w' => ∃ A c G', e = .returned (.tuple #[.slice A (freeF ⟨wa, pa, na, sa⟩ H W).2.2.2.length c, .int .i64 (freeF ⟨wa, pa, na, sa⟩ H W).1]) ∧ Mod G w w' ∧ TabG w0 w' t G' (freeF ⟨wa, pa, na, sa⟩ H W).2.1 (freeF ⟨wa, pa, na, sa⟩ H W).2.2.1 ∧ (∀ k, G' k → G k ∨ w.heap.size ≤ k) ∧ Beside G' w' (.slice A (freeF ⟨wa, pa, na, sa⟩ H W).2.2.2.length c) (freeF ⟨wa, pa, na, sa⟩ H W).2.2.2 :=
  (free_call t _ H W wa pa na sa w h.2.1).mono fun _ _ ⟨tv, h1, h2, G', h3, h4, h5, h6⟩ => by
    obtain ⟨A, c, rfl, -, -⟩ := h5.form
    obtain ⟨hv, wv, ht, hF⟩ := h3
    have hs := h.1.size
    refine ⟨A, c, Foot t hv wv, h1, h2, ⟨h.1.mod_new h2 (fun k hk => (h.2.2 k hk).1), ⟨hv, wv, ht, fun k hk => hk⟩, fun k hk => ⟨?_, ?_⟩⟩, fun k hk => h4 k (hF k hk), h5, fun k hk hg => (h6 k hk).2 (hF k hg)⟩
    · rcases h4 k (hF k hk) with hg | hg
      · exact (h.2.2 k hg).1
      · omega
    · rcases hk with rfl | hk | hk
      · exact ht.lt
      · exact ht.held.lt k hk
      · exact ht.waits.lt k hk

theorem meetsB_same {l : Lk} {H : List Lk} (h : ∀ x ∈ H, x.who = l.who) : meetsB l H = false := by
  unfold meetsB
  rw [List.any_eq_false]
  intro x hx
  simp [meetB, h x hx]
/-- One who alone never waits. -/
theorem wait_alone {l : Lk} {H : List Lk} (h : ∀ x ∈ H, x.who = l.who) (hf : H.length < 256) :
    (mayB l = false ∧ waitF l H [] = (false, 2) ∧ waitH l H [] = (H, [])) ∨ (mayB l = true ∧ waitF l H [] = (true, 0) ∧ waitH l H [] = (H ++ [l], [])) := by
  cases hm : mayB l with
  | false =>
    left
    have hc : checkF l H [] = 2 := by simp [checkF, hm]
    exact ⟨rfl, by simp [waitF, hc], by simp [waitH, hc]⟩
  | true =>
    right
    have hc : checkF l H [] = 0 := by simp [checkF, hm]; omega
    have hfr : freeB l H [] = true := by simp [freeB, meetsB_same h]; rfl
    exact ⟨rfl, by simp [waitF, hc, hfr], by simp [waitH, hc, hfr]⟩
end Go.Proofs.Ytpjgfkdnjkfnfaa
