/- 'on': those that wait go on. -/
import Derived.Test.YtpjgfkdnjkfnfaaJ
namespace Go.Proofs.Ytpjgfkdnjkfnfaa
open Go.RowKit Go.Maps

def onStep (s : List Lk × List Lk × List Lk) (l : Lk) : List Lk × List Lk × List Lk :=
  if meetsB l s.1 || meetsB l s.2.1 then (s.1, s.2.1 ++ [l], s.2.2) else (s.1 ++ [l], s.2.1, s.2.2 ++ [l])
def onF (H W : List Lk) : List Lk × List Lk × List Lk := W.foldl onStep (H, [], [])

theorem onF_len (W : List Lk) : ∀ s : List Lk × List Lk × List Lk, (W.foldl onStep s).1.length + (W.foldl onStep s).2.1.length = s.1.length + s.2.1.length + W.length ∧ (W.foldl onStep s).2.2.length + (W.foldl onStep s).2.1.length = s.2.2.length + s.2.1.length + W.length := by
  induction W with
  | nil => intro s; simp
  | cons x W ih =>
    intro s
    obtain ⟨i1, i2⟩ := ih (onStep s x)
    simp only [List.foldl_cons, List.length_cons]
    rw [i1, i2]
    unfold onStep
    split <;> simp <;> omega
theorem onF_mem (W : List Lk) : ∀ s : List Lk × List Lk × List Lk, ∀ l, (l ∈ (W.foldl onStep s).1 ∨ l ∈ (W.foldl onStep s).2.1 ∨ l ∈ (W.foldl onStep s).2.2) → (l ∈ s.1 ∨ l ∈ s.2.1 ∨ l ∈ s.2.2 ∨ l ∈ W) := by
  induction W with
  | nil => intro s l h; simpa [or_assoc] using h
  | cons x W ih =>
    intro s l h
    have h2 := ih (onStep s x) l h
    unfold onStep at h2
    split at h2 <;> simp at h2 ⊢ <;> grind
theorem onF_take {H W : List Lk} {k : Nat} {x : Lk} (hx : W[k]? = some x) : (W.take (k + 1)).foldl onStep (H, [], []) = onStep ((W.take k).foldl onStep (H, [], [])) x := by
  have hlt : k < W.length := (List.getElem?_eq_some_iff.1 hx).1
  have he : W[k] = x := (List.getElem?_eq_some_iff.1 hx).2
  rw [List.take_succ_eq_append_getElem hlt, List.foldl_append, he]
  rfl

/-- 'on' under way. -/
structure OnI (ty : TypeId) (w wr : World) (t : Nat) (hv wv hk sv tv : Value) (Hk Sk Tk : List Lk) : Prop where
  mod : Mod (fun k => k = t ∨ hv.ownBlock = some k) w wr
  blk : wr.heap[t]? = some (.cells #[hk, wv] ty (0, 0))
  ho : Own wr 29 4 hk Hk.length (flat Hk)
  so : Own wr 29 4 sv Sk.length (flat Sk)
  to : Own wr 29 4 tv Tk.length (flat Tk)
  hb : ∀ k, hk.ownBlock = some k → hv.ownBlock = some k ∨ w.heap.size ≤ k
  sb : ∀ k, sv.ownBlock = some k → w.heap.size ≤ k
  tb : ∀ k, tv.ownBlock = some k → w.heap.size ≤ k
  hs : ∀ k, hk.ownBlock = some k → sv.ownBlock ≠ some k
  ht : ∀ k, hk.ownBlock = some k → tv.ownBlock ≠ some k
  st : ∀ k, sv.ownBlock = some k → tv.ownBlock ≠ some k
  hok : ∀ l ∈ Hk, mayB l = true
  sok : ∀ l ∈ Sk, mayB l = true
theorem OnI.ext {ty w wr wr' t hv wv hk sv tv Hk Sk Tk} (h : OnI ty w wr t hv wv hk sv tv Hk Sk Tk) (he : Ext wr wr') : OnI ty w wr' t hv wv hk sv tv Hk Sk Tk :=
  ⟨h.mod.then_ he, by rw [he.block t (Array.getElem?_eq_some_iff.1 h.blk).1 (fun f => f)]; exact h.blk, h.ho.ext he, h.so.ext he, h.to.ext he, h.hb, h.sb, h.tb, h.hs, h.ht, h.st, h.hok, h.sok⟩
theorem OnI.lt {ty w wr t hv wv hk sv tv Hk Sk Tk} (h : OnI ty w wr t hv wv hk sv tv Hk Sk Tk) : t < wr.heap.size := (Array.getElem?_eq_some_iff.1 h.blk).1
theorem OnI.cell0 {ty w wr t hv wv hk sv tv Hk Sk Tk} (h : OnI ty w wr t hv wv hk sv tv Hk Sk Tk) : wr.cell? ⟨t, 0, none⟩ = some hk := cell_of_row wr t 0 _ ty (0, 0) h.blk
theorem OnI.cell1 {ty w wr t hv wv hk sv tv Hk Sk Tk} (h : OnI ty w wr t hv wv hk sv tv Hk Sk Tk) : wr.cell? ⟨t, 1, none⟩ = some wv := cell_of_row wr t 1 _ ty (0, 0) h.blk
theorem OnI.frozen {ty w wr t hv wv hk sv tv Hk Sk Tk} (h : OnI ty w wr t hv wv hk sv tv Hk Sk Tk) (i : Nat) : wr.frozen? ⟨t, i, none⟩ = false := by
  unfold World.frozen?
  rw [h.blk]
  simp
theorem flat_snoc {w : World} {v : Value} {L : List Lk} {l : Lk} (h : Own w 29 4 v (L.length + 1) (flat L ++ Lk.enc l)) : Own w 29 4 v (L ++ [l]).length (flat (L ++ [l])) := by
  rw [List.length_append, flat_append]
  simpa [flat] using h
theorem ok_snoc {L : List Lk} {l : Lk} (h : ∀ x ∈ L, mayB x = true) (hl : mayB l = true) : ∀ x ∈ L ++ [l], mayB x = true := by
  intro x hx
  rcases List.mem_append.1 hx with hx | hx
  · exact h x hx
  · rw [List.mem_singleton.1 hx]; exact hl
theorem OnI.still {ty w wr w3 t hv wv hk sv tv Hk Sk Tk sv' l} (h : OnI ty w wr t hv wv hk sv tv Hk Sk Tk) (hty : ty ≠ 29) (hw : w.heap.size ≤ wr.heap.size) (ho : Own w3 29 4 sv' (Sk.length + 1) (flat Sk ++ Lk.enc l)) (hg : wr.grownBy w3 sv.ownBlock)
    (hv' : sv'.ownBlock = sv.ownBlock ∨ sv'.ownBlock = some wr.heap.size) (hl : mayB l = true) : OnI ty w w3 t hv wv hk sv' tv Hk (Sk ++ [l]) Tk := by
  have hm : Mod (fun k => sv.ownBlock = some k) wr w3 := (Mod.refl _ _).grown hg (fun k h _ => h)
  have hb : ∀ k, sv'.ownBlock = some k → sv.ownBlock = some k ∨ k = wr.heap.size := fun k hk => by
    rcases hv' with e | e
    · exact .inl (e ▸ hk)
    · rw [e] at hk; injection hk with hk; exact .inr hk.symm
  have htl := h.lt
  have hne := own_ne h.so h.blk hty
  refine ⟨h.mod.trans hm (fun i hi hk => by have := h.sb i hk; omega), ?_, h.ho.mod hm (fun k hk hs => h.hs k hk hs), flat_snoc ho, h.to.mod hm (fun k hk hs => h.st k hs hk), h.hb, ?_, h.tb, ?_, h.ht, ?_, h.hok, ok_snoc h.sok hl⟩
  · rw [hm.block t htl hne]; exact h.blk
  · intro k hk
    rcases hb k hk with hk | hk
    · exact h.sb k hk
    · omega
  · intro k hk hs
    rcases hb k hs with hs | hs
    · exact h.hs k hk hs
    · have := h.ho.lt k hk; omega
  · intro k hk ht
    rcases hb k hk with hk | hk
    · exact h.st k hk ht
    · have := h.to.lt k ht; omega
theorem OnI.told {ty w wr w3 t hv wv hk sv tv Hk Sk Tk tv' l} (h : OnI ty w wr t hv wv hk sv tv Hk Sk Tk) (hty : ty ≠ 29) (hw : w.heap.size ≤ wr.heap.size) (ho : Own w3 29 4 tv' (Tk.length + 1) (flat Tk ++ Lk.enc l)) (hg : wr.grownBy w3 tv.ownBlock)
    (hv' : tv'.ownBlock = tv.ownBlock ∨ tv'.ownBlock = some wr.heap.size) : OnI ty w w3 t hv wv hk sv tv' Hk Sk (Tk ++ [l]) := by
  have hm : Mod (fun k => tv.ownBlock = some k) wr w3 := (Mod.refl _ _).grown hg (fun k h _ => h)
  have hb : ∀ k, tv'.ownBlock = some k → tv.ownBlock = some k ∨ k = wr.heap.size := fun k hk => by
    rcases hv' with e | e
    · exact .inl (e ▸ hk)
    · rw [e] at hk; injection hk with hk; exact .inr hk.symm
  have htl := h.lt
  have hne := own_ne h.to h.blk hty
  refine ⟨h.mod.trans hm (fun i hi hk => by have := h.tb i hk; omega), ?_, h.ho.mod hm (fun k hk hs => h.ht k hk hs), h.so.mod hm (fun k hk hs => h.st k hk hs), flat_snoc ho, h.hb, h.sb, ?_, h.hs, ?_, ?_, h.hok, h.sok⟩
  · rw [hm.block t htl hne]; exact h.blk
  · intro k hk
    rcases hb k hk with hk | hk
    · exact h.tb k hk
    · omega
  · intro k hk hs
    rcases hb k hs with hs | hs
    · exact h.ht k hk hs
    · have := h.ho.lt k hk; omega
  · intro k hk ht
    rcases hb k ht with ht | ht
    · exact h.st k hk ht
    · have := h.so.lt k hk; omega
theorem OnI.held {ty w wr w3 t hv wv hk sv tv Hk Sk Tk hk' l} (h : OnI ty w wr t hv wv hk sv tv Hk Sk Tk) (hty : ty ≠ 29) (hw : w.heap.size ≤ wr.heap.size) (ho : Own w3 29 4 hk' (Hk.length + 1) (flat Hk ++ Lk.enc l)) (hg : wr.grownBy w3 hk.ownBlock)
    (hv' : hk'.ownBlock = hk.ownBlock ∨ hk'.ownBlock = some wr.heap.size) (hl : mayB l = true) : OnI ty w (w3.setCell ⟨t, 0, none⟩ hk') t hv wv hk' sv tv (Hk ++ [l]) Sk Tk := by
  have hm : Mod (fun k => hk.ownBlock = some k) wr w3 := (Mod.refl _ _).grown hg (fun k h _ => h)
  have hb : ∀ k, hk'.ownBlock = some k → hk.ownBlock = some k ∨ k = wr.heap.size := fun k hk => by
    rcases hv' with e | e
    · exact .inl (e ▸ hk)
    · rw [e] at hk; injection hk with hk; exact .inr hk.symm
  have htl := h.lt
  have hne := own_ne h.ho h.blk hty
  have hblk : w3.heap[t]? = some (.cells #[hk, wv] ty (0, 0)) := by rw [hm.block t htl hne]; exact h.blk
  have hmod : Mod (fun k => k = t) w3 (w3.setCell ⟨t, 0, none⟩ hk') := (Mod.refl _ _).setCell _ _ (fun _ => rfl)
  have hs3 : Own w3 29 4 sv Sk.length (flat Sk) := h.so.mod hm (fun k hk hs => h.hs k hs hk)
  have ht3 : Own w3 29 4 tv Tk.length (flat Tk) := h.to.mod hm (fun k hk hs => h.ht k hs hk)
  refine ⟨(h.mod.trans hm ?_).trans hmod (fun i _ e => .inl e), heap_setCell_at hblk _, flat_snoc (ho.mod hmod (fun k hk e => own_ne ho hblk hty (e ▸ hk))), hs3.mod hmod (fun k hk e => own_ne hs3 hblk hty (e ▸ hk)), ht3.mod hmod (fun k hk e => own_ne ht3 hblk hty (e ▸ hk)), ?_, h.sb, h.tb, ?_, ?_, h.st, ok_snoc h.hok hl, h.sok⟩
  · intro i hi hk
    rcases h.hb i hk with e | e
    · exact .inr e
    · omega
  · intro k hk
    rcases hb k hk with hk | hk
    · exact h.hb k hk
    · right; omega
  · intro k hk hs
    rcases hb k hk with hk | hk
    · exact h.hs k hk hs
    · have := h.so.lt k hs; omega
  · intro k hk hs
    rcases hb k hk with hk | hk
    · exact h.ht k hk hs
    · have := h.to.lt k hs; omega

/-- What a call that tells a list comes to. -/
def TabR (w w' : World) (ty : TypeId) (t : Nat) (F : Nat → Prop) (H W : List Lk) (tv : Value) (told : List Lk) : Prop :=
  Mod F w w' ∧ ∃ G, TabS w' ty t G H W ∧ (∀ k, G k → F k ∨ w.heap.size ≤ k) ∧ Own w' 29 4 tv told.length (flat told) ∧ ∀ k, tv.ownBlock = some k → w.heap.size ≤ k ∧ ¬ G k

/-- The end: what still waits becomes what waits. -/
theorem OnI.done {ty w wr t hv wv hk sv tv Hk Sk Tk F} (h : OnI ty w wr t hv wv hk sv tv Hk Sk Tk) (hty : ty ≠ 29) (hF : ∀ k, Foot t hv wv k → F k) (hfew : Hk.length + Sk.length ≤ 256) (htw : t < w.heap.size) :
    TabR w (wr.setCell ⟨t, 1, none⟩ sv) ty t F Hk Sk tv Tk := by
  have hmod : Mod (fun k => k = t) wr (wr.setCell ⟨t, 1, none⟩ sv) := (Mod.refl _ _).setCell _ _ (fun _ => rfl)
  refine ⟨?_, Foot t hk sv, ⟨hk, sv, ⟨heap_setCell_at h.blk _, h.ho.mod hmod (fun k hk e => own_ne h.ho h.blk hty (e ▸ hk)), h.so.mod hmod (fun k hk e => own_ne h.so h.blk hty (e ▸ hk)), h.hs, h.hok, h.sok, hfew⟩, fun _ h => h⟩, ?_, h.to.mod hmod (fun k hk e => own_ne h.to h.blk hty (e ▸ hk)), ?_⟩
  · refine Mod.trans (S := F) (h.mod.mono ?_) hmod ?_
    · rintro i _ (e | e)
      · exact hF i (.inl e)
      · exact hF i (.inr (.inl e))
    · rintro i _ e
      exact hF i (.inl e)
  · rintro k (e | e | e)
    · exact .inl (hF k (.inl e))
    · exact (h.hb k e).imp (fun h => hF k (.inr (.inl h))) id
    · exact .inr (h.sb k e)
  · intro k hk
    refine ⟨h.tb k hk, ?_⟩
    rintro (e | e | e)
    · have := h.tb k hk; omega
    · exact h.ht k e hk
    · exact h.st k e hk
end Go.Proofs.Ytpjgfkdnjkfnfaa
