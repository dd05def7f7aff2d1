/- Tables of locks that change; the contracts of New, Try. -/
import Derived.Test.YtpjgfkdnjkfnfaaB
namespace Go.Proofs.Ytpjgfkdnjkfnfaa
open Go.RowKit

theorem Try.info29 : (Try.prog.info? 29).map (fun i => (i.zero, i.size, i.bytes)) = some (some (.agg #[.int .i64 0, .int .i64 0, .int .i64 0, .bool false]), 4, 32) := by kernel_rfl

/-- A table whose blocks lie in F. -/
def TabS (w : World) (ty : TypeId) (t : Nat) (F : Nat → Prop) (H W : List Lk) : Prop := ∃ hv wv, Tab w ty t hv wv H W ∧ ∀ k, Foot t hv wv k → F k
/-- What a call on a table comes to: nothing but the table's blocks has turned; the table holds H, W. -/
def TabN (w w' : World) (ty : TypeId) (t : Nat) (F : Nat → Prop) (H W : List Lk) : Prop := Mod F w w' ∧ TabS w' ty t (fun k => F k ∨ w.heap.size ≤ k) H W

theorem TabS.ext {w w' ty t F H W} (h : TabS w ty t F H W) (he : Ext w w') : TabS w' ty t F H W := by
  obtain ⟨hv, wv, ht, hF⟩ := h
  exact ⟨hv, wv, ht.ext he, hF⟩
theorem TabS.mono {w ty t F G H W} (h : TabS w ty t F H W) (hg : ∀ k, F k → G k) : TabS w ty t G H W := by
  obtain ⟨hv, wv, ht, hF⟩ := h
  exact ⟨hv, wv, ht, fun k hk => hg k (hF k hk)⟩
theorem TabN.same {w w' ty t F H W} (h : TabS w ty t F H W) (he : Ext w w') : TabN w w' ty t F H W :=
  ⟨Mod.mono he (fun _ _ f => f.elim), (h.ext he).mono (fun _ h => .inl h)⟩

theorem own_ne {w : World} {e size v n xs t} {cs : Array Value} {ty : TypeId} {fz : Nat × Nat} (h : Own w e size v n xs) (hb : w.heap[t]? = some (.cells cs ty fz)) (hne : ty ≠ e) : v.ownBlock ≠ some t := by
  rcases h.2 with ⟨rfl, _⟩ | ⟨g, off, cap, cur, rfl, hg, _⟩
  · simp [Value.ownBlock]
  · intro he
    have : g = t := by simpa [Value.ownBlock] using he
    subst this
    rw [hg] at hb
    injection hb with hb
    injection hb with _ hty
    exact hne hty.symm

theorem heap_setCell_at {w : World} {t i : Nat} {cs : Array Value} {ty : TypeId} {fz : Nat × Nat} (hb : w.heap[t]? = some (.cells cs ty fz)) (u : Value) : (w.setCell ⟨t, i, none⟩ u).heap[t]? = some (.cells (cs.setIfInBounds i u) ty fz) := by
  simp [World.setCell, Array.getElem?_modify, hb]

/-- The cells of the block that was just made. -/
theorem new_cells (w : World) (l : List Value) (e : TypeId) : ∀ j u, l[j]? = some u → (w.alloc (.cells l.toArray e)).cell? ((⟨w.heap.size, 0, none⟩ : Addr).add j) = some u := by
  intro j u h
  rw [add_off, Nat.zero_add, cell_of_row _ _ j _ e (0, 0) (heap_alloc_new w _)]
  simpa using h

/-- The held list is replaced. -/
theorem Tab.set_held {w w2 : World} {ty t hv wv H W v' H'} (h : Tab w ty t hv wv H W) (hty : ty ≠ 29) (hm : Mod (fun k => hv.ownBlock = some k) w w2) (ho : Own w2 29 4 v' H'.length (flat H'))
    (hb : ∀ k, v'.ownBlock = some k → hv.ownBlock = some k ∨ w.heap.size ≤ k) (hok : ∀ l ∈ H', mayB l = true) (hfew : H'.length + W.length ≤ 256) :
    Tab (w2.setCell ⟨t, 0, none⟩ v') ty t v' wv H' W ∧ (∀ k, Foot t v' wv k → Foot t hv wv k ∨ w.heap.size ≤ k) ∧ Mod (Foot t hv wv) w (w2.setCell ⟨t, 0, none⟩ v') := by
  have htl := h.lt
  have hblk : w2.heap[t]? = some (.cells #[hv, wv] ty (0, 0)) := by
    rw [hm.block t htl (own_ne h.held h.blk hty)]; exact h.blk
  have hmod : Mod (fun k => k = t) w2 (w2.setCell ⟨t, 0, none⟩ v') := (Mod.refl _ _).setCell _ _ (fun _ => rfl)
  refine ⟨⟨heap_setCell_at hblk _, ho.mod hmod (fun k hk e => own_ne ho hblk hty (e ▸ hk)), (h.waits.mod hm (fun k hk hh => h.apart k hh hk)).mod hmod (fun k hk e => own_ne h.waits h.blk hty (e ▸ hk)), ?_, hok, h.wok, hfew⟩, ?_, ?_⟩
  · intro k hk hw
    rcases hb k hk with hh | hge
    · exact h.apart k hh hw
    · have := h.waits.lt k hw; omega
  · rintro k (rfl | hk | hk)
    · exact .inl (.inl rfl)
    · exact (hb k hk).imp (fun h => .inr (.inl h)) id
    · exact .inl (.inr (.inr hk))
  · refine Mod.trans (hm.mono (fun k _ hk => .inr (.inl hk))) hmod ?_
    rintro k _ rfl
    exact .inl rfl

def tryF (l : Lk) (H W : List Lk) : Int := if checkF l H W ≠ 0 then checkF l H W else if freeB l H W then 0 else 150
def tryH (l : Lk) (H W : List Lk) : List Lk := if tryF l H W = 0 then H ++ [l] else H

theorem try_any (t : Nat) (F : Nat → Prop) (H W : List Lk) (wa pa na : Int) (sa : Bool) (w : World) (hT : TabS w 55 t F H W) :
    Calls Try.prog 17 #[.pointer (some ⟨t, 0, none⟩), .agg #[.int .i64 wa, .int .i64 pa, .int .i64 na, .bool sa]] w
      fun e w' => e = .returned (.int .i64 (tryF ⟨wa, pa, na, sa⟩ H W)) ∧ TabN w w' 55 t F (tryH ⟨wa, pa, na, sa⟩ H W) W := by
  have HT := Lib.hid hT
  obtain ⟨hv, wv, ht, hF⟩ := hT
  have e0 : Ext w (w.alloc (.cells #[.int .i64 wa, .int .i64 pa, .int .i64 na, .bool sa] 29)) := (Ext.refl _).alloc _
  have q0 : ∀ wx, Ext (w.alloc (.cells #[.int .i64 wa, .int .i64 pa, .int .i64 na, .bool sa] 29)) wx → wx.cell? ⟨w.heap.size, 0, none⟩ = some (.int .i64 wa) := fun wx h => h.cell_new 0
  have q1 : ∀ wx, Ext (w.alloc (.cells #[.int .i64 wa, .int .i64 pa, .int .i64 na, .bool sa] 29)) wx → wx.cell? ⟨w.heap.size, 1, none⟩ = some (.int .i64 pa) := fun wx h => h.cell_new 1
  have q2 : ∀ wx, Ext (w.alloc (.cells #[.int .i64 wa, .int .i64 pa, .int .i64 na, .bool sa] 29)) wx → wx.cell? ⟨w.heap.size, 2, none⟩ = some (.int .i64 na) := fun wx h => h.cell_new 2
  have q3 : ∀ wx, Ext (w.alloc (.cells #[.int .i64 wa, .int .i64 pa, .int .i64 na, .bool sa] 29)) wx → wx.cell? ⟨w.heap.size, 3, none⟩ = some (.bool sa) := fun wx h => h.cell_new 3
  have qs : ∀ wx, Ext (w.alloc (.cells #[.int .i64 wa, .int .i64 pa, .int .i64 na, .bool sa] 29)) wx → w.heap.size < wx.heap.size := fun wx h => h.lt_new
  have HTab : Hid (∀ wx, Ext (w.alloc (.cells #[.int .i64 wa, .int .i64 pa, .int .i64 na, .bool sa] 29)) wx → Tab wx 55 t hv wv H W) := fun wx h => ht.ext (e0.trans h)
  by_cases hc : checkF ⟨wa, pa, na, sa⟩ H W = 0
  · have Hc := Lib.hid hc
    have Hm : Hid (mayB ⟨wa, pa, na, sa⟩ = true) := by
      show mayB _ = true
      unfold checkF at hc
      cases hm : mayB ⟨wa, pa, na, sa⟩ with
      | true => rfl
      | false => simp [hm] at hc
    obtain ⟨-, -, m3, m4, m5, m6⟩ := (may_iff _).1 Hm.out
    simp only at m3 m4 m5 m6
    have Hfew : Hid (H.length + W.length < 256) := by
      show H.length + W.length < 256
      unfold checkF at hc
      rw [if_neg (by rw [Hm.out]; simp)] at hc
      by_cases h : 256 ≤ H.length + W.length
      · rw [if_pos h] at hc; cases hc
      · omega
    cases hf : freeB ⟨wa, pa, na, sa⟩ H W with
    | false =>
      have Hf := Lib.hid hf
      clear hc ht hf
      go_enter Try.func17, Try.ntmps17
      go_wp2_with (first
        | (go_at_call 26; refine (check_any _ _ _ _ H W _ _ _ _ _ (HTab.out _ (Ext.refl _))).mono ?_; rintro e w1 ⟨rfl, hb1⟩; rw [Hc.out])
        | (go_at_call 27; refine (free_any _ _ _ _ H W _ _ _ _ _ (HTab.out _ hb1) m3 m4 (by omega)).mono ?_; rintro e w2 ⟨rfl, hb2⟩; rw [Hf.out]))
      go_ret
      have hr : tryF ⟨wa, pa, na, sa⟩ H W = 150 := by simp [tryF, Hc.out, Hf.out]
      refine ⟨ret_int hr.symm, ?_⟩
      rw [show tryH ⟨wa, pa, na, sa⟩ H W = H from by simp [tryH, hr]]
      exact TabN.same HT.out (e0.trans (hb1.trans hb2))
    | true =>
      have Hf := Lib.hid hf
      have HtB : Hid (Tab w 55 t hv wv H W) := ht
      obtain ⟨A, ch, rfl, -, -⟩ := ht.held.form
      have htl := ht.lt
      have hne : (Value.slice A H.length ch).ownBlock ≠ some t := own_ne ht.held ht.blk (by decide)
      have hlt := ht.held.lt
      clear hc ht hf
      go_enter Try.func17, Try.ntmps17
      go_wp2_with (first
        | (go_at_call 26; refine (check_any _ _ _ _ H W _ _ _ _ _ (HTab.out _ (Ext.refl _))).mono ?_; rintro e w1 ⟨rfl, hb1⟩; rw [Hc.out])
        | (go_at_call 27; refine (free_any _ _ _ _ H W _ _ _ _ _ (HTab.out _ hb1) m3 m4 (by omega)).mono ?_; rintro e w2 ⟨rfl, hb2⟩; rw [Hf.out]))
      have e2 := hb1.trans hb2
      have HM : Hid (∀ wx, Mod (fun k => (Value.slice A H.length ch).ownBlock = some k) w2 wx → Mod (fun k => (Value.slice A H.length ch).ownBlock = some k) w wx) := fun wx h => Mod.trans (Mod.mono (e0.trans e2) (fun _ _ f => f.elim)) h (fun _ _ h => h)
      have k0 : ∀ wx, Mod (fun k => (Value.slice A H.length ch).ownBlock = some k) w2 wx → wx.cell? ⟨t, 0, none⟩ = some (.slice A H.length ch) := fun wx h => ((HM.out _ h).cell htl hne).trans HtB.out.cell0
      have kb : ∀ wx i, Mod (fun k => (Value.slice A H.length ch).ownBlock = some k) w2 wx → wx.cell? ⟨w.heap.size, i, none⟩ = w2.cell? ⟨w.heap.size, i, none⟩ := fun wx i h => h.cell (qs _ e2) (fun hk => absurd (hlt _ hk) (Nat.lt_irrefl _))
      have kf : ∀ wx i, Mod (fun k => (Value.slice A H.length ch).ownBlock = some k) w2 wx → wx.frozen? ⟨t, i, none⟩ = false := fun wx i h => ((HM.out _ h).frozen htl hne).trans (HtB.out.frozen i)
      have r0 := q0 _ e2
      have r1 := q1 _ e2
      have r2 := q2 _ e2
      have r3 := q3 _ e2
      clear q0 q1 q2 q3 qs
      refine region_lin (fun wx => Mod (fun k => (Value.slice A H.length ch).ownBlock = some k) w2 wx) 10 [(0, 0), (1, 0), (2, 0), (3, 0), (4, 0), (5, 0), (6, 1), (7, 1), (8, 0), (9, 0), (10, 2)] ?_ (by kernel_rfl) (by kernel_rfl) ?_ (fun _ _ _ _ _ h => h) ((Mod.refl _ _).drew) ?_
      rotate_left
      (simp only [planOps, List.mapM_cons, List.mapM_nil, List.getElem?_toArray, List.getElem?_cons_zero, List.getElem?_cons_succ, Option.map_some, Option.bind_eq_bind, Option.bind_some, Option.pure_def]; rfl)
      intro wd hwd hxd
      repeat (first | (refine lin_take ?_ (by rfl) (fun wx hx => ?_) ?_; rotate_left; go_simp; (with_reducible rfl); try simp only [Act.put, List.setIfInBounds_toArray, List.set_cons_zero, List.set_cons_succ]) | (refine lin_skip (by rfl) ?_; try simp only [Act.put, List.setIfInBounds_toArray, List.set_cons_zero, List.set_cons_succ]) | (refine lin_take3 ?_ (by rfl) (fun wx hx => ?_) ?_; rotate_left; go_simp; (with_reducible rfl); try simp only [Act.put, List.setIfInBounds_toArray, List.set_cons_zero, List.set_cons_succ]))
      refine lin_run (by rfl) (fun K hK => ?_)
      go_simp
      refine hK _ _ (hwd.alloc _) ?_
      refine lin_run (by rfl) (fun K2 hK2 => ?_)
      obtain ⟨i, hi, hz, hs, hby⟩ := info_parts Try.info29
      have ha : Own (wd.alloc (.cells #[.int .i64 wa, .int .i64 pa, .int .i64 na, .bool sa] 29)) 29 4 (.slice A H.length ch) H.length (flat H) := HtB.out.held.ext ((e0.trans (e2.trans hxd)).alloc _)
      refine wp_append_own_any _ (.tmp 20) (.tmp 22) 25 rfl 29 i _ 4 32 Try.underlying25 hi hz hs hby rfl (by decide) (.slice A H.length ch) H.length (flat H) rfl ha (some ⟨wd.heap.size, 0, none⟩) 1 1 (Lk.enc ⟨wa, pa, na, sa⟩) rfl rfl
        (fun _ => ⟨_, rfl, new_cells _ _ _⟩) (flat_one [⟨wa, pa, na, sa⟩]) (by have := Hfew.out; unfold maxLen; omega) (by have := Hfew.out; omega) ?_
      intro v' w3 ho hg hv'
      have hw3 := (hwd.alloc (.cells #[.int .i64 wa, .int .i64 pa, .int .i64 na, .bool sa] 29)).grown hg (fun k hk _ => hk)
      obtain ⟨A', c', rfl, -, -⟩ := ho.form
      refine hK2 _ _ hw3 ?_
      have HO : Hid (Own w3 29 4 (.slice A' (H.length + 1) c') (H.length + 1) (flat H ++ Lk.enc ⟨wa, pa, na, sa⟩)) := ho
      have Hv : Hid ((Value.slice A' (H.length + 1) c').ownBlock = (Value.slice A H.length ch).ownBlock ∨ (Value.slice A' (H.length + 1) c').ownBlock = some (wd.alloc (.cells #[.int .i64 wa, .int .i64 pa, .int .i64 na, .bool sa] 29)).heap.size) := hv'
      clear ho hg hv' ha
      try simp only [Act.put, List.setIfInBounds_toArray, List.set_cons_zero, List.set_cons_succ]
      repeat (first | (refine lin_take ?_ (by rfl) (fun wx hx => ?_) ?_; rotate_left; go_simp; (with_reducible rfl); try simp only [Act.put, List.setIfInBounds_toArray, List.set_cons_zero, List.set_cons_succ]) | (refine lin_skip (by rfl) ?_; try simp only [Act.put, List.setIfInBounds_toArray, List.set_cons_zero, List.set_cons_succ]) | (refine lin_take3 ?_ (by rfl) (fun wx hx => ?_) ?_; rotate_left; go_simp; (with_reducible rfl); try simp only [Act.put, List.setIfInBounds_toArray, List.set_cons_zero, List.set_cons_succ]))
      refine lin_last (by rfl) (fun K3 hK3 => ?_)
      go_simp
      refine hK3 _ _ trivial ?_
      go_wp2_with fail
      go_ret
      have hr : tryF ⟨wa, pa, na, sa⟩ H W = 0 := by simp [tryF, Hc.out, Hf.out]
      have hh : tryH ⟨wa, pa, na, sa⟩ H W = H ++ [⟨wa, pa, na, sa⟩] := by simp [tryH, hr]
      refine ⟨ret_int hr.symm, ?_⟩
      rw [hh]
      obtain ⟨r1, r2, r3⟩ := HtB.out.set_held (w2 := w3) (v' := .slice A' (H.length + 1) c') (H' := H ++ [⟨wa, pa, na, sa⟩]) (by decide) (HM.out _ hw3)
        (by rw [List.length_append, flat_append]; simpa [flat] using HO.out)
        (fun k hk => by
          rcases Hv.out with h | h
          · exact .inl (h ▸ hk)
          · rw [h] at hk
            injection hk with hk
            have := (e0.trans (e2.trans hxd)).size
            simp at hk
            right; omega)
        (by
          intro l hl
          rcases List.mem_append.1 hl with hl | hl
          · exact HtB.out.hok l hl
          · rw [List.mem_singleton.1 hl]; exact Hm.out)
        (by have := Hfew.out; simp; omega)
      exact ⟨r3.mono (fun k _ hk => hF k hk), _, _, r1, fun k hk => (r2 k hk).imp (hF k) id⟩
  · have Hc : Hid ((checkF ⟨wa, pa, na, sa⟩ H W != 0) = true) := by show (_ != _) = true; simpa using hc
    have Hr : Hid (tryF ⟨wa, pa, na, sa⟩ H W = checkF ⟨wa, pa, na, sa⟩ H W) := by show _ = _; simp [tryF, hc]
    have Hh : Hid (tryH ⟨wa, pa, na, sa⟩ H W = H) := by show _ = _; simp [tryH, Hr.out, hc]
    obtain ⟨c, hce⟩ : ∃ c, checkF ⟨wa, pa, na, sa⟩ H W = c := ⟨_, rfl⟩
    rw [hce] at Hc Hr hc
    have Hce := Lib.hid hce
    clear ht hce hc
    have hc := Hc.out
    go_enter Try.func17, Try.ntmps17
    go_wp2_with (go_at_call 26; refine (check_any _ _ _ _ H W _ _ _ _ _ (HTab.out _ (Ext.refl _))).mono ?_; rintro e w1 ⟨rfl, hb1⟩; rw [Hce.out])
    go_ret
    refine ⟨ret_int Hr.out.symm, ?_⟩
    rw [Hh.out]
    exact TabN.same HT.out (e0.trans hb1)
end Go.Proofs.Ytpjgfkdnjkfnfaa
