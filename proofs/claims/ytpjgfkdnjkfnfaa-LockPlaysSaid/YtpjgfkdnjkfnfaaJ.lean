/- 'Wait'. -/
import Derived.Test.YtpjgfkdnjkfnfaaI
namespace Go.Proofs.Ytpjgfkdnjkfnfaa
open Go.RowKit Go.Maps

theorem Own.src {w : World} {e size A n c xs} (h : Own w e size (.slice A n c) n xs) : xs.length = n * size ∧ (0 < n → ∃ bd, A = some bd ∧ ∀ j u, xs[j]? = some u → w.cell? (bd.add j) = some u) ∧ (A = none → c = 0) := by
  refine ⟨h.1, fun hn => ?_, fun hA => ?_⟩
  · obtain ⟨A', cap, hv, _, hA⟩ := h.form
    injection hv with h1 _ h3
    subst h1
    obtain ⟨g, off, rfl, hg⟩ := hA hn
    exact ⟨_, rfl, fun j u hu => by rw [add_off]; exact h.cells rfl j u hu⟩
  · subst hA
    rcases h.2 with ⟨hv, _⟩ | ⟨g, off, cap, cur, hv, _⟩
    · injection hv
    · injection hv with h1; cases h1

/-- The waiting list is replaced. -/
theorem Tab.set_waits {w w2 : World} {ty t hv wv H W v' W'} (h : Tab w ty t hv wv H W) (hty : ty ≠ 29) (hm : Ext w w2) (ho : Own w2 29 4 v' W'.length (flat W'))
    (hb : ∀ k, v'.ownBlock = some k → w.heap.size ≤ k) (hok : ∀ l ∈ W', mayB l = true) (hfew : H.length + W'.length ≤ 256) :
    Tab (w2.setCell ⟨t, 1, none⟩ v') ty t hv v' H W' ∧ (∀ k, Foot t hv v' k → Foot t hv wv k ∨ w.heap.size ≤ k) ∧ Mod (Foot t hv wv) w (w2.setCell ⟨t, 1, none⟩ v') := by
  have h2 := h.ext hm
  have hmod : Mod (fun k => k = t) w2 (w2.setCell ⟨t, 1, none⟩ v') := (Mod.refl _ _).setCell _ _ (fun _ => rfl)
  refine ⟨⟨heap_setCell_at h2.blk _, h2.held.mod hmod (fun k hk e => own_ne h2.held h2.blk hty (e ▸ hk)), ho.mod hmod (fun k hk e => own_ne ho h2.blk hty (e ▸ hk)), ?_, h.hok, hok, hfew⟩, ?_, ?_⟩
  · intro k hk hw
    have := hb k hw
    have := h.held.lt k hk
    omega
  · rintro k (rfl | hk | hk)
    · exact .inl (.inl rfl)
    · exact .inl (.inr (.inl hk))
    · exact .inr (hb k hk)
  · refine Mod.trans (S := Foot t hv wv) (hm.mono (fun k _ hk => hk.elim)) hmod ?_
    rintro k _ rfl
    exact .inl rfl

open Classical in
noncomputable def waitF (l : Lk) (H W : List Lk) : Bool × Int :=
  if checkF l H W ≠ 0 then (false, checkF l H W) else if freeB l H W then (true, 0) else if Way H (W ++ [l]) l.who l.who then (false, 151) else (false, 0)
open Classical in
noncomputable def waitH (l : Lk) (H W : List Lk) : List Lk × List Lk :=
  if checkF l H W ≠ 0 then (H, W) else if freeB l H W then (H ++ [l], W) else if Way H (W ++ [l]) l.who l.who then (H, W) else (H, W ++ [l])

set_option maxRecDepth 20000 in
set_option maxHeartbeats 1000000 in
theorem wait_any (t : Nat) (F : Nat → Prop) (H W : List Lk) (wa pa na : Int) (sa : Bool) (w : World) (hT : TabS w 55 t F H W) :
    Calls Try.prog 16 #[.pointer (some ⟨t, 0, none⟩), .agg #[.int .i64 wa, .int .i64 pa, .int .i64 na, .bool sa]] w
      fun e w' => e = .returned (.tuple #[.bool (waitF ⟨wa, pa, na, sa⟩ H W).1, .int .i64 (waitF ⟨wa, pa, na, sa⟩ H W).2]) ∧ TabN w w' 55 t F (waitH ⟨wa, pa, na, sa⟩ H W).1 (waitH ⟨wa, pa, na, sa⟩ H W).2 := by
  have HT := Lib.hid hT
  obtain ⟨hv, wv, ht, hF⟩ := hT
  have e0 : Ext w (w.alloc (.cells #[.int .i64 wa, .int .i64 pa, .int .i64 na, .bool sa] 29)) := (Ext.refl _).alloc _
  have q0 : ∀ wx, Ext (w.alloc (.cells #[.int .i64 wa, .int .i64 pa, .int .i64 na, .bool sa] 29)) wx → wx.cell? ⟨w.heap.size, 0, none⟩ = some (.int .i64 wa) := fun wx h => h.cell_new 0
  have q1 : ∀ wx, Ext (w.alloc (.cells #[.int .i64 wa, .int .i64 pa, .int .i64 na, .bool sa] 29)) wx → wx.cell? ⟨w.heap.size, 1, none⟩ = some (.int .i64 pa) := fun wx h => h.cell_new 1
  have q2 : ∀ wx, Ext (w.alloc (.cells #[.int .i64 wa, .int .i64 pa, .int .i64 na, .bool sa] 29)) wx → wx.cell? ⟨w.heap.size, 2, none⟩ = some (.int .i64 na) := fun wx h => h.cell_new 2
  have q3 : ∀ wx, Ext (w.alloc (.cells #[.int .i64 wa, .int .i64 pa, .int .i64 na, .bool sa] 29)) wx → wx.cell? ⟨w.heap.size, 3, none⟩ = some (.bool sa) := fun wx h => h.cell_new 3
  have qs : ∀ wx, Ext (w.alloc (.cells #[.int .i64 wa, .int .i64 pa, .int .i64 na, .bool sa] 29)) wx → w.heap.size < wx.heap.size := fun wx h => h.lt_new
  have HTab : Hid (∀ wx, Ext (w.alloc (.cells #[.int .i64 wa, .int .i64 pa, .int .i64 na, .bool sa] 29)) wx → Tab wx 55 t hv wv H W) := fun wx h => ht.ext (e0.trans h)
  by_cases hc : checkF ⟨wa, pa, na, sa⟩ H W = 0
  · have Hc := Lib.hid hc
    have Hm : Hid (mayB ⟨wa, pa, na, sa⟩ = true) := by
      show mayB _ = true
      unfold checkF at hc
      cases hm : mayB ⟨wa, pa, na, sa⟩ with
      | true => rfl
      | false => simp [hm] at hc
    obtain ⟨-, -, m3, m4, m5, m6⟩ := (may_iff _).1 Hm.out
    simp only at m3 m4 m5 m6
    have Hfew : Hid (H.length + W.length < 256) := by
      show H.length + W.length < 256
      unfold checkF at hc
      rw [if_neg (by rw [Hm.out]; simp)] at hc
      by_cases h : 256 ≤ H.length + W.length
      · rw [if_pos h] at hc; cases hc
      · omega
    cases hf : freeB ⟨wa, pa, na, sa⟩ H W with
    | true =>
      have Hf := Lib.hid hf
      have HtB : Hid (Tab w 55 t hv wv H W) := ht
      obtain ⟨A, ch, rfl, -, -⟩ := ht.held.form
      have htl := ht.lt
      have hne : (Value.slice A H.length ch).ownBlock ≠ some t := own_ne ht.held ht.blk (by decide)
      have hlt := ht.held.lt
      clear hc ht hf
      go_enter Try.func16, Try.ntmps16
      go_wp2_with (first
        | (go_at_call 26; refine (check_any _ _ _ _ H W _ _ _ _ _ (HTab.out _ (Ext.refl _))).mono ?_; rintro e w1 ⟨rfl, hb1⟩; rw [Hc.out])
        | (go_at_call 27; refine (free_any _ _ _ _ H W _ _ _ _ _ (HTab.out _ hb1) m3 m4 (by omega)).mono ?_; rintro e w2 ⟨rfl, hb2⟩; rw [Hf.out]))
      have e2 := hb1.trans hb2
      have HM : Hid (∀ wx, Mod (fun k => (Value.slice A H.length ch).ownBlock = some k) w2 wx → Mod (fun k => (Value.slice A H.length ch).ownBlock = some k) w wx) := fun wx h => Mod.trans (Mod.mono (e0.trans e2) (fun _ _ f => f.elim)) h (fun _ _ h => h)
      have k0 : ∀ wx, Mod (fun k => (Value.slice A H.length ch).ownBlock = some k) w2 wx → wx.cell? ⟨t, 0, none⟩ = some (.slice A H.length ch) := fun wx h => ((HM.out _ h).cell htl hne).trans HtB.out.cell0
      have kb : ∀ wx i, Mod (fun k => (Value.slice A H.length ch).ownBlock = some k) w2 wx → wx.cell? ⟨w.heap.size, i, none⟩ = w2.cell? ⟨w.heap.size, i, none⟩ := fun wx i h => h.cell (qs _ e2) (fun hk => absurd (hlt _ hk) (Nat.lt_irrefl _))
      have kf : ∀ wx i, Mod (fun k => (Value.slice A H.length ch).ownBlock = some k) w2 wx → wx.frozen? ⟨t, i, none⟩ = false := fun wx i h => ((HM.out _ h).frozen htl hne).trans (HtB.out.frozen i)
      have r0 := q0 _ e2
      have r1 := q1 _ e2
      have r2 := q2 _ e2
      have r3 := q3 _ e2
      clear q0 q1 q2 q3 qs
      refine region_lin (fun wx => Mod (fun k => (Value.slice A H.length ch).ownBlock = some k) w2 wx) 10 [(0, 0), (1, 0), (2, 0), (3, 0), (4, 0), (5, 0), (6, 1), (7, 1), (8, 0), (9, 0), (10, 2)] ?_ (by kernel_rfl) (by kernel_rfl) ?_ (fun _ _ _ _ _ h => h) ((Mod.refl _ _).drew) ?_
      rotate_left
      (simp only [planOps, List.mapM_cons, List.mapM_nil, List.getElem?_toArray, List.getElem?_cons_zero, List.getElem?_cons_succ, Option.map_some, Option.bind_eq_bind, Option.bind_some, Option.pure_def]; rfl)
      intro wd hwd hxd
      repeat (first | (refine lin_take ?_ (by rfl) (fun wx hx => ?_) ?_; rotate_left; go_simp; (with_reducible rfl); try simp only [Act.put, List.setIfInBounds_toArray, List.set_cons_zero, List.set_cons_succ]) | (refine lin_skip (by rfl) ?_; try simp only [Act.put, List.setIfInBounds_toArray, List.set_cons_zero, List.set_cons_succ]) | (refine lin_take3 ?_ (by rfl) (fun wx hx => ?_) ?_; rotate_left; go_simp; (with_reducible rfl); try simp only [Act.put, List.setIfInBounds_toArray, List.set_cons_zero, List.set_cons_succ]))
      refine lin_run (by rfl) (fun K hK => ?_)
      go_simp
      refine hK _ _ (hwd.alloc _) ?_
      refine lin_run (by rfl) (fun K2 hK2 => ?_)
      obtain ⟨i, hi, hz, hs, hby⟩ := info_parts Try.info29
      have ha : Own (wd.alloc (.cells #[.int .i64 wa, .int .i64 pa, .int .i64 na, .bool sa] 29)) 29 4 (.slice A H.length ch) H.length (flat H) := HtB.out.held.ext ((e0.trans (e2.trans hxd)).alloc _)
      refine wp_append_own_any _ (.tmp 21) (.tmp 23) 25 rfl 29 i _ 4 32 Try.underlying25 hi hz hs hby rfl (by decide) (.slice A H.length ch) H.length (flat H) rfl ha (some ⟨wd.heap.size, 0, none⟩) 1 1 (Lk.enc ⟨wa, pa, na, sa⟩) rfl rfl
        (fun _ => ⟨_, rfl, new_cells _ _ _⟩) (flat_one [⟨wa, pa, na, sa⟩]) (by have := Hfew.out; unfold maxLen; omega) (by have := Hfew.out; omega) ?_
      intro v' w3 ho hg hv'
      have hw3 := (hwd.alloc (.cells #[.int .i64 wa, .int .i64 pa, .int .i64 na, .bool sa] 29)).grown hg (fun k hk _ => hk)
      obtain ⟨A', c', rfl, -, -⟩ := ho.form
      refine hK2 _ _ hw3 ?_
      have HO : Hid (Own w3 29 4 (.slice A' (H.length + 1) c') (H.length + 1) (flat H ++ Lk.enc ⟨wa, pa, na, sa⟩)) := ho
      have Hv : Hid ((Value.slice A' (H.length + 1) c').ownBlock = (Value.slice A H.length ch).ownBlock ∨ (Value.slice A' (H.length + 1) c').ownBlock = some (wd.alloc (.cells #[.int .i64 wa, .int .i64 pa, .int .i64 na, .bool sa] 29)).heap.size) := hv'
      clear ho hg hv' ha
      try simp only [Act.put, List.setIfInBounds_toArray, List.set_cons_zero, List.set_cons_succ]
      repeat (first | (refine lin_take ?_ (by rfl) (fun wx hx => ?_) ?_; rotate_left; go_simp; (with_reducible rfl); try simp only [Act.put, List.setIfInBounds_toArray, List.set_cons_zero, List.set_cons_succ]) | (refine lin_skip (by rfl) ?_; try simp only [Act.put, List.setIfInBounds_toArray, List.set_cons_zero, List.set_cons_succ]) | (refine lin_take3 ?_ (by rfl) (fun wx hx => ?_) ?_; rotate_left; go_simp; (with_reducible rfl); try simp only [Act.put, List.setIfInBounds_toArray, List.set_cons_zero, List.set_cons_succ]))
      refine lin_last (by rfl) (fun K3 hK3 => ?_)
      go_simp
      refine hK3 _ _ trivial ?_
      go_wp2_with fail
      go_ret2
      have hr : waitF ⟨wa, pa, na, sa⟩ H W = (true, 0) := by simp [waitF, Hc.out, Hf.out]
      have hh : waitH ⟨wa, pa, na, sa⟩ H W = (H ++ [⟨wa, pa, na, sa⟩], W) := by simp [waitH, Hc.out, Hf.out]
      rw [hr, hh]
      refine ⟨rfl, ?_⟩
      obtain ⟨r1, r2, r3⟩ := HtB.out.set_held (w2 := w3) (v' := .slice A' (H.length + 1) c') (H' := H ++ [⟨wa, pa, na, sa⟩]) (by decide) (HM.out _ hw3)
        (by rw [List.length_append, flat_append]; simpa [flat] using HO.out)
        (fun k hk => by
          rcases Hv.out with h | h
          · exact .inl (h ▸ hk)
          · rw [h] at hk
            injection hk with hk
            have := (e0.trans (e2.trans hxd)).size
            simp at hk
            right; omega)
        (by
          intro l hl
          rcases List.mem_append.1 hl with hl | hl
          · exact HtB.out.hok l hl
          · rw [List.mem_singleton.1 hl]; exact Hm.out)
        (by have := Hfew.out; simp; omega)
      exact ⟨r3.mono (fun k _ hk => hF k hk), _, _, r1, fun k hk => (r2 k hk).imp (hF k) id⟩
    | false =>
      have Hf := Lib.hid hf
      have HtB : Hid (Tab w 55 t hv wv H W) := ht
      obtain ⟨A, ch, rfl, -, -⟩ := ht.held.form
      obtain ⟨C, cw, rfl, hwcap, -⟩ := ht.waits.form
      have htl := ht.lt
      clear hc ht hf
      have hwn : ¬ (cw < W.length) := by omega
      go_enter Try.func16, Try.ntmps16
      go_wp2_with (first
        | (go_at_call 26; refine (check_any _ _ _ _ H W _ _ _ _ _ (HTab.out _ (Ext.refl _))).mono ?_; rintro e w1 ⟨rfl, hb1⟩; rw [Hc.out])
        | (go_at_call 27; refine (free_any _ _ _ _ H W _ _ _ _ _ (HTab.out _ hb1) m3 m4 (by omega)).mono ?_; rintro e w2 ⟨rfl, hb2⟩; rw [Hf.out]))
      have e2 := hb1.trans hb2
      have HM : Hid (∀ wx, Ext w2 wx → Ext w wx) := fun wx h => e0.trans (e2.trans h)
      have k0 : ∀ wx, Ext w2 wx → wx.cell? ⟨t, 0, none⟩ = some (.slice A H.length ch) := fun wx h => ((HM.out _ h).cell htl).trans HtB.out.cell0
      have k1 : ∀ wx, Ext w2 wx → wx.cell? ⟨t, 1, none⟩ = some (.slice C W.length cw) := fun wx h => ((HM.out _ h).cell htl).trans HtB.out.cell1
      have kb : ∀ wx i, Ext w2 wx → wx.cell? ⟨w.heap.size, i, none⟩ = w2.cell? ⟨w.heap.size, i, none⟩ := fun wx i h => h.cell (qs _ e2)
      have kf : ∀ wx i, Ext w2 wx → wx.frozen? ⟨t, i, none⟩ = false := fun wx i h => ((HM.out _ h).frozen htl (fun f => f)).trans (HtB.out.frozen i)
      have r0 := q0 _ e2
      have r1 := q1 _ e2
      have r2 := q2 _ e2
      have r3 := q3 _ e2
      clear q0 q1 q2 q3 qs
      refine region_lin (fun wx => Ext w2 wx) 100000 [(0, 0), (1, 0), (2, 0), (3, 0), (4, 0), (5, 0), (6, 0), (7, 0), (8, 0), (9, 0), (10, 0), (11, 0), (12, 0), (13, 0), (14, 0), (15, 0), (16, 1), (17, 1), (18, 0)] ?_ (by kernel_rfl) (by kernel_rfl) ?_ (fun _ _ _ _ _ h => h) ((Ext.refl _).drew) ?_
      rotate_left
      (simp only [planOps, List.mapM_cons, List.mapM_nil, List.getElem?_toArray, List.getElem?_cons_zero, List.getElem?_cons_succ, Option.map_some, Option.bind_eq_bind, Option.bind_some, Option.pure_def]; rfl)
      intro wd hwd hxd
      repeat (first | (refine lin_take ?_ (by rfl) (fun wx hx => ?_) ?_; rotate_left; go_simp; (with_reducible rfl); try simp only [Act.put, List.setIfInBounds_toArray, List.set_cons_zero, List.set_cons_succ]) | (refine lin_skip (by rfl) ?_; try simp only [Act.put, List.setIfInBounds_toArray, List.set_cons_zero, List.set_cons_succ]) | (refine lin_take3 ?_ (by rfl) (fun wx hx => ?_) ?_; rotate_left; go_simp; (with_reducible rfl); try simp only [Act.put, List.setIfInBounds_toArray, List.set_cons_zero, List.set_cons_succ]))
      refine lin_run (by rfl) (fun K hK => ?_)
      go_simp
      refine hK _ _ (hwd.alloc _) ?_
      refine lin_run (by rfl) (fun K2 hK2 => ?_)
      obtain ⟨i, hi, hz, hs, hby⟩ := info_parts Try.info29
      have ha : Own (wd.alloc (.cells #[.int .i64 wa, .int .i64 pa, .int .i64 na, .bool sa] 29)) 29 4 (.slice C W.length cw) W.length (flat W) := HtB.out.waits.ext ((HM.out _ hwd).alloc _)
      obtain ⟨a1, a2, a3⟩ := ha.src
      refine wp_append_new _ (.tmp 41) (.tmp 43) 25 rfl 29 i _ 4 32 Try.underlying25 hi hz hs hby rfl C W.length W.length (flat W) rfl a1 a2 (fun h => by have := a3 h; omega) (some ⟨wd.heap.size, 0, none⟩) 1 1 (Lk.enc ⟨wa, pa, na, sa⟩) rfl rfl (by decide)
        ⟨_, rfl, new_cells _ _ _⟩ (by omega) (by have := Hfew.out; unfold maxLen; omega) (by have := Hfew.out; omega) ?_
      intro v' w3 ho hg hv'
      have hw3 : Ext w2 w3 := (hwd.alloc _).trans hg
      obtain ⟨A', c', rfl, hcw, -⟩ := ho.form
      refine hK2 _ _ hw3 ?_
      have HO : Hid (Own w3 29 4 (.slice A' (W.length + 1) c') (W.length + 1) (flat W ++ Lk.enc ⟨wa, pa, na, sa⟩)) := ho
      have Hv : Hid ((Value.slice A' (W.length + 1) c').ownBlock = some (wd.alloc (.cells #[.int .i64 wa, .int .i64 pa, .int .i64 na, .bool sa] 29)).heap.size) := hv'
      have HOf : Hid (Own w3 29 4 (.slice A' (W.length + 1) c') (W ++ [(⟨wa, pa, na, sa⟩ : Lk)]).length (flat (W ++ [⟨wa, pa, na, sa⟩]))) := by
        show Own _ _ _ _ _ _
        rw [List.length_append, flat_append]
        simpa [flat] using ho
      have Hok : Hid (∀ l ∈ W ++ [(⟨wa, pa, na, sa⟩ : Lk)], mayB l = true) := by
        intro l hl
        rcases List.mem_append.1 hl with hl | hl
        · exact HtB.out.wok l hl
        · rw [List.mem_singleton.1 hl]; exact Hm.out
      have Hsz : Hid (∀ k, (Value.slice A' (W.length + 1) c').ownBlock = some k → w.heap.size ≤ k) := by
        intro k hk
        rw [Hv.out] at hk
        injection hk with hk
        have := (HM.out _ hwd).size
        simp at hk
        omega
      clear ho hg hv' ha a1 a2 a3 kb hwd hxd
      try simp only [Act.put, List.setIfInBounds_toArray, List.set_cons_zero, List.set_cons_succ]
      repeat (first | (refine lin_take ?_ (by rfl) (fun wx hx => ?_) ?_; rotate_left; go_simp; (with_reducible rfl); try simp only [Act.put, List.setIfInBounds_toArray, List.set_cons_zero, List.set_cons_succ]) | (refine lin_skip (by rfl) ?_; try simp only [Act.put, List.setIfInBounds_toArray, List.set_cons_zero, List.set_cons_succ]) | (refine lin_take3 ?_ (by rfl) (fun wx hx => ?_) ?_; rotate_left; go_simp; (with_reducible rfl); try simp only [Act.put, List.setIfInBounds_toArray, List.set_cons_zero, List.set_cons_succ]))
      refine lin_nil ?_
      have hck := circle_any t A' (W.length + 1) c' (W ++ [⟨wa, pa, na, sa⟩]) A H.length ch H ⟨wa, pa, na, sa⟩ w3 (k0 _ hw3) (LkSl.of_own (by have h := HOf.out; rw [List.length_append] at h; exact h)) (LkSl.of_own (HtB.out.held.ext (HM.out _ hw3))) HtB.out.hok Hok.out (by have := Hfew.out; omega) (by have := Hfew.out; omega) hcw (by simp) (by omega)
      have Hck := Lib.hid hck
      clear hck
      go_wp2_with (go_at_call 28; refine Hck.out.mono ?_; rintro e w4 ⟨r, rfl, hr, hx4⟩; have Hr4 := Lib.hid hr; clear hr; cases r; have k4 := k1 _ (hw3.trans hx4); have f4 := kf _ 1 (hw3.trans hx4))
      · go_ret2
        have hno : ¬ Way H (W ++ [⟨wa, pa, na, sa⟩]) wa wa := fun h => by have := Hr4.out.2 h; cases this
        have hr : waitF ⟨wa, pa, na, sa⟩ H W = (false, 0) := by simp [waitF, Hc.out, Hf.out, hno]
        have hh : waitH ⟨wa, pa, na, sa⟩ H W = (H, W ++ [⟨wa, pa, na, sa⟩]) := by simp [waitH, Hc.out, Hf.out, hno]
        rw [hr, hh]
        refine ⟨rfl, ?_⟩
        obtain ⟨r1, r2, r3⟩ := HtB.out.set_waits (w2 := w4) (v' := .slice A' (W.length + 1) c') (W' := W ++ [⟨wa, pa, na, sa⟩]) (by decide) (HM.out _ (hw3.trans hx4)) (HOf.out.ext hx4) Hsz.out Hok.out (by have := Hfew.out; simp; omega)
        exact ⟨r3.mono (fun k _ hk => hF k hk), _, _, r1, fun k hk => (r2 k hk).imp (hF k) id⟩
      · go_ret2
        have hyes : Way H (W ++ [⟨wa, pa, na, sa⟩]) wa wa := Hr4.out.1 trivial
        have hr : waitF ⟨wa, pa, na, sa⟩ H W = (false, 151) := by simp [waitF, Hc.out, Hf.out, hyes]
        have hh : waitH ⟨wa, pa, na, sa⟩ H W = (H, W) := by simp [waitH, Hc.out, Hf.out, hyes]
        rw [hr, hh]
        exact ⟨rfl, TabN.same HT.out (HM.out _ (hw3.trans hx4))⟩
  · have Hc : Hid ((checkF ⟨wa, pa, na, sa⟩ H W != 0) = true) := by show (_ != _) = true; simpa using hc
    have Hr : Hid (waitF ⟨wa, pa, na, sa⟩ H W = (false, checkF ⟨wa, pa, na, sa⟩ H W)) := by show _ = _; simp [waitF, hc]
    have Hh : Hid (waitH ⟨wa, pa, na, sa⟩ H W = (H, W)) := by show _ = _; simp [waitH, hc]
    obtain ⟨c, hce⟩ : ∃ c, checkF ⟨wa, pa, na, sa⟩ H W = c := ⟨_, rfl⟩
    rw [hce] at Hc Hr hc
    have Hce := Lib.hid hce
    clear ht hce hc
    have hc := Hc.out
    go_enter Try.func16, Try.ntmps16
    go_wp2_with (go_at_call 26; refine (check_any _ _ _ _ H W _ _ _ _ _ (HTab.out _ (Ext.refl _))).mono ?_; rintro e w1 ⟨rfl, hb1⟩; rw [Hce.out])
    go_ret2
    rw [Hr.out, Hh.out]
    refine ⟨rfl, ?_⟩
    exact TabN.same HT.out (e0.trans hb1)
end Go.Proofs.Ytpjgfkdnjkfnfaa
