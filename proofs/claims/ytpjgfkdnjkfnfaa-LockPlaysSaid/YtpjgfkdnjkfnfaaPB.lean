/- The document's table: Try. -/
import Derived.Test.YtpjgfkdnjkfnfaaPA
namespace Go.Proofs.Ytpjgfkdnjkfnfaa
open Go.RowKit Go.Maps

theorem check_zero {l : Lk} {H W : List Lk} (h : checkF l H W = 0) : mayB l = true ∧ H.length + W.length < 256 := by
  unfold checkF at h
  cases hm : mayB l with
  | false => simp [hm] at h
  | true =>
    rw [if_neg (by rw [hm]; simp)] at h
    by_cases h2 : 256 ≤ H.length + W.length
    · rw [if_pos h2] at h; cases h
    · exact ⟨rfl, by omega⟩

set_option maxRecDepth 20000 in
set_option maxHeartbeats 1000000 in
theorem reftry_any (t : Nat) (F : Nat → Prop) (H W : List Lk) (wa pa na : Int) (sa : Bool) (w : World) (hT : TabS w 49 t F H W) :
    Calls Try.prog 20 #[.pointer (some ⟨t, 0, none⟩), .agg #[.int .i64 wa, .int .i64 pa, .int .i64 na, .bool sa]] w
      fun e w' => e = .returned (.int .i64 (tryF ⟨wa, pa, na, sa⟩ H W)) ∧ TabN w w' 49 t F (tryH ⟨wa, pa, na, sa⟩ H W) W := by
  have HT := Lib.hid hT
  obtain ⟨hv, wv, ht, hF⟩ := hT
  have e0 : Ext w (w.alloc (.cells #[.int .i64 wa, .int .i64 pa, .int .i64 na, .bool sa] 29)) := (Ext.refl _).alloc _
  have q0 : ∀ wx, Ext (w.alloc (.cells #[.int .i64 wa, .int .i64 pa, .int .i64 na, .bool sa] 29)) wx → wx.cell? ⟨w.heap.size, 0, none⟩ = some (.int .i64 wa) := fun wx h => h.cell_new 0
  have q1 : ∀ wx, Ext (w.alloc (.cells #[.int .i64 wa, .int .i64 pa, .int .i64 na, .bool sa] 29)) wx → wx.cell? ⟨w.heap.size, 1, none⟩ = some (.int .i64 pa) := fun wx h => h.cell_new 1
  have q2 : ∀ wx, Ext (w.alloc (.cells #[.int .i64 wa, .int .i64 pa, .int .i64 na, .bool sa] 29)) wx → wx.cell? ⟨w.heap.size, 2, none⟩ = some (.int .i64 na) := fun wx h => h.cell_new 2
  have q3 : ∀ wx, Ext (w.alloc (.cells #[.int .i64 wa, .int .i64 pa, .int .i64 na, .bool sa] 29)) wx → wx.cell? ⟨w.heap.size, 3, none⟩ = some (.bool sa) := fun wx h => h.cell_new 3
  have qs : ∀ wx, Ext (w.alloc (.cells #[.int .i64 wa, .int .i64 pa, .int .i64 na, .bool sa] 29)) wx → w.heap.size < wx.heap.size := fun wx h => h.lt_new
  have HTab : Hid (∀ wx, Ext (w.alloc (.cells #[.int .i64 wa, .int .i64 pa, .int .i64 na, .bool sa] 29)) wx → Tab wx 49 t hv wv H W) := fun wx h => ht.ext (e0.trans h)
  by_cases hc : checkF ⟨wa, pa, na, sa⟩ H W = 0
  · have Hc := Lib.hid hc
    obtain ⟨hm, hfew⟩ := check_zero hc
    have Hm := Lib.hid hm
    have Hfew := Lib.hid hfew
    obtain ⟨-, -, m3, m4, m5, m6⟩ := (may_iff _).1 Hm.out
    simp only at m3 m4 m5 m6
    obtain ⟨A, ch, rfl, -, -⟩ := ht.held.form
    obtain ⟨C, cw, rfl, -, -⟩ := ht.waits.form
    have HtB : Hid (Tab w 49 t (.slice A H.length ch) (.slice C W.length cw) H W) := ht
    have k0 : ∀ wx, Ext (w.alloc (.cells #[.int .i64 wa, .int .i64 pa, .int .i64 na, .bool sa] 29)) wx → wx.cell? ⟨t, 0, none⟩ = some (.slice A H.length ch) := fun wx h => (HTab.out wx h).cell0
    have k1 : ∀ wx, Ext (w.alloc (.cells #[.int .i64 wa, .int .i64 pa, .int .i64 na, .bool sa] 29)) wx → wx.cell? ⟨t, 1, none⟩ = some (.slice C W.length cw) := fun wx h => (HTab.out wx h).cell1
    have htl := ht.lt
    have hne : (Value.slice A H.length ch).ownBlock ≠ some t := own_ne ht.held ht.blk (by decide)
    have hlt := ht.held.lt
    have HF := Lib.hid hF
    clear hc ht hm hfew hF
    go_enter Try.func20, Try.ntmps20
    go_wp2_with (go_at_call 31; refine (refused_any _ _ _ _ H W _ _ _ _ _ (HTab.out _ (Ext.refl _))).mono ?_; rintro e w1 ⟨rfl, hb1⟩; rw [Hc.out])
    have q0' : ∀ wx, Ext w1 wx → wx.cell? ⟨w.heap.size, 0, none⟩ = some (.int .i64 wa) := fun wx h => q0 wx (hb1.trans h)
    have q1' : ∀ wx, Ext w1 wx → wx.cell? ⟨w.heap.size, 1, none⟩ = some (.int .i64 pa) := fun wx h => q1 wx (hb1.trans h)
    have q2' : ∀ wx, Ext w1 wx → wx.cell? ⟨w.heap.size, 2, none⟩ = some (.int .i64 na) := fun wx h => q2 wx (hb1.trans h)
    have q3' : ∀ wx, Ext w1 wx → wx.cell? ⟨w.heap.size, 3, none⟩ = some (.bool sa) := fun wx h => q3 wx (hb1.trans h)
    have k0' : ∀ wx, Ext w1 wx → wx.cell? ⟨t, 0, none⟩ = some (.slice A H.length ch) := fun wx h => k0 wx (hb1.trans h)
    have k1' : ∀ wx, Ext w1 wx → wx.cell? ⟨t, 1, none⟩ = some (.slice C W.length cw) := fun wx h => k1 wx (hb1.trans h)
    clear k0 k1
    cases hf1 : meetsB ⟨wa, pa, na, sa⟩ H with
    | true =>
      have hf : freeB ⟨wa, pa, na, sa⟩ H W = false := by simp [freeB, hf1]
      have hr : tryF ⟨wa, pa, na, sa⟩ H W = 150 := by simp [tryF, Hc.out, hf]
      refine region_lin (fun wx => Ext w1 wx) 100000 [(0, 0), (1, 3), (2, 3), (3, 3), (4, 0), (5, 1), (6, 3), (7, 0), (8, 0), (9, 0), (10, 0), (11, 0), (12, 1), (13, 3)] ?_ (by kernel_rfl) (by kernel_rfl) ?_ (fun _ _ _ _ _ h => h) ((Ext.refl _).drew) ?_
      rotate_left
      (simp only [planOps, List.mapM_cons, List.mapM_nil, List.getElem?_toArray, List.getElem?_cons_zero, List.getElem?_cons_succ, Option.map_some, Option.bind_eq_bind, Option.bind_some, Option.pure_def]; rfl)
      intro wd hwd hxd
      clear hxd
      repeat (first | (refine lin_take ?_ (by rfl) (fun wx hx => ?_) ?_; rotate_left; go_simp; (with_reducible rfl); try simp only [Act.put, List.setIfInBounds_toArray, List.set_cons_zero, List.set_cons_succ]) | (refine lin_skip (by rfl) ?_; try simp only [Act.put, List.setIfInBounds_toArray, List.set_cons_zero, List.set_cons_succ]) | (refine lin_take3 ?_ (by rfl) (fun wx hx => ?_) ?_; rotate_left; go_simp; (with_reducible rfl); try simp only [Act.put, List.setIfInBounds_toArray, List.set_cons_zero, List.set_cons_succ]))
      refine lin_run (by rfl) (fun K hK => ?_)
      go_simp
      refine (refmeets_any _ _ _ _ _ _ _ H _ m3 m4 (by omega) (by have := Hfew.out; omega) (LkSl.of_own (HTab.out _ (hb1.trans hwd)).held) (HTab.out _ (hb1.trans hwd)).hok).mono ?_
      rintro e w2 ⟨rfl, hb2⟩
      refine hK _ _ (hwd.trans hb2) ?_
      rw [hf1]
      try simp only [Act.put, List.setIfInBounds_toArray, List.set_cons_zero, List.set_cons_succ]
      repeat (first | (refine lin_take ?_ (by rfl) (fun wx hx => ?_) ?_; rotate_left; go_simp; (with_reducible rfl); try simp only [Act.put, List.setIfInBounds_toArray, List.set_cons_zero, List.set_cons_succ]) | (refine lin_skip (by rfl) ?_; try simp only [Act.put, List.setIfInBounds_toArray, List.set_cons_zero, List.set_cons_succ]) | (refine lin_take3 ?_ (by rfl) (fun wx hx => ?_) ?_; rotate_left; go_simp; (with_reducible rfl); try simp only [Act.put, List.setIfInBounds_toArray, List.set_cons_zero, List.set_cons_succ]))
      refine lin_pass (by rfl) (hwd.trans hb2) ?_
      try simp only [Act.put, List.setIfInBounds_toArray, List.set_cons_zero, List.set_cons_succ]
      repeat (first | (refine lin_take ?_ (by rfl) (fun wx hx => ?_) ?_; rotate_left; go_simp; (with_reducible rfl); try simp only [Act.put, List.setIfInBounds_toArray, List.set_cons_zero, List.set_cons_succ]) | (refine lin_skip (by rfl) ?_; try simp only [Act.put, List.setIfInBounds_toArray, List.set_cons_zero, List.set_cons_succ]) | (refine lin_take3 ?_ (by rfl) (fun wx hx => ?_) ?_; rotate_left; go_simp; (with_reducible rfl); try simp only [Act.put, List.setIfInBounds_toArray, List.set_cons_zero, List.set_cons_succ]))
      refine lin_nil ?_
      have e5 := hb1.trans (hwd.trans hb2)
      clear hwd hb2
      go_wp2_with fail
      go_ret
      refine ⟨ret_int hr.symm, ?_⟩
      rw [show tryH ⟨wa, pa, na, sa⟩ H W = H from by simp [tryH, hr]]
      exact TabN.same HT.out (e0.trans e5)
    | false =>
      cases hf2 : meetsB ⟨wa, pa, na, sa⟩ W with
      | true =>
        have hf : freeB ⟨wa, pa, na, sa⟩ H W = false := by simp [freeB, hf2]
        have hr : tryF ⟨wa, pa, na, sa⟩ H W = 150 := by simp [tryF, Hc.out, hf]
        refine region_lin (fun wx => Ext w1 wx) 100000 [(0, 0), (1, 3), (2, 3), (3, 3), (4, 0), (5, 1), (6, 3), (7, 0), (8, 0), (9, 0), (10, 0), (11, 0), (12, 1), (13, 3)] ?_ (by kernel_rfl) (by kernel_rfl) ?_ (fun _ _ _ _ _ h => h) ((Ext.refl _).drew) ?_
        rotate_left
        (simp only [planOps, List.mapM_cons, List.mapM_nil, List.getElem?_toArray, List.getElem?_cons_zero, List.getElem?_cons_succ, Option.map_some, Option.bind_eq_bind, Option.bind_some, Option.pure_def]; rfl)
        intro wd hwd hxd
        clear hxd
        repeat (first | (refine lin_take ?_ (by rfl) (fun wx hx => ?_) ?_; rotate_left; go_simp; (with_reducible rfl); try simp only [Act.put, List.setIfInBounds_toArray, List.set_cons_zero, List.set_cons_succ]) | (refine lin_skip (by rfl) ?_; try simp only [Act.put, List.setIfInBounds_toArray, List.set_cons_zero, List.set_cons_succ]) | (refine lin_take3 ?_ (by rfl) (fun wx hx => ?_) ?_; rotate_left; go_simp; (with_reducible rfl); try simp only [Act.put, List.setIfInBounds_toArray, List.set_cons_zero, List.set_cons_succ]))
        refine lin_run (by rfl) (fun K hK => ?_)
        go_simp
        refine (refmeets_any _ _ _ _ _ _ _ H _ m3 m4 (by omega) (by have := Hfew.out; omega) (LkSl.of_own (HTab.out _ (hb1.trans hwd)).held) (HTab.out _ (hb1.trans hwd)).hok).mono ?_
        rintro e w2 ⟨rfl, hb2⟩
        refine hK _ _ (hwd.trans hb2) ?_
        rw [hf1]
        try simp only [Act.put, List.setIfInBounds_toArray, List.set_cons_zero, List.set_cons_succ]
        repeat (first | (refine lin_take ?_ (by rfl) (fun wx hx => ?_) ?_; rotate_left; go_simp; (with_reducible rfl); try simp only [Act.put, List.setIfInBounds_toArray, List.set_cons_zero, List.set_cons_succ]) | (refine lin_skip (by rfl) ?_; try simp only [Act.put, List.setIfInBounds_toArray, List.set_cons_zero, List.set_cons_succ]) | (refine lin_take3 ?_ (by rfl) (fun wx hx => ?_) ?_; rotate_left; go_simp; (with_reducible rfl); try simp only [Act.put, List.setIfInBounds_toArray, List.set_cons_zero, List.set_cons_succ]))
        refine lin_run (by rfl) (fun K hK => ?_)
        go_simp
        refine (refmeets_any _ _ _ _ _ _ _ W _ m3 m4 (by omega) (by have := Hfew.out; omega) (LkSl.of_own (HTab.out _ (hb1.trans (hwd.trans hb2))).waits) (HTab.out _ (hb1.trans (hwd.trans hb2))).wok).mono ?_
        rintro e w3 ⟨rfl, hb3⟩
        refine hK _ _ ((hwd.trans hb2).trans hb3) ?_
        rw [hf2]
        try simp only [Act.put, List.setIfInBounds_toArray, List.set_cons_zero, List.set_cons_succ]
        repeat (first | (refine lin_take ?_ (by rfl) (fun wx hx => ?_) ?_; rotate_left; go_simp; (with_reducible rfl); try simp only [Act.put, List.setIfInBounds_toArray, List.set_cons_zero, List.set_cons_succ]) | (refine lin_skip (by rfl) ?_; try simp only [Act.put, List.setIfInBounds_toArray, List.set_cons_zero, List.set_cons_succ]) | (refine lin_take3 ?_ (by rfl) (fun wx hx => ?_) ?_; rotate_left; go_simp; (with_reducible rfl); try simp only [Act.put, List.setIfInBounds_toArray, List.set_cons_zero, List.set_cons_succ]))
        refine lin_nil ?_
        have e5 := hb1.trans ((hwd.trans hb2).trans hb3)
        clear hwd hb2 hb3
        go_wp2_with fail
        go_ret
        refine ⟨ret_int hr.symm, ?_⟩
        rw [show tryH ⟨wa, pa, na, sa⟩ H W = H from by simp [tryH, hr]]
        exact TabN.same HT.out (e0.trans e5)
      | false =>
        have hf : freeB ⟨wa, pa, na, sa⟩ H W = true := by simp [freeB, hf1, hf2]
        have hr : tryF ⟨wa, pa, na, sa⟩ H W = 0 := by simp [tryF, Hc.out, hf]
        have hh : tryH ⟨wa, pa, na, sa⟩ H W = H ++ [⟨wa, pa, na, sa⟩] := by simp [tryH, hr]
        refine region_lin (fun wx => Ext w1 wx) 100000 [(0, 0), (1, 3), (2, 3), (3, 3), (4, 0), (5, 1), (6, 3), (7, 0), (8, 0), (9, 0), (10, 0), (11, 0), (12, 1), (13, 3)] ?_ (by kernel_rfl) (by kernel_rfl) ?_ (fun _ _ _ _ _ h => h) ((Ext.refl _).drew) ?_
        rotate_left
        (simp only [planOps, List.mapM_cons, List.mapM_nil, List.getElem?_toArray, List.getElem?_cons_zero, List.getElem?_cons_succ, Option.map_some, Option.bind_eq_bind, Option.bind_some, Option.pure_def]; rfl)
        intro wd hwd hxd
        clear hxd
        repeat (first | (refine lin_take ?_ (by rfl) (fun wx hx => ?_) ?_; rotate_left; go_simp; (with_reducible rfl); try simp only [Act.put, List.setIfInBounds_toArray, List.set_cons_zero, List.set_cons_succ]) | (refine lin_skip (by rfl) ?_; try simp only [Act.put, List.setIfInBounds_toArray, List.set_cons_zero, List.set_cons_succ]) | (refine lin_take3 ?_ (by rfl) (fun wx hx => ?_) ?_; rotate_left; go_simp; (with_reducible rfl); try simp only [Act.put, List.setIfInBounds_toArray, List.set_cons_zero, List.set_cons_succ]))
        refine lin_run (by rfl) (fun K hK => ?_)
        go_simp
        refine (refmeets_any _ _ _ _ _ _ _ H _ m3 m4 (by omega) (by have := Hfew.out; omega) (LkSl.of_own (HTab.out _ (hb1.trans hwd)).held) (HTab.out _ (hb1.trans hwd)).hok).mono ?_
        rintro e w2 ⟨rfl, hb2⟩
        refine hK _ _ (hwd.trans hb2) ?_
        rw [hf1]
        try simp only [Act.put, List.setIfInBounds_toArray, List.set_cons_zero, List.set_cons_succ]
        repeat (first | (refine lin_take ?_ (by rfl) (fun wx hx => ?_) ?_; rotate_left; go_simp; (with_reducible rfl); try simp only [Act.put, List.setIfInBounds_toArray, List.set_cons_zero, List.set_cons_succ]) | (refine lin_skip (by rfl) ?_; try simp only [Act.put, List.setIfInBounds_toArray, List.set_cons_zero, List.set_cons_succ]) | (refine lin_take3 ?_ (by rfl) (fun wx hx => ?_) ?_; rotate_left; go_simp; (with_reducible rfl); try simp only [Act.put, List.setIfInBounds_toArray, List.set_cons_zero, List.set_cons_succ]))
        refine lin_run (by rfl) (fun K hK => ?_)
        go_simp
        refine (refmeets_any _ _ _ _ _ _ _ W _ m3 m4 (by omega) (by have := Hfew.out; omega) (LkSl.of_own (HTab.out _ (hb1.trans (hwd.trans hb2))).waits) (HTab.out _ (hb1.trans (hwd.trans hb2))).wok).mono ?_
        rintro e w3 ⟨rfl, hb3⟩
        refine hK _ _ ((hwd.trans hb2).trans hb3) ?_
        rw [hf2]
        try simp only [Act.put, List.setIfInBounds_toArray, List.set_cons_zero, List.set_cons_succ]
        repeat (first | (refine lin_take ?_ (by rfl) (fun wx hx => ?_) ?_; rotate_left; go_simp; (with_reducible rfl); try simp only [Act.put, List.setIfInBounds_toArray, List.set_cons_zero, List.set_cons_succ]) | (refine lin_skip (by rfl) ?_; try simp only [Act.put, List.setIfInBounds_toArray, List.set_cons_zero, List.set_cons_succ]) | (refine lin_take3 ?_ (by rfl) (fun wx hx => ?_) ?_; rotate_left; go_simp; (with_reducible rfl); try simp only [Act.put, List.setIfInBounds_toArray, List.set_cons_zero, List.set_cons_succ]))
        refine lin_nil ?_
        have e5 := hb1.trans ((hwd.trans hb2).trans hb3)
        clear hwd hb2 hb3
        have HM : Hid (∀ wx, Mod (fun k => (Value.slice A H.length ch).ownBlock = some k) w3 wx → Mod (fun k => (Value.slice A H.length ch).ownBlock = some k) w wx) := fun wx h => Mod.trans (Mod.mono (e0.trans e5) (fun _ _ f => f.elim)) h (fun _ _ h => h)
        have k0 : ∀ wx, Mod (fun k => (Value.slice A H.length ch).ownBlock = some k) w3 wx → wx.cell? ⟨t, 0, none⟩ = some (.slice A H.length ch) := fun wx h => ((HM.out _ h).cell htl hne).trans HtB.out.cell0
        have kb : ∀ wx i, Mod (fun k => (Value.slice A H.length ch).ownBlock = some k) w3 wx → wx.cell? ⟨w.heap.size, i, none⟩ = w3.cell? ⟨w.heap.size, i, none⟩ := fun wx i h => h.cell (qs _ e5) (fun hk => absurd (hlt _ hk) (Nat.lt_irrefl _))
        have kf : ∀ wx i, Mod (fun k => (Value.slice A H.length ch).ownBlock = some k) w3 wx → wx.frozen? ⟨t, i, none⟩ = false := fun wx i h => ((HM.out _ h).frozen htl hne).trans (HtB.out.frozen i)
        have r0 := q0 _ e5
        have r1 := q1 _ e5
        have r2 := q2 _ e5
        have r3 := q3 _ e5
        clear q0 q1 q2 q3 qs q0' q1' q2' q3' k0' k1' hf1 hf2 hf
        go_wp2_with fail
        refine region_lin (fun wx => Mod (fun k => (Value.slice A H.length ch).ownBlock = some k) w3 wx) 10 [(0, 3), (1, 3), (2, 3), (3, 3), (4, 0), (5, 0), (6, 1), (7, 1), (8, 3), (9, 3), (10, 2)] ?_ (by kernel_rfl) (by kernel_rfl) ?_ (fun _ _ _ _ _ h => h) ((Mod.refl _ _).drew) ?_
        rotate_left
        (simp only [planOps, List.mapM_cons, List.mapM_nil, List.getElem?_toArray, List.getElem?_cons_zero, List.getElem?_cons_succ, Option.map_some, Option.bind_eq_bind, Option.bind_some, Option.pure_def]; rfl)
        intro wd hwd hxd
        repeat (first | (refine lin_take ?_ (by rfl) (fun wx hx => ?_) ?_; rotate_left; go_simp; (with_reducible rfl); try simp only [Act.put, List.setIfInBounds_toArray, List.set_cons_zero, List.set_cons_succ]) | (refine lin_skip (by rfl) ?_; try simp only [Act.put, List.setIfInBounds_toArray, List.set_cons_zero, List.set_cons_succ]) | (refine lin_take3 ?_ (by rfl) (fun wx hx => ?_) ?_; rotate_left; go_simp; (with_reducible rfl); try simp only [Act.put, List.setIfInBounds_toArray, List.set_cons_zero, List.set_cons_succ]))
        refine lin_run (by rfl) (fun K hK => ?_)
        go_simp
        refine hK _ _ (hwd.alloc _) ?_
        refine lin_run (by rfl) (fun K2 hK2 => ?_)
        obtain ⟨i, hi, hz, hs, hby⟩ := info_parts Try.info29
        have ha : Own (wd.alloc (.cells #[.int .i64 wa, .int .i64 pa, .int .i64 na, .bool sa] 29)) 29 4 (.slice A H.length ch) H.length (flat H) := HtB.out.held.ext ((e0.trans (e5.trans hxd)).alloc _)
        refine wp_append_own_any _ (.tmp 30) (.tmp 32) 25 rfl 29 i _ 4 32 Try.underlying25 hi hz hs hby rfl (by decide) (.slice A H.length ch) H.length (flat H) rfl ha (some ⟨wd.heap.size, 0, none⟩) 1 1 (Lk.enc ⟨wa, pa, na, sa⟩) rfl rfl
          (fun _ => ⟨_, rfl, new_cells _ _ _⟩) (flat_one [⟨wa, pa, na, sa⟩]) (by have := Hfew.out; unfold maxLen; omega) (by have := Hfew.out; omega) ?_
        intro v' w4 ho hg hv'
        have hw3 := (hwd.alloc (.cells #[.int .i64 wa, .int .i64 pa, .int .i64 na, .bool sa] 29)).grown hg (fun k hk _ => hk)
        obtain ⟨A', c', rfl, -, -⟩ := ho.form
        refine hK2 _ _ hw3 ?_
        have HO : Hid (Own w4 29 4 (.slice A' (H.length + 1) c') (H.length + 1) (flat H ++ Lk.enc ⟨wa, pa, na, sa⟩)) := ho
        have Hv : Hid ((Value.slice A' (H.length + 1) c').ownBlock = (Value.slice A H.length ch).ownBlock ∨ (Value.slice A' (H.length + 1) c').ownBlock = some (wd.alloc (.cells #[.int .i64 wa, .int .i64 pa, .int .i64 na, .bool sa] 29)).heap.size) := hv'
        clear ho hg hv' ha
        try simp only [Act.put, List.setIfInBounds_toArray, List.set_cons_zero, List.set_cons_succ]
        repeat (first | (refine lin_take ?_ (by rfl) (fun wx hx => ?_) ?_; rotate_left; go_simp; (with_reducible rfl); try simp only [Act.put, List.setIfInBounds_toArray, List.set_cons_zero, List.set_cons_succ]) | (refine lin_skip (by rfl) ?_; try simp only [Act.put, List.setIfInBounds_toArray, List.set_cons_zero, List.set_cons_succ]) | (refine lin_take3 ?_ (by rfl) (fun wx hx => ?_) ?_; rotate_left; go_simp; (with_reducible rfl); try simp only [Act.put, List.setIfInBounds_toArray, List.set_cons_zero, List.set_cons_succ]))
        refine lin_last (by rfl) (fun K3 hK3 => ?_)
        go_simp
        refine hK3 _ _ trivial ?_
        go_wp2_with fail
        go_ret
        refine ⟨ret_int hr.symm, ?_⟩
        rw [hh]
        obtain ⟨r1, r2, r3⟩ := HtB.out.set_held (w2 := w4) (v' := .slice A' (H.length + 1) c') (H' := H ++ [⟨wa, pa, na, sa⟩]) (by decide) (HM.out _ hw3)
          (by rw [List.length_append, flat_append]; simpa [flat] using HO.out)
          (fun k hk => by
            rcases Hv.out with h | h
            · exact .inl (h ▸ hk)
            · rw [h] at hk
              injection hk with hk
              have := (e0.trans (e5.trans hxd)).size
              simp at hk
              right; omega)
          (by
            intro l hl
            rcases List.mem_append.1 hl with hl | hl
            · exact HtB.out.hok l hl
            · rw [List.mem_singleton.1 hl]; exact Hm.out)
          (by have := Hfew.out; simp; omega)
        exact ⟨r3.mono (fun k _ hk => HF.out k hk), _, _, r1, fun k hk => (r2 k hk).imp (HF.out k) id⟩
  · have Hc : Hid ((checkF ⟨wa, pa, na, sa⟩ H W != 0) = true) := by show (_ != _) = true; simpa using hc
    have Hr : Hid (tryF ⟨wa, pa, na, sa⟩ H W = checkF ⟨wa, pa, na, sa⟩ H W) := by show _ = _; simp [tryF, hc]
    have Hh : Hid (tryH ⟨wa, pa, na, sa⟩ H W = H) := by show _ = _; simp [tryH, Hr.out, hc]
    obtain ⟨c, hce⟩ : ∃ c, checkF ⟨wa, pa, na, sa⟩ H W = c := ⟨_, rfl⟩
    rw [hce] at Hc Hr hc
    have Hce := Lib.hid hce
    clear ht hce hc
    have hc := Hc.out
    go_enter Try.func20, Try.ntmps20
    go_wp2_with (go_at_call 31; refine (refused_any _ _ _ _ H W _ _ _ _ _ (HTab.out _ (Ext.refl _))).mono ?_; rintro e w1 ⟨rfl, hb1⟩; rw [Hce.out])
    go_ret
    refine ⟨ret_int Hr.out.symm, ?_⟩
    rw [Hh.out]
    exact TabN.same HT.out (e0.trans hb1)
end Go.Proofs.Ytpjgfkdnjkfnfaa
