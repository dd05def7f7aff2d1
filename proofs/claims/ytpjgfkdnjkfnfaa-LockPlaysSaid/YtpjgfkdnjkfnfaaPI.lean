/- The document's table: Wait. -/
import Derived.Test.YtpjgfkdnjkfnfaaPH
import Derived.Test.YtpjgfkdnjkfnfaaU
import Derived.Test.YtpjgfkdnjkfnfaaKA
namespace Go.Proofs.Ytpjgfkdnjkfnfaa
open Go.RowKit Go.Maps

theorem circ_iff {H W : List Lk} {l : Lk} (hac : ∀ a, ¬ Way H W a a) : (∃ a, Way H (W ++ [l]) a a) ↔ Way H (W ++ [l]) l.who l.who := by
  constructor
  · rintro ⟨a, hw⟩
    rcases way_new hw with h1 | ⟨h1, h2⟩
    · exact absurd h1 (hac a)
    · rcases h1 with h1 | h1
      · exact h1 ▸ h2
      · exact h2.trans h1
  · exact fun h => ⟨_, h⟩

def WaitPost (ty : TypeId) (t : Nat) (F : Nat → Prop) (l : Lk) (H W : List Lk) (w : World) (e : Ending) (w' : World) : Prop :=
  e = .returned (.tuple #[.bool (waitF l H W).1, .int .i64 (waitF l H W).2]) ∧ TabN w w' ty t F (waitH l H W).1 (waitH l H W).2

set_option maxRecDepth 20000 in
set_option maxHeartbeats 4000000 in
theorem refwait_any (t : Nat) (F : Nat → Prop) (H W : List Lk) (wa pa na : Int) (sa : Bool) (w : World) (hT : TabS w 49 t F H W) (hac : ∀ a, ¬ Way H W a a) :
    Calls Try.prog 21 #[.pointer (some ⟨t, 0, none⟩), .agg #[.int .i64 wa, .int .i64 pa, .int .i64 na, .bool sa]] w (WaitPost 49 t F ⟨wa, pa, na, sa⟩ H W w) := by
  have HT := Lib.hid hT
  have Hac := Lib.hid hac
  obtain ⟨hv, wv, ht, hF⟩ := hT
  have e0 : Ext w (w.alloc (.cells #[.int .i64 wa, .int .i64 pa, .int .i64 na, .bool sa] 29)) := (Ext.refl _).alloc _
  have q0 : ∀ wx, Ext (w.alloc (.cells #[.int .i64 wa, .int .i64 pa, .int .i64 na, .bool sa] 29)) wx → wx.cell? ⟨w.heap.size, 0, none⟩ = some (.int .i64 wa) := fun wx h => h.cell_new 0
  have q1 : ∀ wx, Ext (w.alloc (.cells #[.int .i64 wa, .int .i64 pa, .int .i64 na, .bool sa] 29)) wx → wx.cell? ⟨w.heap.size, 1, none⟩ = some (.int .i64 pa) := fun wx h => h.cell_new 1
  have q2 : ∀ wx, Ext (w.alloc (.cells #[.int .i64 wa, .int .i64 pa, .int .i64 na, .bool sa] 29)) wx → wx.cell? ⟨w.heap.size, 2, none⟩ = some (.int .i64 na) := fun wx h => h.cell_new 2
  have q3 : ∀ wx, Ext (w.alloc (.cells #[.int .i64 wa, .int .i64 pa, .int .i64 na, .bool sa] 29)) wx → wx.cell? ⟨w.heap.size, 3, none⟩ = some (.bool sa) := fun wx h => h.cell_new 3
  have qs : ∀ wx, Ext (w.alloc (.cells #[.int .i64 wa, .int .i64 pa, .int .i64 na, .bool sa] 29)) wx → w.heap.size < wx.heap.size := fun wx h => h.lt_new
  have HTab : Hid (∀ wx, Ext (w.alloc (.cells #[.int .i64 wa, .int .i64 pa, .int .i64 na, .bool sa] 29)) wx → Tab wx 49 t hv wv H W) := fun wx h => ht.ext (e0.trans h)
  clear hac
  by_cases hc : checkF ⟨wa, pa, na, sa⟩ H W = 0
  · have Hc := Lib.hid hc
    obtain ⟨hm, hfew⟩ := check_zero hc
    have Hm := Lib.hid hm
    have Hfew := Lib.hid hfew
    obtain ⟨-, -, m3, m4, m5, m6⟩ := (may_iff _).1 Hm.out
    simp only at m3 m4 m5 m6
    obtain ⟨A, ch, rfl, -, -⟩ := ht.held.form
    obtain ⟨C, cw, rfl, -, -⟩ := ht.waits.form
    have HtB : Hid (Tab w 49 t (.slice A H.length ch) (.slice C W.length cw) H W) := ht
    have k0 : ∀ wx, Ext (w.alloc (.cells #[.int .i64 wa, .int .i64 pa, .int .i64 na, .bool sa] 29)) wx → wx.cell? ⟨t, 0, none⟩ = some (.slice A H.length ch) := fun wx h => (HTab.out wx h).cell0
    have k1 : ∀ wx, Ext (w.alloc (.cells #[.int .i64 wa, .int .i64 pa, .int .i64 na, .bool sa] 29)) wx → wx.cell? ⟨t, 1, none⟩ = some (.slice C W.length cw) := fun wx h => (HTab.out wx h).cell1
    have htl := ht.lt
    have hne : (Value.slice A H.length ch).ownBlock ≠ some t := own_ne ht.held ht.blk (by decide)
    have hlt := ht.held.lt
    have HF := Lib.hid hF
    clear hc ht hm hfew hF
    go_enter Try.func21, Try.ntmps21
    go_wp2_with (go_at_call 31; refine (refused_any _ _ _ _ H W _ _ _ _ _ (HTab.out _ (Ext.refl _))).mono ?_; rintro e w1 ⟨rfl, hb1⟩; rw [Hc.out])
    have q0' : ∀ wx, Ext w1 wx → wx.cell? ⟨w.heap.size, 0, none⟩ = some (.int .i64 wa) := fun wx h => q0 wx (hb1.trans h)
    have q1' : ∀ wx, Ext w1 wx → wx.cell? ⟨w.heap.size, 1, none⟩ = some (.int .i64 pa) := fun wx h => q1 wx (hb1.trans h)
    have q2' : ∀ wx, Ext w1 wx → wx.cell? ⟨w.heap.size, 2, none⟩ = some (.int .i64 na) := fun wx h => q2 wx (hb1.trans h)
    have q3' : ∀ wx, Ext w1 wx → wx.cell? ⟨w.heap.size, 3, none⟩ = some (.bool sa) := fun wx h => q3 wx (hb1.trans h)
    have k0' : ∀ wx, Ext w1 wx → wx.cell? ⟨t, 0, none⟩ = some (.slice A H.length ch) := fun wx h => k0 wx (hb1.trans h)
    have k1' : ∀ wx, Ext w1 wx → wx.cell? ⟨t, 1, none⟩ = some (.slice C W.length cw) := fun wx h => k1 wx (hb1.trans h)
    cases hf1 : meetsB ⟨wa, pa, na, sa⟩ H with
    | true =>
      have hf : freeB ⟨wa, pa, na, sa⟩ H W = false := by simp [freeB, hf1]
      have Hf := Lib.hid hf
      refine region_lin (fun wx => Ext w1 wx) 100000 [(0, 0), (1, 3), (2, 3), (3, 3), (4, 0), (5, 1), (6, 3), (7, 3), (8, 0), (9, 0), (10, 0), (11, 0), (12, 0), (13, 1), (14, 0), (15, 3)] ?_ (by kernel_rfl) (by kernel_rfl) ?_ (fun _ _ _ _ _ h => h) ((Ext.refl _).drew) ?_
      rotate_left
      (simp only [planOps, List.mapM_cons, List.mapM_nil, List.getElem?_toArray, List.getElem?_cons_zero, List.getElem?_cons_succ, Option.map_some, Option.bind_eq_bind, Option.bind_some, Option.pure_def]; rfl)
      intro wd hwd hxd
      clear hxd
      repeat (first | (refine lin_take ?_ (by rfl) (fun wx hx => ?_) ?_; rotate_left; go_simp; (with_reducible rfl); try simp only [Act.put, List.setIfInBounds_toArray, List.set_cons_zero, List.set_cons_succ]) | (refine lin_skip (by rfl) ?_; try simp only [Act.put, List.setIfInBounds_toArray, List.set_cons_zero, List.set_cons_succ]) | (refine lin_take3 ?_ (by rfl) (fun wx hx => ?_) ?_; rotate_left; go_simp; (with_reducible rfl); try simp only [Act.put, List.setIfInBounds_toArray, List.set_cons_zero, List.set_cons_succ]))
      refine lin_run (by rfl) (fun K hK => ?_)
      go_simp
      refine (refmeets_any _ _ _ _ _ _ _ H _ m3 m4 (by omega) (by have := Hfew.out; omega) (LkSl.of_own (HTab.out _ (hb1.trans hwd)).held) (HTab.out _ (hb1.trans hwd)).hok).mono ?_
      rintro e w3 ⟨rfl, hb2⟩
      refine hK _ _ (hwd.trans hb2) ?_
      rw [hf1]
      try simp only [Act.put, List.setIfInBounds_toArray, List.set_cons_zero, List.set_cons_succ]
      repeat (first | (refine lin_take ?_ (by rfl) (fun wx hx => ?_) ?_; rotate_left; go_simp; (with_reducible rfl); try simp only [Act.put, List.setIfInBounds_toArray, List.set_cons_zero, List.set_cons_succ]) | (refine lin_skip (by rfl) ?_; try simp only [Act.put, List.setIfInBounds_toArray, List.set_cons_zero, List.set_cons_succ]) | (refine lin_take3 ?_ (by rfl) (fun wx hx => ?_) ?_; rotate_left; go_simp; (with_reducible rfl); try simp only [Act.put, List.setIfInBounds_toArray, List.set_cons_zero, List.set_cons_succ]))
      refine lin_pass (by rfl) (hwd.trans hb2) ?_
      try simp only [Act.put, List.setIfInBounds_toArray, List.set_cons_zero, List.set_cons_succ]
      repeat (first | (refine lin_take ?_ (by rfl) (fun wx hx => ?_) ?_; rotate_left; go_simp; (with_reducible rfl); try simp only [Act.put, List.setIfInBounds_toArray, List.set_cons_zero, List.set_cons_succ]) | (refine lin_skip (by rfl) ?_; try simp only [Act.put, List.setIfInBounds_toArray, List.set_cons_zero, List.set_cons_succ]) | (refine lin_take3 ?_ (by rfl) (fun wx hx => ?_) ?_; rotate_left; go_simp; (with_reducible rfl); try simp only [Act.put, List.setIfInBounds_toArray, List.set_cons_zero, List.set_cons_succ]))
      refine lin_nil ?_
      have e5 := hb1.trans (hwd.trans hb2)
      clear hwd hb2 hf hf1
      have r0 : ∀ wx, Ext w3 wx → wx.cell? ⟨w.heap.size, 0, none⟩ = some (.int .i64 wa) := fun wx h => q0 wx (e5.trans h)
      have r1 : ∀ wx, Ext w3 wx → wx.cell? ⟨w.heap.size, 1, none⟩ = some (.int .i64 pa) := fun wx h => q1 wx (e5.trans h)
      have r2 : ∀ wx, Ext w3 wx → wx.cell? ⟨w.heap.size, 2, none⟩ = some (.int .i64 na) := fun wx h => q2 wx (e5.trans h)
      have r3 : ∀ wx, Ext w3 wx → wx.cell? ⟨w.heap.size, 3, none⟩ = some (.bool sa) := fun wx h => q3 wx (e5.trans h)
      have s0 : ∀ wx, Ext w3 wx → wx.cell? ⟨t, 0, none⟩ = some (.slice A H.length ch) := fun wx h => k0 wx (e5.trans h)
      have s1 : ∀ wx, Ext w3 wx → wx.cell? ⟨t, 1, none⟩ = some (.slice C W.length cw) := fun wx h => k1 wx (e5.trans h)
      have hs3 := qs _ e5
      clear q0 q1 q2 q3 qs q0' q1' q2' q3' k0' k1' k0 k1
      have hem : Ext w3 (w3.alloc (.cells #[] 29)) := (Ext.refl _).alloc _
      have ht3 : Tab w3 49 t (.slice A H.length ch) (.slice C W.length cw) H W := HtB.out.ext (e0.trans e5)
      have Ht3 := Lib.hid ht3
      have Hnw : Hid (0 < W.length → ∃ ad, C = some ad ∧ ∀ j u, (flat W)[j]? = some u → (w3.alloc (.cells #[] 29)).cell? (ad.add j) = some u) := fun h => by
        obtain ⟨A9, c9, hv, -, hA9⟩ := ht3.waits.form
        injection hv with h1 _ h3
        subst h1
        obtain ⟨g9, o9, rfl, -⟩ := hA9 h
        exact ⟨_, rfl, fun j u hu => by rw [add_off]; exact (ht3.waits.ext hem).cells rfl j u hu⟩
      have s1m := s1 _ hem
      obtain ⟨i, hi, hz, hs, hby⟩ := info_parts Try.info29
      have Hem := Lib.hid hem
      clear ht3 hem
      go_wp2_with (at_builtin; refine wpList_append_own_any _ rfl (.tmp 40) (.tmp 44) 25 rfl 29 i _ 4 32 Try.underlying25 hi hz hs hby rfl (by decide) (.slice (some ⟨w3.heap.size, 0, none⟩) 0 0) 0 [] rfl (Own.empty w3 29 4) C W.length cw (flat W) rfl (by rw [flat_length]) Hnw.out (flat_one W) (by have := Hfew.out; unfold maxLen; omega) (by have := Hfew.out; omega) ?_)
      intro v4 w4 ho4 hg4 hv4
      have hx4 : Ext w3 w4 := Hem.out.grown hg4 (fun k h => by simp [Value.ownBlock] at h; omega)
      have Hlo4 : Hid (∀ k, v4.ownBlock = some k → w3.heap.size ≤ k) := fun k hk => by
        rcases hv4 with h | h
        · rw [h] at hk; simp [Value.ownBlock] at hk; omega
        · rw [h] at hk; injection hk with hk; omega
      have HO4 := Lib.hid ho4
      obtain ⟨A4, c4, rfl, -, -⟩ := ho4.form
      have Hx4 := Lib.hid hx4
      have u0 := r0 _ hx4
      have u1 := r1 _ hx4
      have u2 := r2 _ hx4
      have u3 := r3 _ hx4
      have hsz4 := hx4.size
      clear ho4 hg4 hv4 s1m hx4
      go_wp2_with (at_builtin; refine wpList_append_own_any _ rfl (.tmp 46) (.tmp 48) 25 rfl 29 i _ 4 32 Try.underlying25 hi hz hs hby rfl (by decide) (.slice A4 W.length c4) W.length (flat W) rfl (HO4.out.ext ((Ext.refl _).alloc _)) (some ⟨w4.heap.size, 0, none⟩) 1 1 (Lk.enc ⟨wa, pa, na, sa⟩) rfl rfl (fun _ => ⟨_, rfl, new_cells _ _ _⟩) (flat_one [⟨wa, pa, na, sa⟩]) (by have := Hfew.out; unfold maxLen; omega) (by have := Hfew.out; omega) ?_)
      intro v5 w5 ho5 hg5 hv5
      have hx5 : Ext w3 w5 := (Hx4.out.alloc _).grown hg5 (fun k h => Hlo4.out k h)
      have Hlo5 : Hid (∀ k, v5.ownBlock = some k → w3.heap.size ≤ k) := fun k hk => by
        rcases hv5 with h | h
        · exact Hlo4.out k (h ▸ hk)
        · rw [h] at hk; injection hk with hk; omega
      have HO5 : Hid (Own w5 29 4 v5 (W ++ [(⟨wa, pa, na, sa⟩ : Lk)]).length (flat (W ++ [(⟨wa, pa, na, sa⟩ : Lk)]))) := flat_snoc ho5
      obtain ⟨A5, c5, rfl, -, -⟩ := ho5.form
      have Hx5 := Lib.hid hx5
      have c0 := s0 _ hx5
      clear ho5 hg5 hv5 u0 u1 u2 u3 hx5
      have Hok : Hid (∀ l ∈ W ++ [(⟨wa, pa, na, sa⟩ : Lk)], mayB l = true) := ok_snoc HtB.out.wok Hm.out
      have hcall : Calls Try.prog 33 #[.slice A H.length ch, .slice A5 (W.length + 1) c5] w5 (CircR H (W ++ [(⟨wa, pa, na, sa⟩ : Lk)]) w5) := by
        have h := refcircle_any A A5 ch c5 H (W ++ [(⟨wa, pa, na, sa⟩ : Lk)]) w5 (LkSl.of_own (Ht3.out.held.ext Hx5.out)) (LkSl.of_own (by have := HO5.out; simpa using this)) HtB.out.hok Hok.out (by have := Hfew.out; omega) (by have := Hfew.out; rw [List.length_append]; simp; omega)
        rw [List.length_append] at h
        exact h
      have Hcall := Lib.hid hcall
      clear hcall
      go_wp2_with fail
      refine (Hcall.out).mono ?_
      rintro e w6 ⟨r, rfl, hr, hx6⟩
      have hr2 := hr.trans (circ_iff Hac.out)
      have Hx6 : Hid (Ext w w6) := e0.trans (e5.trans (Hx5.out.trans hx6))
      by_cases hw : Way H (W ++ [(⟨wa, pa, na, sa⟩ : Lk)]) wa wa
      · obtain rfl : r = true := hr2.2 hw
        have Hv : Hid (waitF ⟨wa, pa, na, sa⟩ H W = (false, 151) ∧ waitH ⟨wa, pa, na, sa⟩ H W = (H, W)) := wait_circle Hc.out Hf.out hw
        clear hr hr2 hw s0 s1 c0 r0 r1 r2 r3
        go_wp2_with fail
        go_ret2
        refine ⟨by rw [Hv.out.1]; rfl, ?_⟩
        rw [Hv.out.2]
        exact TabN.same HT.out Hx6.out
      · obtain rfl : r = false := by
          cases r with
          | false => rfl
          | true => exact absurd (hr2.1 rfl) hw
        have Hv : Hid (waitF ⟨wa, pa, na, sa⟩ H W = (false, 0) ∧ waitH ⟨wa, pa, na, sa⟩ H W = (H, W ++ [(⟨wa, pa, na, sa⟩ : Lk)])) := wait_values Hc.out Hf.out hw
        have c6 := s1 _ (Hx5.out.trans hx6)
        have f6 := (Ht3.out.ext (Hx5.out.trans hx6)).frozen 1
        have hset := Ht3.out.set_waits (w2 := w6) (v' := .slice A5 (W.length + 1) c5) (W' := W ++ [(⟨wa, pa, na, sa⟩ : Lk)]) (by decide) (Hx5.out.trans hx6) (by have := HO5.out.ext hx6; simpa using this) Hlo5.out Hok.out (by have := Hfew.out; rw [List.length_append]; simp; omega)
        have Hset := Lib.hid hset
        have Hmod : Hid (TabN w (w6.setCell ⟨t, 1, none⟩ (.slice A5 (W.length + 1) c5)) 49 t F H (W ++ [(⟨wa, pa, na, sa⟩ : Lk)])) := by
          obtain ⟨g1, g2, g3⟩ := hset
          have hsz := (e0.trans e5).size
          refine ⟨Mod.trans (S := F) (Mod.mono (e0.trans e5) (fun _ _ f => f.elim)) g3 (fun j _ hj => HF.out j hj), _, _, g1, fun j hj => ?_⟩
          rcases g2 j hj with h | h
          · exact .inl (HF.out j h)
          · right; omega
        clear hr hr2 hw s0 s1 c0 r0 r1 r2 r3 hset Hset hx6
        go_wp2_with fail
        go_ret2
        refine ⟨by rw [Hv.out.1]; rfl, ?_⟩
        rw [Hv.out.2]
        exact Hmod.out
    | false =>
      cases hf2 : meetsB ⟨wa, pa, na, sa⟩ W with
      | true =>
        have hf : freeB ⟨wa, pa, na, sa⟩ H W = false := by simp [freeB, hf2]
        have Hf := Lib.hid hf
        refine region_lin (fun wx => Ext w1 wx) 100000 [(0, 0), (1, 3), (2, 3), (3, 3), (4, 0), (5, 1), (6, 3), (7, 3), (8, 0), (9, 0), (10, 0), (11, 0), (12, 0), (13, 1), (14, 0), (15, 3)] ?_ (by kernel_rfl) (by kernel_rfl) ?_ (fun _ _ _ _ _ h => h) ((Ext.refl _).drew) ?_
        rotate_left
        (simp only [planOps, List.mapM_cons, List.mapM_nil, List.getElem?_toArray, List.getElem?_cons_zero, List.getElem?_cons_succ, Option.map_some, Option.bind_eq_bind, Option.bind_some, Option.pure_def]; rfl)
        intro wd hwd hxd
        clear hxd
        repeat (first | (refine lin_take ?_ (by rfl) (fun wx hx => ?_) ?_; rotate_left; go_simp; (with_reducible rfl); try simp only [Act.put, List.setIfInBounds_toArray, List.set_cons_zero, List.set_cons_succ]) | (refine lin_skip (by rfl) ?_; try simp only [Act.put, List.setIfInBounds_toArray, List.set_cons_zero, List.set_cons_succ]) | (refine lin_take3 ?_ (by rfl) (fun wx hx => ?_) ?_; rotate_left; go_simp; (with_reducible rfl); try simp only [Act.put, List.setIfInBounds_toArray, List.set_cons_zero, List.set_cons_succ]))
        refine lin_run (by rfl) (fun K hK => ?_)
        go_simp
        refine (refmeets_any _ _ _ _ _ _ _ H _ m3 m4 (by omega) (by have := Hfew.out; omega) (LkSl.of_own (HTab.out _ (hb1.trans hwd)).held) (HTab.out _ (hb1.trans hwd)).hok).mono ?_
        rintro e w2 ⟨rfl, hb2⟩
        refine hK _ _ (hwd.trans hb2) ?_
        rw [hf1]
        try simp only [Act.put, List.setIfInBounds_toArray, List.set_cons_zero, List.set_cons_succ]
        repeat (first | (refine lin_take ?_ (by rfl) (fun wx hx => ?_) ?_; rotate_left; go_simp; (with_reducible rfl); try simp only [Act.put, List.setIfInBounds_toArray, List.set_cons_zero, List.set_cons_succ]) | (refine lin_skip (by rfl) ?_; try simp only [Act.put, List.setIfInBounds_toArray, List.set_cons_zero, List.set_cons_succ]) | (refine lin_take3 ?_ (by rfl) (fun wx hx => ?_) ?_; rotate_left; go_simp; (with_reducible rfl); try simp only [Act.put, List.setIfInBounds_toArray, List.set_cons_zero, List.set_cons_succ]))
        refine lin_run (by rfl) (fun K hK => ?_)
        go_simp
        refine (refmeets_any _ _ _ _ _ _ _ W _ m3 m4 (by omega) (by have := Hfew.out; omega) (LkSl.of_own (HTab.out _ (hb1.trans (hwd.trans hb2))).waits) (HTab.out _ (hb1.trans (hwd.trans hb2))).wok).mono ?_
        rintro e w3 ⟨rfl, hb3⟩
        refine hK _ _ ((hwd.trans hb2).trans hb3) ?_
        rw [hf2]
        try simp only [Act.put, List.setIfInBounds_toArray, List.set_cons_zero, List.set_cons_succ]
        repeat (first | (refine lin_take ?_ (by rfl) (fun wx hx => ?_) ?_; rotate_left; go_simp; (with_reducible rfl); try simp only [Act.put, List.setIfInBounds_toArray, List.set_cons_zero, List.set_cons_succ]) | (refine lin_skip (by rfl) ?_; try simp only [Act.put, List.setIfInBounds_toArray, List.set_cons_zero, List.set_cons_succ]) | (refine lin_take3 ?_ (by rfl) (fun wx hx => ?_) ?_; rotate_left; go_simp; (with_reducible rfl); try simp only [Act.put, List.setIfInBounds_toArray, List.set_cons_zero, List.set_cons_succ]))
        refine lin_nil ?_
        have e5 := hb1.trans ((hwd.trans hb2).trans hb3)
        clear hwd hb2 hb3 hf hf1 hf2
        have r0 : ∀ wx, Ext w3 wx → wx.cell? ⟨w.heap.size, 0, none⟩ = some (.int .i64 wa) := fun wx h => q0 wx (e5.trans h)
        have r1 : ∀ wx, Ext w3 wx → wx.cell? ⟨w.heap.size, 1, none⟩ = some (.int .i64 pa) := fun wx h => q1 wx (e5.trans h)
        have r2 : ∀ wx, Ext w3 wx → wx.cell? ⟨w.heap.size, 2, none⟩ = some (.int .i64 na) := fun wx h => q2 wx (e5.trans h)
        have r3 : ∀ wx, Ext w3 wx → wx.cell? ⟨w.heap.size, 3, none⟩ = some (.bool sa) := fun wx h => q3 wx (e5.trans h)
        have s0 : ∀ wx, Ext w3 wx → wx.cell? ⟨t, 0, none⟩ = some (.slice A H.length ch) := fun wx h => k0 wx (e5.trans h)
        have s1 : ∀ wx, Ext w3 wx → wx.cell? ⟨t, 1, none⟩ = some (.slice C W.length cw) := fun wx h => k1 wx (e5.trans h)
        have hs3 := qs _ e5
        clear q0 q1 q2 q3 qs q0' q1' q2' q3' k0' k1' k0 k1
        have hem : Ext w3 (w3.alloc (.cells #[] 29)) := (Ext.refl _).alloc _
        have ht3 : Tab w3 49 t (.slice A H.length ch) (.slice C W.length cw) H W := HtB.out.ext (e0.trans e5)
        have Ht3 := Lib.hid ht3
        have Hnw : Hid (0 < W.length → ∃ ad, C = some ad ∧ ∀ j u, (flat W)[j]? = some u → (w3.alloc (.cells #[] 29)).cell? (ad.add j) = some u) := fun h => by
          obtain ⟨A9, c9, hv, -, hA9⟩ := ht3.waits.form
          injection hv with h1 _ h3
          subst h1
          obtain ⟨g9, o9, rfl, -⟩ := hA9 h
          exact ⟨_, rfl, fun j u hu => by rw [add_off]; exact (ht3.waits.ext hem).cells rfl j u hu⟩
        have s1m := s1 _ hem
        obtain ⟨i, hi, hz, hs, hby⟩ := info_parts Try.info29
        have Hem := Lib.hid hem
        clear ht3 hem
        go_wp2_with (at_builtin; refine wpList_append_own_any _ rfl (.tmp 40) (.tmp 44) 25 rfl 29 i _ 4 32 Try.underlying25 hi hz hs hby rfl (by decide) (.slice (some ⟨w3.heap.size, 0, none⟩) 0 0) 0 [] rfl (Own.empty w3 29 4) C W.length cw (flat W) rfl (by rw [flat_length]) Hnw.out (flat_one W) (by have := Hfew.out; unfold maxLen; omega) (by have := Hfew.out; omega) ?_)
        intro v4 w4 ho4 hg4 hv4
        have hx4 : Ext w3 w4 := Hem.out.grown hg4 (fun k h => by simp [Value.ownBlock] at h; omega)
        have Hlo4 : Hid (∀ k, v4.ownBlock = some k → w3.heap.size ≤ k) := fun k hk => by
          rcases hv4 with h | h
          · rw [h] at hk; simp [Value.ownBlock] at hk; omega
          · rw [h] at hk; injection hk with hk; omega
        have HO4 := Lib.hid ho4
        obtain ⟨A4, c4, rfl, -, -⟩ := ho4.form
        have Hx4 := Lib.hid hx4
        have u0 := r0 _ hx4
        have u1 := r1 _ hx4
        have u2 := r2 _ hx4
        have u3 := r3 _ hx4
        have hsz4 := hx4.size
        clear ho4 hg4 hv4 s1m hx4
        go_wp2_with (at_builtin; refine wpList_append_own_any _ rfl (.tmp 46) (.tmp 48) 25 rfl 29 i _ 4 32 Try.underlying25 hi hz hs hby rfl (by decide) (.slice A4 W.length c4) W.length (flat W) rfl (HO4.out.ext ((Ext.refl _).alloc _)) (some ⟨w4.heap.size, 0, none⟩) 1 1 (Lk.enc ⟨wa, pa, na, sa⟩) rfl rfl (fun _ => ⟨_, rfl, new_cells _ _ _⟩) (flat_one [⟨wa, pa, na, sa⟩]) (by have := Hfew.out; unfold maxLen; omega) (by have := Hfew.out; omega) ?_)
        intro v5 w5 ho5 hg5 hv5
        have hx5 : Ext w3 w5 := (Hx4.out.alloc _).grown hg5 (fun k h => Hlo4.out k h)
        have Hlo5 : Hid (∀ k, v5.ownBlock = some k → w3.heap.size ≤ k) := fun k hk => by
          rcases hv5 with h | h
          · exact Hlo4.out k (h ▸ hk)
          · rw [h] at hk; injection hk with hk; omega
        have HO5 : Hid (Own w5 29 4 v5 (W ++ [(⟨wa, pa, na, sa⟩ : Lk)]).length (flat (W ++ [(⟨wa, pa, na, sa⟩ : Lk)]))) := flat_snoc ho5
        obtain ⟨A5, c5, rfl, -, -⟩ := ho5.form
        have Hx5 := Lib.hid hx5
        have c0 := s0 _ hx5
        clear ho5 hg5 hv5 u0 u1 u2 u3 hx5
        have Hok : Hid (∀ l ∈ W ++ [(⟨wa, pa, na, sa⟩ : Lk)], mayB l = true) := ok_snoc HtB.out.wok Hm.out
        have hcall : Calls Try.prog 33 #[.slice A H.length ch, .slice A5 (W.length + 1) c5] w5 (CircR H (W ++ [(⟨wa, pa, na, sa⟩ : Lk)]) w5) := by
          have h := refcircle_any A A5 ch c5 H (W ++ [(⟨wa, pa, na, sa⟩ : Lk)]) w5 (LkSl.of_own (Ht3.out.held.ext Hx5.out)) (LkSl.of_own (by have := HO5.out; simpa using this)) HtB.out.hok Hok.out (by have := Hfew.out; omega) (by have := Hfew.out; rw [List.length_append]; simp; omega)
          rw [List.length_append] at h
          exact h
        have Hcall := Lib.hid hcall
        clear hcall
        go_wp2_with fail
        refine (Hcall.out).mono ?_
        rintro e w6 ⟨r, rfl, hr, hx6⟩
        have hr2 := hr.trans (circ_iff Hac.out)
        have Hx6 : Hid (Ext w w6) := e0.trans (e5.trans (Hx5.out.trans hx6))
        by_cases hw : Way H (W ++ [(⟨wa, pa, na, sa⟩ : Lk)]) wa wa
        · obtain rfl : r = true := hr2.2 hw
          have Hv : Hid (waitF ⟨wa, pa, na, sa⟩ H W = (false, 151) ∧ waitH ⟨wa, pa, na, sa⟩ H W = (H, W)) := wait_circle Hc.out Hf.out hw
          clear hr hr2 hw s0 s1 c0 r0 r1 r2 r3
          go_wp2_with fail
          go_ret2
          refine ⟨by rw [Hv.out.1]; rfl, ?_⟩
          rw [Hv.out.2]
          exact TabN.same HT.out Hx6.out
        · obtain rfl : r = false := by
            cases r with
            | false => rfl
            | true => exact absurd (hr2.1 rfl) hw
          have Hv : Hid (waitF ⟨wa, pa, na, sa⟩ H W = (false, 0) ∧ waitH ⟨wa, pa, na, sa⟩ H W = (H, W ++ [(⟨wa, pa, na, sa⟩ : Lk)])) := wait_values Hc.out Hf.out hw
          have c6 := s1 _ (Hx5.out.trans hx6)
          have f6 := (Ht3.out.ext (Hx5.out.trans hx6)).frozen 1
          have hset := Ht3.out.set_waits (w2 := w6) (v' := .slice A5 (W.length + 1) c5) (W' := W ++ [(⟨wa, pa, na, sa⟩ : Lk)]) (by decide) (Hx5.out.trans hx6) (by have := HO5.out.ext hx6; simpa using this) Hlo5.out Hok.out (by have := Hfew.out; rw [List.length_append]; simp; omega)
          have Hset := Lib.hid hset
          have Hmod : Hid (TabN w (w6.setCell ⟨t, 1, none⟩ (.slice A5 (W.length + 1) c5)) 49 t F H (W ++ [(⟨wa, pa, na, sa⟩ : Lk)])) := by
            obtain ⟨g1, g2, g3⟩ := hset
            have hsz := (e0.trans e5).size
            refine ⟨Mod.trans (S := F) (Mod.mono (e0.trans e5) (fun _ _ f => f.elim)) g3 (fun j _ hj => HF.out j hj), _, _, g1, fun j hj => ?_⟩
            rcases g2 j hj with h | h
            · exact .inl (HF.out j h)
            · right; omega
          clear hr hr2 hw s0 s1 c0 r0 r1 r2 r3 hset Hset hx6
          go_wp2_with fail
          go_ret2
          refine ⟨by rw [Hv.out.1]; rfl, ?_⟩
          rw [Hv.out.2]
          exact Hmod.out
      | false =>
        have hf : freeB ⟨wa, pa, na, sa⟩ H W = true := by simp [freeB, hf1, hf2]
        have Hf := Lib.hid hf
        have hr : waitF ⟨wa, pa, na, sa⟩ H W = (true, 0) := by simp [waitF, Hc.out, hf]
        have hh : waitH ⟨wa, pa, na, sa⟩ H W = (H ++ [⟨wa, pa, na, sa⟩], W) := by simp [waitH, Hc.out, hf]
        have Hr : Hid (waitF ⟨wa, pa, na, sa⟩ H W = (true, 0) ∧ waitH ⟨wa, pa, na, sa⟩ H W = (H ++ [⟨wa, pa, na, sa⟩], W)) := ⟨hr, hh⟩
        clear hr hh
        refine region_lin (fun wx => Ext w1 wx) 100000 [(0, 0), (1, 3), (2, 3), (3, 3), (4, 0), (5, 1), (6, 3), (7, 3), (8, 0), (9, 0), (10, 0), (11, 0), (12, 0), (13, 1), (14, 0), (15, 3)] ?_ (by kernel_rfl) (by kernel_rfl) ?_ (fun _ _ _ _ _ h => h) ((Ext.refl _).drew) ?_
        rotate_left
        (simp only [planOps, List.mapM_cons, List.mapM_nil, List.getElem?_toArray, List.getElem?_cons_zero, List.getElem?_cons_succ, Option.map_some, Option.bind_eq_bind, Option.bind_some, Option.pure_def]; rfl)
        intro wd hwd hxd
        clear hxd
        repeat (first | (refine lin_take ?_ (by rfl) (fun wx hx => ?_) ?_; rotate_left; go_simp; (with_reducible rfl); try simp only [Act.put, List.setIfInBounds_toArray, List.set_cons_zero, List.set_cons_succ]) | (refine lin_skip (by rfl) ?_; try simp only [Act.put, List.setIfInBounds_toArray, List.set_cons_zero, List.set_cons_succ]) | (refine lin_take3 ?_ (by rfl) (fun wx hx => ?_) ?_; rotate_left; go_simp; (with_reducible rfl); try simp only [Act.put, List.setIfInBounds_toArray, List.set_cons_zero, List.set_cons_succ]))
        refine lin_run (by rfl) (fun K hK => ?_)
        go_simp
        refine (refmeets_any _ _ _ _ _ _ _ H _ m3 m4 (by omega) (by have := Hfew.out; omega) (LkSl.of_own (HTab.out _ (hb1.trans hwd)).held) (HTab.out _ (hb1.trans hwd)).hok).mono ?_
        rintro e w2 ⟨rfl, hb2⟩
        refine hK _ _ (hwd.trans hb2) ?_
        rw [hf1]
        try simp only [Act.put, List.setIfInBounds_toArray, List.set_cons_zero, List.set_cons_succ]
        repeat (first | (refine lin_take ?_ (by rfl) (fun wx hx => ?_) ?_; rotate_left; go_simp; (with_reducible rfl); try simp only [Act.put, List.setIfInBounds_toArray, List.set_cons_zero, List.set_cons_succ]) | (refine lin_skip (by rfl) ?_; try simp only [Act.put, List.setIfInBounds_toArray, List.set_cons_zero, List.set_cons_succ]) | (refine lin_take3 ?_ (by rfl) (fun wx hx => ?_) ?_; rotate_left; go_simp; (with_reducible rfl); try simp only [Act.put, List.setIfInBounds_toArray, List.set_cons_zero, List.set_cons_succ]))
        refine lin_run (by rfl) (fun K hK => ?_)
        go_simp
        refine (refmeets_any _ _ _ _ _ _ _ W _ m3 m4 (by omega) (by have := Hfew.out; omega) (LkSl.of_own (HTab.out _ (hb1.trans (hwd.trans hb2))).waits) (HTab.out _ (hb1.trans (hwd.trans hb2))).wok).mono ?_
        rintro e w3 ⟨rfl, hb3⟩
        refine hK _ _ ((hwd.trans hb2).trans hb3) ?_
        rw [hf2]
        try simp only [Act.put, List.setIfInBounds_toArray, List.set_cons_zero, List.set_cons_succ]
        repeat (first | (refine lin_take ?_ (by rfl) (fun wx hx => ?_) ?_; rotate_left; go_simp; (with_reducible rfl); try simp only [Act.put, List.setIfInBounds_toArray, List.set_cons_zero, List.set_cons_succ]) | (refine lin_skip (by rfl) ?_; try simp only [Act.put, List.setIfInBounds_toArray, List.set_cons_zero, List.set_cons_succ]) | (refine lin_take3 ?_ (by rfl) (fun wx hx => ?_) ?_; rotate_left; go_simp; (with_reducible rfl); try simp only [Act.put, List.setIfInBounds_toArray, List.set_cons_zero, List.set_cons_succ]))
        refine lin_nil ?_
        have e5 := hb1.trans ((hwd.trans hb2).trans hb3)
        clear hwd hb2 hb3 hf hf1 hf2
        have HM : Hid (∀ wx, Mod (fun k => (Value.slice A H.length ch).ownBlock = some k) w3 wx → Mod (fun k => (Value.slice A H.length ch).ownBlock = some k) w wx) := fun wx h => Mod.trans (Mod.mono (e0.trans e5) (fun _ _ f => f.elim)) h (fun _ _ h => h)
        have j0 : ∀ wx, Mod (fun k => (Value.slice A H.length ch).ownBlock = some k) w3 wx → wx.cell? ⟨t, 0, none⟩ = some (.slice A H.length ch) := fun wx h => ((HM.out _ h).cell htl hne).trans HtB.out.cell0
        have kb : ∀ wx i, Mod (fun k => (Value.slice A H.length ch).ownBlock = some k) w3 wx → wx.cell? ⟨w.heap.size, i, none⟩ = w3.cell? ⟨w.heap.size, i, none⟩ := fun wx i h => h.cell (qs _ e5) (fun hk => absurd (hlt _ hk) (Nat.lt_irrefl _))
        have kf : ∀ wx i, Mod (fun k => (Value.slice A H.length ch).ownBlock = some k) w3 wx → wx.frozen? ⟨t, i, none⟩ = false := fun wx i h => ((HM.out _ h).frozen htl hne).trans (HtB.out.frozen i)
        have r0 := q0 _ e5
        have r1 := q1 _ e5
        have r2 := q2 _ e5
        have r3 := q3 _ e5
        clear q0 q1 q2 q3 qs q0' q1' q2' q3' k0' k1' k0 k1
        go_wp2_with fail
        refine region_lin (fun wx => Mod (fun k => (Value.slice A H.length ch).ownBlock = some k) w3 wx) 10 [(0, 3), (1, 3), (2, 3), (3, 3), (4, 0), (5, 0), (6, 1), (7, 1), (8, 3), (9, 3), (10, 2)] ?_ (by kernel_rfl) (by kernel_rfl) ?_ (fun _ _ _ _ _ h => h) ((Mod.refl _ _).drew) ?_
        rotate_left
        (simp only [planOps, List.mapM_cons, List.mapM_nil, List.getElem?_toArray, List.getElem?_cons_zero, List.getElem?_cons_succ, Option.map_some, Option.bind_eq_bind, Option.bind_some, Option.pure_def]; rfl)
        intro wd hwd hxd
        repeat (first | (refine lin_take ?_ (by rfl) (fun wx hx => ?_) ?_; rotate_left; go_simp; (with_reducible rfl); try simp only [Act.put, List.setIfInBounds_toArray, List.set_cons_zero, List.set_cons_succ]) | (refine lin_skip (by rfl) ?_; try simp only [Act.put, List.setIfInBounds_toArray, List.set_cons_zero, List.set_cons_succ]) | (refine lin_take3 ?_ (by rfl) (fun wx hx => ?_) ?_; rotate_left; go_simp; (with_reducible rfl); try simp only [Act.put, List.setIfInBounds_toArray, List.set_cons_zero, List.set_cons_succ]))
        refine lin_run (by rfl) (fun K hK => ?_)
        go_simp
        refine hK _ _ (hwd.alloc _) ?_
        refine lin_run (by rfl) (fun K2 hK2 => ?_)
        obtain ⟨i, hi, hz, hs, hby⟩ := info_parts Try.info29
        have ha : Own (wd.alloc (.cells #[.int .i64 wa, .int .i64 pa, .int .i64 na, .bool sa] 29)) 29 4 (.slice A H.length ch) H.length (flat H) := HtB.out.held.ext ((e0.trans (e5.trans hxd)).alloc _)
        refine wp_append_own_any _ (.tmp 34) (.tmp 36) 25 rfl 29 i _ 4 32 Try.underlying25 hi hz hs hby rfl (by decide) (.slice A H.length ch) H.length (flat H) rfl ha (some ⟨wd.heap.size, 0, none⟩) 1 1 (Lk.enc ⟨wa, pa, na, sa⟩) rfl rfl
          (fun _ => ⟨_, rfl, new_cells _ _ _⟩) (flat_one [⟨wa, pa, na, sa⟩]) (by have := Hfew.out; unfold maxLen; omega) (by have := Hfew.out; omega) ?_
        intro v' w4 ho hg hv'
        have hw3 := (hwd.alloc (.cells #[.int .i64 wa, .int .i64 pa, .int .i64 na, .bool sa] 29)).grown hg (fun k hk _ => hk)
        obtain ⟨A', c', rfl, -, -⟩ := ho.form
        refine hK2 _ _ hw3 ?_
        have HO : Hid (Own w4 29 4 (.slice A' (H.length + 1) c') (H.length + 1) (flat H ++ Lk.enc ⟨wa, pa, na, sa⟩)) := ho
        have Hv : Hid ((Value.slice A' (H.length + 1) c').ownBlock = (Value.slice A H.length ch).ownBlock ∨ (Value.slice A' (H.length + 1) c').ownBlock = some (wd.alloc (.cells #[.int .i64 wa, .int .i64 pa, .int .i64 na, .bool sa] 29)).heap.size) := hv'
        clear ho hg hv' ha
        try simp only [Act.put, List.setIfInBounds_toArray, List.set_cons_zero, List.set_cons_succ]
        repeat (first | (refine lin_take ?_ (by rfl) (fun wx hx => ?_) ?_; rotate_left; go_simp; (with_reducible rfl); try simp only [Act.put, List.setIfInBounds_toArray, List.set_cons_zero, List.set_cons_succ]) | (refine lin_skip (by rfl) ?_; try simp only [Act.put, List.setIfInBounds_toArray, List.set_cons_zero, List.set_cons_succ]) | (refine lin_take3 ?_ (by rfl) (fun wx hx => ?_) ?_; rotate_left; go_simp; (with_reducible rfl); try simp only [Act.put, List.setIfInBounds_toArray, List.set_cons_zero, List.set_cons_succ]))
        refine lin_last (by rfl) (fun K3 hK3 => ?_)
        go_simp
        refine hK3 _ _ trivial ?_
        go_wp2_with fail
        go_ret2
        refine ⟨by rw [Hr.out.1]; rfl, ?_⟩
        rw [Hr.out.2]
        obtain ⟨r1, r2, r3⟩ := HtB.out.set_held (w2 := w4) (v' := .slice A' (H.length + 1) c') (H' := H ++ [⟨wa, pa, na, sa⟩]) (by decide) (HM.out _ hw3)
          (by rw [List.length_append, flat_append]; simpa [flat] using HO.out)
          (fun k hk => by
            rcases Hv.out with h | h
            · exact .inl (h ▸ hk)
            · rw [h] at hk
              injection hk with hk
              have := (e0.trans (e5.trans hxd)).size
              simp at hk
              right; omega)
          (by
            intro l hl
            rcases List.mem_append.1 hl with hl | hl
            · exact HtB.out.hok l hl
            · rw [List.mem_singleton.1 hl]; exact Hm.out)
          (by have := Hfew.out; simp; omega)
        exact ⟨r3.mono (fun k _ hk => HF.out k hk), _, _, r1, fun k hk => (r2 k hk).imp (HF.out k) id⟩
  · have Hc : Hid ((checkF ⟨wa, pa, na, sa⟩ H W != 0) = true) := by show (_ != _) = true; simpa using hc
    have Hv : Hid (waitF ⟨wa, pa, na, sa⟩ H W = (false, checkF ⟨wa, pa, na, sa⟩ H W) ∧ waitH ⟨wa, pa, na, sa⟩ H W = (H, W)) := wait_full hc
    obtain ⟨c, hce⟩ : ∃ c, checkF ⟨wa, pa, na, sa⟩ H W = c := ⟨_, rfl⟩
    rw [hce] at Hc Hv hc
    have Hce := Lib.hid hce
    clear ht hce hc
    have hc := Hc.out
    go_enter Try.func21, Try.ntmps21
    go_wp2_with (go_at_call 31; refine (refused_any _ _ _ _ H W _ _ _ _ _ (HTab.out _ (Ext.refl _))).mono ?_; rintro e w1 ⟨rfl, hb1⟩; rw [Hce.out])
    go_ret2
    refine ⟨by rw [Hv.out.1]; rfl, ?_⟩
    rw [Hv.out.2]
    exact TabN.same HT.out (e0.trans hb1)
end Go.Proofs.Ytpjgfkdnjkfnfaa
