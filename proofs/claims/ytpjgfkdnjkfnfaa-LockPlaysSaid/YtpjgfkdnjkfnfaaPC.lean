/- The document's table: on. -/
import Derived.Test.YtpjgfkdnjkfnfaaPB
namespace Go.Proofs.Ytpjgfkdnjkfnfaa
open Go.RowKit Go.Maps

set_option maxRecDepth 20000 in
set_option maxHeartbeats 2000000 in
theorem refon_any (t : Nat) (F : Nat → Prop) (H W : List Lk) (w : World) (hT : TabS w 49 t F H W) :
    Calls Try.prog 35 #[.pointer (some ⟨t, 0, none⟩)] w (OnPost 49 t F H W w) := by
  obtain ⟨hv, wv, ht, hF⟩ := hT
  obtain ⟨A, ch, rfl, -, -⟩ := ht.held.form
  obtain ⟨C, cw, rfl, -, -⟩ := ht.waits.form
  have htl := ht.lt
  have H0 : Hid (OnI 49 w w t (.slice A H.length ch) (.slice C W.length cw) (.slice A H.length ch) (.slice none 0 0) (.slice none 0 0) H [] []) := 
    ⟨Mod.refl _ _, ht.blk, ht.held, Own.nil _ _ _, Own.nil _ _ _, fun k h => .inl h, fun k h => by simp [Value.ownBlock] at h, fun k h => by simp [Value.ownBlock] at h, fun k _ h => by simp [Value.ownBlock] at h, fun k _ h => by simp [Value.ownBlock] at h, fun k _ h => by simp [Value.ownBlock] at h, ht.hok, fun l h => by simp at h⟩
  have HT := Lib.hid ht
  have HF := Lib.hid hF
  have hfw : W.length ≤ 256 := by have := ht.few; omega
  clear ht hF
  go_enter Try.func35, Try.ntmps35
  go_wp2_with fail
  go_loopw [3, 4, 5] (fun told still i wr => ∃ (k : Nat) (A' S T : Option Addr) (c' cs ct : Nat) (Hk Sk Tk : List Lk), k ≤ W.length ∧ i = .int .i64 k ∧ still = .slice S Sk.length cs ∧ told = .slice T Tk.length ct ∧ (W.take k).foldl onStep (H, [], []) = (Hk, Sk, Tk) ∧ OnI 49 w wr t (.slice A H.length ch) (.slice C W.length cw) (.slice A' Hk.length c') (.slice S Sk.length cs) (.slice T Tk.length ct) Hk Sk Tk) (fun _ _ i _ => W.length - (intOf i).toNat)
  case atStart => exact ⟨0, A, none, none, ch, 0, 0, H, [], [], Nat.zero_le _, rfl, rfl, rfl, rfl, H0.out⟩
  case round =>
    obtain ⟨k, A', S, T, c', cs, ct, Hk, Sk, Tk, hk, rfl, rfl, rfl, hfold, hI⟩ := hrel
    have HI := Lib.hid hI
    have Hfold := Lib.hid hfold
    clear hI hfold
    have Hwr : Hid (Own wr 29 4 (.slice C W.length cw) W.length (flat W)) := HT.out.waits.mod HI.out.mod (by
      rintro k hk (e | e)
      · exact own_ne HT.out.waits HT.out.blk (by decide) (e ▸ hk)
      · exact HT.out.apart k e hk)
    have hsz : w.heap.size ≤ wr.heap.size := HI.out.mod.size
    have htr := HI.out.lt
    have k1 : ∀ wx, Ext wr wx → wx.cell? ⟨t, 1, none⟩ = some (.slice C W.length cw) := fun wx h => (h.cell htr).trans HI.out.cell1
    have cc := HI.out.cell1
    by_cases hlt : k < W.length
    · obtain ⟨b, off, rfl, hb, hce⟩ := (LkSl.of_own Hwr.out).2 (by omega)
      obtain ⟨e1, e2, e3, e4⟩ := hce k W[k] (List.getElem?_eq_getElem hlt)
      obtain ⟨x1, x2, x3, x4, x5, x6⟩ := (may_iff _).1 (HT.out.wok W[k] (List.getElem_mem hlt))
      have Hxm : Hid (mayB W[k] = true) := HT.out.wok W[k] (List.getElem_mem hlt)
      obtain ⟨x, hxe⟩ : ∃ x, W[k] = x := ⟨_, rfl⟩
      have Hx : Hid (W[k]? = some x) := by show _ = _; rw [List.getElem?_eq_getElem hlt, hxe]
      rw [hxe] at e1 e2 e3 e4 x1 x2 x3 x4 x5 x6 Hxm
      have nbt : b ≠ t := fun e => own_ne Hwr.out HI.out.blk (by decide) (by rw [e]; rfl)
      have Hbh : Hid (∀ j, (Value.slice A' Hk.length c').ownBlock = some j → j ≠ b) := fun j hj e => by
        rcases HI.out.hb j hj with h | h
        · exact HT.out.apart j h (by rw [e]; rfl)
        · have := HT.out.waits.lt b rfl; omega
      clear hce hxe
      have k0 : ∀ wx, Ext wr wx → wx.cell? ⟨t, 0, none⟩ = some (.slice A' Hk.length c') := fun wx h => (h.cell htr).trans HI.out.cell0
      have y0 : ∀ wx, Ext wr wx → wx.cell? ⟨b, off + k * 4, none⟩ = some (.int .i64 x.who) := fun wx h => h.cell_some e1
      have y1 : ∀ wx, Ext wr wx → wx.cell? ⟨b, off + k * 4 + 1, none⟩ = some (.int .i64 x.pos) := fun wx h => h.cell_some e2
      have y2 : ∀ wx, Ext wr wx → wx.cell? ⟨b, off + k * 4 + 2, none⟩ = some (.int .i64 x.num) := fun wx h => h.cell_some e3
      have y3 : ∀ wx, Ext wr wx → wx.cell? ⟨b, off + k * 4 + 3, none⟩ = some (.bool x.sh) := fun wx h => h.cell_some e4
      have HIx : Hid (∀ wx, Ext wr wx → OnI 49 w wx t (.slice A H.length ch) (.slice (some ⟨b, off, none⟩) W.length cw) (.slice A' Hk.length c') (.slice S Sk.length cs) (.slice T Tk.length ct) Hk Sk Tk) := fun wx h => HI.out.ext h
      have Hlen := Lib.hid (onF_len (W.take k) (H, [], []))
      rw [Hfold.out] at Hlen
      have hlen : Hk.length + Sk.length ≤ 256 ∧ Tk.length + Sk.length ≤ 256 := by
        have h1 := Hlen.out; have h2 := HT.out.few
        simp only [List.length_nil, Nat.add_zero, Nat.zero_add, List.length_take] at h1
        omega
      obtain ⟨hl1, hl2⟩ := hlen
      clear e1 e2 e3 e4
      cases hm1 : meetsB x Hk with
      | true =>
        go_wp2_with fail
        refine region_lin (fun wx => Ext wr wx) 100000 [(0, 3), (1, 3), (2, 3), (3, 0), (4, 3), (5, 3), (6, 0), (7, 3), (8, 3), (9, 3), (10, 0), (11, 1), (12, 3), (13, 0), (14, 0), (15, 0), (16, 0), (17, 0), (18, 0), (19, 0), (20, 0), (21, 1), (22, 3)] ?_ (by kernel_rfl) (by kernel_rfl) ?_ (fun _ _ _ _ _ h => h) ((Ext.refl _).drew) ?_
        rotate_left
        (simp only [planOps, List.mapM_cons, List.mapM_nil, List.getElem?_toArray, List.getElem?_cons_zero, List.getElem?_cons_succ, Option.map_some, Option.bind_eq_bind, Option.bind_some, Option.pure_def]; rfl)
        intro wd hwd hxd
        clear hxd
        repeat (first | (refine lin_take ?_ (by rfl) (fun wx hx => ?_) ?_; rotate_left; go_simp; (with_reducible rfl); try simp only [Act.put, List.setIfInBounds_toArray, List.set_cons_zero, List.set_cons_succ]) | (refine lin_skip (by rfl) ?_; try simp only [Act.put, List.setIfInBounds_toArray, List.set_cons_zero, List.set_cons_succ]) | (refine lin_take3 ?_ (by rfl) (fun wx hx => ?_) ?_; rotate_left; go_simp; (with_reducible rfl); try simp only [Act.put, List.setIfInBounds_toArray, List.set_cons_zero, List.set_cons_succ]))
        refine lin_run (by rfl) (fun K hK => ?_)
        go_simp
        refine (refmeets_any _ _ _ _ _ _ _ Hk _ x3 x4 (by omega) (by omega) (LkSl.of_own (HIx.out _ hwd).ho) HI.out.hok).mono ?_
        rintro e w1 ⟨rfl, hb1⟩
        refine hK _ _ (hwd.trans hb1) ?_
        rw [show meetsB ⟨x.who, x.pos, x.num, x.sh⟩ Hk = true from hm1]
        try simp only [Act.put, List.setIfInBounds_toArray, List.set_cons_zero, List.set_cons_succ]
        repeat (first | (refine lin_take ?_ (by rfl) (fun wx hx => ?_) ?_; rotate_left; go_simp; (with_reducible rfl); try simp only [Act.put, List.setIfInBounds_toArray, List.set_cons_zero, List.set_cons_succ]) | (refine lin_skip (by rfl) ?_; try simp only [Act.put, List.setIfInBounds_toArray, List.set_cons_zero, List.set_cons_succ]) | (refine lin_take3 ?_ (by rfl) (fun wx hx => ?_) ?_; rotate_left; go_simp; (with_reducible rfl); try simp only [Act.put, List.setIfInBounds_toArray, List.set_cons_zero, List.set_cons_succ]))
        refine lin_pass (by rfl) (hwd.trans hb1) ?_
        try simp only [Act.put, List.setIfInBounds_toArray, List.set_cons_zero, List.set_cons_succ]
        repeat (first | (refine lin_take ?_ (by rfl) (fun wx hx => ?_) ?_; rotate_left; go_simp; (with_reducible rfl); try simp only [Act.put, List.setIfInBounds_toArray, List.set_cons_zero, List.set_cons_succ]) | (refine lin_skip (by rfl) ?_; try simp only [Act.put, List.setIfInBounds_toArray, List.set_cons_zero, List.set_cons_succ]) | (refine lin_take3 ?_ (by rfl) (fun wx hx => ?_) ?_; rotate_left; go_simp; (with_reducible rfl); try simp only [Act.put, List.setIfInBounds_toArray, List.set_cons_zero, List.set_cons_succ]))
        refine lin_nil ?_
        have e5 := hwd.trans hb1
        have hI5 : Hid (OnI 49 w w1 t (.slice A H.length ch) (.slice (some ⟨b, off, none⟩) W.length cw) (.slice A' Hk.length c') (.slice S Sk.length cs) (.slice T Tk.length ct) Hk Sk Tk) := HIx.out _ e5
        have r0 := y0 _ e5
        have r1 := y1 _ e5
        have r2 := y2 _ e5
        have r3 := y3 _ e5
        have r4 := k1 _ e5
        have hs5 : w.heap.size ≤ w1.heap.size := by have := e5.size; omega
        clear hwd hb1 k0 k1 y0 y1 y2 y3
        obtain ⟨i, hi, hz, hs, hby⟩ := info_parts Try.info29
        go_wp2_with (at_builtin; refine wpList_append_own_any _ rfl (.tmp 38) (.tmp 46) 25 rfl 29 i _ 4 32 Try.underlying25 hi hz hs hby rfl (by decide) (.slice S Sk.length cs) Sk.length (flat Sk) rfl ((hI5.out.ext ((Ext.refl _).alloc _)).so) (some ⟨w1.heap.size, 0, none⟩) 1 1 (Lk.enc x) rfl rfl (fun _ => ⟨_, rfl, new_cells _ _ _⟩) (flat_one [x]) (by unfold maxLen; omega) (by omega) ?_)
        intro v' w3 ho hg hv'
        have hfin : Hid (OnI 49 w w3 t (.slice A H.length ch) (.slice (some ⟨b, off, none⟩) W.length cw) (.slice A' Hk.length c') v' (.slice T Tk.length ct) Hk (Sk ++ [x]) Tk) := (hI5.out.ext ((Ext.refl _).alloc _)).still (by decide) (by simp; omega) ho hg (by simpa using hv') Hxm.out
        obtain ⟨S', cs', rfl, -, -⟩ := ho.form
        clear ho hg hv'
        go_wp2_with fail
        go_roundw
        case rel =>
          refine ⟨k + 1, A', S', T, c', cs', ct, Hk, Sk ++ [x], Tk, by omega, by go_num, by simp, rfl, ?_, by rw [List.length_append]; exact hfin.out⟩
          rw [onF_take Hx.out, Hfold.out]
          simp [onStep, hm1]
        case measure => simp [intOf]; omega
      | false =>
        cases hm2 : meetsB x Sk with
        | true =>
          go_wp2_with fail
          refine region_lin (fun wx => Ext wr wx) 100000 [(0, 3), (1, 3), (2, 3), (3, 0), (4, 3), (5, 3), (6, 0), (7, 3), (8, 3), (9, 3), (10, 0), (11, 1), (12, 3), (13, 0), (14, 0), (15, 0), (16, 0), (17, 0), (18, 0), (19, 0), (20, 0), (21, 1), (22, 3)] ?_ (by kernel_rfl) (by kernel_rfl) ?_ (fun _ _ _ _ _ h => h) ((Ext.refl _).drew) ?_
          rotate_left
          (simp only [planOps, List.mapM_cons, List.mapM_nil, List.getElem?_toArray, List.getElem?_cons_zero, List.getElem?_cons_succ, Option.map_some, Option.bind_eq_bind, Option.bind_some, Option.pure_def]; rfl)
          intro wd hwd hxd
          clear hxd
          repeat (first | (refine lin_take ?_ (by rfl) (fun wx hx => ?_) ?_; rotate_left; go_simp; (with_reducible rfl); try simp only [Act.put, List.setIfInBounds_toArray, List.set_cons_zero, List.set_cons_succ]) | (refine lin_skip (by rfl) ?_; try simp only [Act.put, List.setIfInBounds_toArray, List.set_cons_zero, List.set_cons_succ]) | (refine lin_take3 ?_ (by rfl) (fun wx hx => ?_) ?_; rotate_left; go_simp; (with_reducible rfl); try simp only [Act.put, List.setIfInBounds_toArray, List.set_cons_zero, List.set_cons_succ]))
          refine lin_run (by rfl) (fun K hK => ?_)
          go_simp
          refine (refmeets_any _ _ _ _ _ _ _ Hk _ x3 x4 (by omega) (by omega) (LkSl.of_own (HIx.out _ hwd).ho) HI.out.hok).mono ?_
          rintro e w0 ⟨rfl, hb0⟩
          refine hK _ _ (hwd.trans hb0) ?_
          rw [show meetsB ⟨x.who, x.pos, x.num, x.sh⟩ Hk = false from hm1]
          try simp only [Act.put, List.setIfInBounds_toArray, List.set_cons_zero, List.set_cons_succ]
          repeat (first | (refine lin_take ?_ (by rfl) (fun wx hx => ?_) ?_; rotate_left; go_simp; (with_reducible rfl); try simp only [Act.put, List.setIfInBounds_toArray, List.set_cons_zero, List.set_cons_succ]) | (refine lin_skip (by rfl) ?_; try simp only [Act.put, List.setIfInBounds_toArray, List.set_cons_zero, List.set_cons_succ]) | (refine lin_take3 ?_ (by rfl) (fun wx hx => ?_) ?_; rotate_left; go_simp; (with_reducible rfl); try simp only [Act.put, List.setIfInBounds_toArray, List.set_cons_zero, List.set_cons_succ]))
          refine lin_run (by rfl) (fun K hK => ?_)
          go_simp
          refine (refmeets_any _ _ _ _ _ _ _ Sk _ x3 x4 (by omega) (by omega) (LkSl.of_own (HIx.out _ (hwd.trans hb0)).so) HI.out.sok).mono ?_
          rintro e w1 ⟨rfl, hb1⟩
          refine hK _ _ (hwd.trans (hb0.trans hb1)) ?_
          rw [show meetsB ⟨x.who, x.pos, x.num, x.sh⟩ Sk = true from hm2]
          try simp only [Act.put, List.setIfInBounds_toArray, List.set_cons_zero, List.set_cons_succ]
          repeat (first | (refine lin_take ?_ (by rfl) (fun wx hx => ?_) ?_; rotate_left; go_simp; (with_reducible rfl); try simp only [Act.put, List.setIfInBounds_toArray, List.set_cons_zero, List.set_cons_succ]) | (refine lin_skip (by rfl) ?_; try simp only [Act.put, List.setIfInBounds_toArray, List.set_cons_zero, List.set_cons_succ]) | (refine lin_take3 ?_ (by rfl) (fun wx hx => ?_) ?_; rotate_left; go_simp; (with_reducible rfl); try simp only [Act.put, List.setIfInBounds_toArray, List.set_cons_zero, List.set_cons_succ]))
          refine lin_nil ?_
          have e5 := hwd.trans (hb0.trans hb1)
          clear hb0
          have hI5 : Hid (OnI 49 w w1 t (.slice A H.length ch) (.slice (some ⟨b, off, none⟩) W.length cw) (.slice A' Hk.length c') (.slice S Sk.length cs) (.slice T Tk.length ct) Hk Sk Tk) := HIx.out _ e5
          have r0 := y0 _ e5
          have r1 := y1 _ e5
          have r2 := y2 _ e5
          have r3 := y3 _ e5
          have r4 := k1 _ e5
          have hs5 : w.heap.size ≤ w1.heap.size := by have := e5.size; omega
          clear hwd hb1 k0 k1 y0 y1 y2 y3
          obtain ⟨i, hi, hz, hs, hby⟩ := info_parts Try.info29
          go_wp2_with (at_builtin; refine wpList_append_own_any _ rfl (.tmp 38) (.tmp 46) 25 rfl 29 i _ 4 32 Try.underlying25 hi hz hs hby rfl (by decide) (.slice S Sk.length cs) Sk.length (flat Sk) rfl ((hI5.out.ext ((Ext.refl _).alloc _)).so) (some ⟨w1.heap.size, 0, none⟩) 1 1 (Lk.enc x) rfl rfl (fun _ => ⟨_, rfl, new_cells _ _ _⟩) (flat_one [x]) (by unfold maxLen; omega) (by omega) ?_)
          intro v' w3 ho hg hv'
          have hfin : Hid (OnI 49 w w3 t (.slice A H.length ch) (.slice (some ⟨b, off, none⟩) W.length cw) (.slice A' Hk.length c') v' (.slice T Tk.length ct) Hk (Sk ++ [x]) Tk) := (hI5.out.ext ((Ext.refl _).alloc _)).still (by decide) (by simp; omega) ho hg (by simpa using hv') Hxm.out
          obtain ⟨S', cs', rfl, -, -⟩ := ho.form
          clear ho hg hv'
          go_wp2_with fail
          go_roundw
          case rel =>
            refine ⟨k + 1, A', S', T, c', cs', ct, Hk, Sk ++ [x], Tk, by omega, by go_num, by simp, rfl, ?_, by rw [List.length_append]; exact hfin.out⟩
            rw [onF_take Hx.out, Hfold.out]
            simp [onStep, hm1, hm2]
          case measure => simp [intOf]; omega
        | false =>
          go_wp2_with fail
          refine region_lin (fun wx => Ext wr wx) 100000 [(0, 3), (1, 3), (2, 3), (3, 0), (4, 3), (5, 3), (6, 0), (7, 3), (8, 3), (9, 3), (10, 0), (11, 1), (12, 3), (13, 0), (14, 0), (15, 0), (16, 0), (17, 0), (18, 0), (19, 0), (20, 0), (21, 1), (22, 3)] ?_ (by kernel_rfl) (by kernel_rfl) ?_ (fun _ _ _ _ _ h => h) ((Ext.refl _).drew) ?_
          rotate_left
          (simp only [planOps, List.mapM_cons, List.mapM_nil, List.getElem?_toArray, List.getElem?_cons_zero, List.getElem?_cons_succ, Option.map_some, Option.bind_eq_bind, Option.bind_some, Option.pure_def]; rfl)
          intro wd hwd hxd
          clear hxd
          repeat (first | (refine lin_take ?_ (by rfl) (fun wx hx => ?_) ?_; rotate_left; go_simp; (with_reducible rfl); try simp only [Act.put, List.setIfInBounds_toArray, List.set_cons_zero, List.set_cons_succ]) | (refine lin_skip (by rfl) ?_; try simp only [Act.put, List.setIfInBounds_toArray, List.set_cons_zero, List.set_cons_succ]) | (refine lin_take3 ?_ (by rfl) (fun wx hx => ?_) ?_; rotate_left; go_simp; (with_reducible rfl); try simp only [Act.put, List.setIfInBounds_toArray, List.set_cons_zero, List.set_cons_succ]))
          refine lin_run (by rfl) (fun K hK => ?_)
          go_simp
          refine (refmeets_any _ _ _ _ _ _ _ Hk _ x3 x4 (by omega) (by omega) (LkSl.of_own (HIx.out _ hwd).ho) HI.out.hok).mono ?_
          rintro e w0 ⟨rfl, hb0⟩
          refine hK _ _ (hwd.trans hb0) ?_
          rw [show meetsB ⟨x.who, x.pos, x.num, x.sh⟩ Hk = false from hm1]
          try simp only [Act.put, List.setIfInBounds_toArray, List.set_cons_zero, List.set_cons_succ]
          repeat (first | (refine lin_take ?_ (by rfl) (fun wx hx => ?_) ?_; rotate_left; go_simp; (with_reducible rfl); try simp only [Act.put, List.setIfInBounds_toArray, List.set_cons_zero, List.set_cons_succ]) | (refine lin_skip (by rfl) ?_; try simp only [Act.put, List.setIfInBounds_toArray, List.set_cons_zero, List.set_cons_succ]) | (refine lin_take3 ?_ (by rfl) (fun wx hx => ?_) ?_; rotate_left; go_simp; (with_reducible rfl); try simp only [Act.put, List.setIfInBounds_toArray, List.set_cons_zero, List.set_cons_succ]))
          refine lin_run (by rfl) (fun K hK => ?_)
          go_simp
          refine (refmeets_any _ _ _ _ _ _ _ Sk _ x3 x4 (by omega) (by omega) (LkSl.of_own (HIx.out _ (hwd.trans hb0)).so) HI.out.sok).mono ?_
          rintro e w1 ⟨rfl, hb1⟩
          refine hK _ _ (hwd.trans (hb0.trans hb1)) ?_
          rw [show meetsB ⟨x.who, x.pos, x.num, x.sh⟩ Sk = false from hm2]
          try simp only [Act.put, List.setIfInBounds_toArray, List.set_cons_zero, List.set_cons_succ]
          repeat (first | (refine lin_take ?_ (by rfl) (fun wx hx => ?_) ?_; rotate_left; go_simp; (with_reducible rfl); try simp only [Act.put, List.setIfInBounds_toArray, List.set_cons_zero, List.set_cons_succ]) | (refine lin_skip (by rfl) ?_; try simp only [Act.put, List.setIfInBounds_toArray, List.set_cons_zero, List.set_cons_succ]) | (refine lin_take3 ?_ (by rfl) (fun wx hx => ?_) ?_; rotate_left; go_simp; (with_reducible rfl); try simp only [Act.put, List.setIfInBounds_toArray, List.set_cons_zero, List.set_cons_succ]))
          refine lin_nil ?_
          have e5 := hwd.trans (hb0.trans hb1)
          clear hb0
          have hI5 : Hid (OnI 49 w w1 t (.slice A H.length ch) (.slice (some ⟨b, off, none⟩) W.length cw) (.slice A' Hk.length c') (.slice S Sk.length cs) (.slice T Tk.length ct) Hk Sk Tk) := HIx.out _ e5
          have hs5 : w.heap.size ≤ w1.heap.size := by have := e5.size; omega
          have hs6 : wr.heap.size ≤ w1.heap.size := e5.size
          have hb1s : b < w1.heap.size := by omega
          obtain ⟨i, hi, hz, hs, hby⟩ := info_parts Try.info29
          have hne : (Value.slice A' Hk.length c').ownBlock ≠ some t := own_ne hI5.out.ho hI5.out.blk (by decide)
          have hnb : (Value.slice A' Hk.length c').ownBlock ≠ some b := fun h => Hbh.out b h rfl
          have ht2 := hI5.out.lt
          have j0 : ∀ wx, Mod (fun k => (Value.slice A' Hk.length c').ownBlock = some k) w1 wx → wx.cell? ⟨t, 0, none⟩ = some (.slice A' Hk.length c') := fun wx h => (h.cell ht2 hne).trans hI5.out.cell0
          have j1 : ∀ wx, Mod (fun k => (Value.slice A' Hk.length c').ownBlock = some k) w1 wx → wx.cell? ⟨t, 1, none⟩ = some (.slice (some ⟨b, off, none⟩) W.length cw) := fun wx h => (h.cell ht2 hne).trans hI5.out.cell1
          have z0 : ∀ wx, Mod (fun k => (Value.slice A' Hk.length c').ownBlock = some k) w1 wx → wx.cell? ⟨b, off + k * 4, none⟩ = some (.int .i64 x.who) := fun wx h => (h.cell hb1s hnb).trans (y0 _ e5)
          have z1 : ∀ wx, Mod (fun k => (Value.slice A' Hk.length c').ownBlock = some k) w1 wx → wx.cell? ⟨b, off + k * 4 + 1, none⟩ = some (.int .i64 x.pos) := fun wx h => (h.cell hb1s hnb).trans (y1 _ e5)
          have z2 : ∀ wx, Mod (fun k => (Value.slice A' Hk.length c').ownBlock = some k) w1 wx → wx.cell? ⟨b, off + k * 4 + 2, none⟩ = some (.int .i64 x.num) := fun wx h => (h.cell hb1s hnb).trans (y2 _ e5)
          have z3 : ∀ wx, Mod (fun k => (Value.slice A' Hk.length c').ownBlock = some k) w1 wx → wx.cell? ⟨b, off + k * 4 + 3, none⟩ = some (.bool x.sh) := fun wx h => (h.cell hb1s hnb).trans (y3 _ e5)
          have kf : ∀ wx i, Mod (fun k => (Value.slice A' Hk.length c').ownBlock = some k) w1 wx → wx.frozen? ⟨t, i, none⟩ = false := fun wx i h => (h.frozen ht2 hne).trans (hI5.out.frozen i)
          clear hwd hb1 k0 k1 y0 y1 y2 y3
          go_wp2_with fail
          refine region_lin (fun wx => Mod (fun k => (Value.slice A' Hk.length c').ownBlock = some k) w1 wx) 16 [(0, 3), (1, 3), (2, 3), (3, 3), (4, 0), (5, 3), (6, 3), (7, 3), (8, 0), (9, 3), (10, 3), (11, 0), (12, 1), (13, 1), (14, 3), (15, 3), (16, 2)] ?_ (by kernel_rfl) (by kernel_rfl) ?_ (fun _ _ _ _ _ h => h) ((Mod.refl _ _).drew) ?_
          rotate_left
          (simp only [planOps, List.mapM_cons, List.mapM_nil, List.getElem?_toArray, List.getElem?_cons_zero, List.getElem?_cons_succ, Option.map_some, Option.bind_eq_bind, Option.bind_some, Option.pure_def]; rfl)
          intro wd hwd hxd
          repeat (first | (refine lin_take ?_ (by rfl) (fun wx hx => ?_) ?_; rotate_left; go_simp; (with_reducible rfl); try simp only [Act.put, List.setIfInBounds_toArray, List.set_cons_zero, List.set_cons_succ]) | (refine lin_skip (by rfl) ?_; try simp only [Act.put, List.setIfInBounds_toArray, List.set_cons_zero, List.set_cons_succ]) | (refine lin_take3 ?_ (by rfl) (fun wx hx => ?_) ?_; rotate_left; go_simp; (with_reducible rfl); try simp only [Act.put, List.setIfInBounds_toArray, List.set_cons_zero, List.set_cons_succ]))
          refine lin_run (by rfl) (fun K hK => ?_)
          go_simp
          refine hK _ _ (hwd.alloc _) ?_
          refine lin_run (by rfl) (fun K2 hK2 => ?_)
          have hId : Hid (OnI 49 w (wd.alloc (.cells #[.int .i64 x.who, .int .i64 x.pos, .int .i64 x.num, .bool x.sh] 29)) t (.slice A H.length ch) (.slice (some ⟨b, off, none⟩) W.length cw) (.slice A' Hk.length c') (.slice S Sk.length cs) (.slice T Tk.length ct) Hk Sk Tk) := hI5.out.ext (hxd.alloc _)
          have hsd := hxd.size
          refine wp_append_own_any _ (.tmp 52) (.tmp 60) 25 rfl 29 i _ 4 32 Try.underlying25 hi hz hs hby rfl (by decide) (.slice A' Hk.length c') Hk.length (flat Hk) rfl hId.out.ho (some ⟨wd.heap.size, 0, none⟩) 1 1 (Lk.enc x) rfl rfl
            (fun _ => ⟨_, rfl, new_cells _ _ _⟩) (flat_one [x]) (by unfold maxLen; omega) (by omega) ?_
          intro v' w3 ho hg hv'
          have hw3 := (hwd.alloc (.cells #[.int .i64 x.who, .int .i64 x.pos, .int .i64 x.num, .bool x.sh] 29)).grown hg (fun k hk _ => hk)
          obtain ⟨A2, c2, rfl, -, -⟩ := ho.form
          have hI6 : Hid (OnI 49 w (w3.setCell ⟨t, 0, none⟩ (.slice A2 (Hk.length + 1) c2)) t (.slice A H.length ch) (.slice (some ⟨b, off, none⟩) W.length cw) (.slice A2 (Hk.length + 1) c2) (.slice S Sk.length cs) (.slice T Tk.length ct) (Hk ++ [x]) Sk Tk) := hId.out.held (by decide) (by simp; omega) ho hg hv' Hxm.out
          refine hK2 _ _ hw3 ?_
          clear ho hg hv'
          try simp only [Act.put, List.setIfInBounds_toArray, List.set_cons_zero, List.set_cons_succ]
          repeat (first | (refine lin_take ?_ (by rfl) (fun wx hx => ?_) ?_; rotate_left; go_simp; (with_reducible rfl); try simp only [Act.put, List.setIfInBounds_toArray, List.set_cons_zero, List.set_cons_succ]) | (refine lin_skip (by rfl) ?_; try simp only [Act.put, List.setIfInBounds_toArray, List.set_cons_zero, List.set_cons_succ]) | (refine lin_take3 ?_ (by rfl) (fun wx hx => ?_) ?_; rotate_left; go_simp; (with_reducible rfl); try simp only [Act.put, List.setIfInBounds_toArray, List.set_cons_zero, List.set_cons_succ]))
          refine lin_last (by rfl) (fun K3 hK3 => ?_)
          go_simp
          refine hK3 _ _ trivial ?_
          have hnt : ∀ i, (⟨t, 0, none⟩ : Addr) ≠ ⟨b, i, none⟩ := fun i e => by injection e with e; exact nbt e.symm
          have u0 := (World.cell?_setCell_other w3 ⟨t, 0, none⟩ ⟨b, off + k * 4, none⟩ (.slice A2 (Hk.length + 1) c2) (hnt _)).trans (z0 _ hw3)
          have u1 := (World.cell?_setCell_other w3 ⟨t, 0, none⟩ ⟨b, off + k * 4 + 1, none⟩ (.slice A2 (Hk.length + 1) c2) (hnt _)).trans (z1 _ hw3)
          have u2 := (World.cell?_setCell_other w3 ⟨t, 0, none⟩ ⟨b, off + k * 4 + 2, none⟩ (.slice A2 (Hk.length + 1) c2) (hnt _)).trans (z2 _ hw3)
          have u3 := (World.cell?_setCell_other w3 ⟨t, 0, none⟩ ⟨b, off + k * 4 + 3, none⟩ (.slice A2 (Hk.length + 1) c2) (hnt _)).trans (z3 _ hw3)
          clear j0 j1 z0 z1 z2 z3 kf hw3 hwd hxd hnt
          generalize w3.setCell ⟨t, 0, none⟩ (.slice A2 (Hk.length + 1) c2) = w4 at *
          have hs4 : w.heap.size ≤ w4.heap.size := hI6.out.mod.size
          have u4 := hI6.out.cell1
          go_wp2_with (at_builtin; refine wpList_append_own_any _ rfl (.tmp 64) (.tmp 72) 25 rfl 29 i _ 4 32 Try.underlying25 hi hz hs hby rfl (by decide) (.slice T Tk.length ct) Tk.length (flat Tk) rfl ((hI6.out.ext ((Ext.refl _).alloc _)).to) (some ⟨w4.heap.size, 0, none⟩) 1 1 (Lk.enc x) rfl rfl (fun _ => ⟨_, rfl, new_cells _ _ _⟩) (flat_one [x]) (by unfold maxLen; omega) (by omega) ?_)
          intro v' w5 ho hg hv'
          have hfin : Hid (OnI 49 w w5 t (.slice A H.length ch) (.slice (some ⟨b, off, none⟩) W.length cw) (.slice A2 (Hk.length + 1) c2) (.slice S Sk.length cs) v' (Hk ++ [x]) Sk (Tk ++ [x])) := (hI6.out.ext ((Ext.refl _).alloc _)).told (by decide) (by simp; omega) ho hg (by simpa using hv')
          obtain ⟨T', ct', rfl, -, -⟩ := ho.form
          clear ho hg hv'
          go_wp2_with fail
          go_roundw
          case rel =>
            refine ⟨k + 1, A2, S, T', c2, cs, ct', Hk ++ [x], Sk, Tk ++ [x], by omega, by go_num, rfl, by simp, ?_, by rw [List.length_append, List.length_append]; exact hfin.out⟩
            rw [onF_take Hx.out, Hfold.out]
            simp [onStep, hm1, hm2]
          case measure => simp [intOf]; omega
    · have ff := HI.out.frozen 1
      have hkn : k = W.length := by omega
      have Hend : Hid (TabR w (wr.setCell ⟨t, 1, none⟩ (.slice S Sk.length cs)) 49 t F (onF H W).1 (onF H W).2.1 (.slice T Tk.length ct) (onF H W).2.2) := by
        have h1 := Hfold.out
        rw [hkn, List.take_length] at h1
        have h2 : onF H W = (Hk, Sk, Tk) := h1
        rw [h2]
        refine HI.out.done (by decide) HF.out ?_ htl
        have h3 := (onF_len W (H, [], [])).1
        rw [h1] at h3
        have := HT.out.few
        simp only [List.length_nil, Nat.add_zero] at h3
        omega
      clear hkn
      go_wp2_with fail
      go_ret
      exact ⟨_, rfl, Hend.out⟩
end Go.Proofs.Ytpjgfkdnjkfnfaa
