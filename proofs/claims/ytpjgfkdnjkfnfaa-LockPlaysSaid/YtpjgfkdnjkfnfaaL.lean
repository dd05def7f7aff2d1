/- The walk of 'on'. -/
import Derived.Test.YtpjgfkdnjkfnfaaK
namespace Go.Proofs.Ytpjgfkdnjkfnfaa
open Go.RowKit Go.Maps

def OnPost (ty : TypeId) (t : Nat) (F : Nat → Prop) (H W : List Lk) (w : World) (e : Ending) (w' : World) : Prop :=
  ∃ tv, e = .returned tv ∧ TabR w w' ty t F (onF H W).1 (onF H W).2.1 tv (onF H W).2.2

set_option maxRecDepth 20000 in
set_option maxHeartbeats 2000000 in
theorem on_any (t : Nat) (F : Nat → Prop) (H W : List Lk) (w : World) (hT : TabS w 55 t F H W) :
    Calls Try.prog 30 #[.pointer (some ⟨t, 0, none⟩)] w (OnPost 55 t F H W w) := by
  obtain ⟨hv, wv, ht, hF⟩ := hT
  obtain ⟨A, ch, rfl, -, -⟩ := ht.held.form
  obtain ⟨C, cw, rfl, -, -⟩ := ht.waits.form
  have htl := ht.lt
  have c1 := ht.cell1
  have H0 : Hid (OnI 55 w w t (.slice A H.length ch) (.slice C W.length cw) (.slice A H.length ch) (.slice none 0 0) (.slice none 0 0) H [] []) := 
    ⟨Mod.refl _ _, ht.blk, ht.held, Own.nil _ _ _, Own.nil _ _ _, fun k h => .inl h, fun k h => by simp [Value.ownBlock] at h, fun k h => by simp [Value.ownBlock] at h, fun k _ h => by simp [Value.ownBlock] at h, fun k _ h => by simp [Value.ownBlock] at h, fun k _ h => by simp [Value.ownBlock] at h, ht.hok, fun l h => by simp at h⟩
  have HT := Lib.hid ht
  have HF := Lib.hid hF
  have hfw : W.length ≤ 256 := by have := ht.few; omega
  have Hsl : Hid (LkSl w C W.length W) := LkSl.of_own ht.waits
  clear ht hF
  go_enter Try.func30, Try.ntmps30
  go_wp2_with fail
  go_loopw [2, 3, 11] (fun told still i wr => ∃ (k : Nat) (A' S T : Option Addr) (c' cs ct : Nat) (Hk Sk Tk : List Lk), k ≤ W.length ∧ i = .int .i64 k ∧ still = .slice S Sk.length cs ∧ told = .slice T Tk.length ct ∧ (W.take k).foldl onStep (H, [], []) = (Hk, Sk, Tk) ∧ OnI 55 w wr t (.slice A H.length ch) (.slice C W.length cw) (.slice A' Hk.length c') (.slice S Sk.length cs) (.slice T Tk.length ct) Hk Sk Tk) (fun _ _ i _ => W.length - (intOf i).toNat)
  case atStart => exact ⟨0, A, none, none, ch, 0, 0, H, [], [], Nat.zero_le _, rfl, rfl, rfl, rfl, H0.out⟩
  case round =>
    obtain ⟨k, A', S, T, c', cs, ct, Hk, Sk, Tk, hk, rfl, rfl, rfl, hfold, hI⟩ := hrel
    have HI := Lib.hid hI
    have Hfold := Lib.hid hfold
    clear hI hfold
    have Hwr : Hid (Own wr 29 4 (.slice C W.length cw) W.length (flat W)) := HT.out.waits.mod HI.out.mod (by
      rintro k hk (e | e)
      · exact own_ne HT.out.waits HT.out.blk (by decide) (e ▸ hk)
      · exact HT.out.apart k e hk)
    have hsz : w.heap.size ≤ wr.heap.size := HI.out.mod.size
    have htr := HI.out.lt
    by_cases hlt : k < W.length
    · obtain ⟨b, off, rfl, hb, hce⟩ := (LkSl.of_own Hwr.out).2 (by omega)
      obtain ⟨e1, e2, e3, e4⟩ := hce k W[k] (List.getElem?_eq_getElem hlt)
      obtain ⟨x1, x2, x3, x4, x5, x6⟩ := (may_iff _).1 (HT.out.wok W[k] (List.getElem_mem hlt))
      have Hxm : Hid (mayB W[k] = true) := HT.out.wok W[k] (List.getElem_mem hlt)
      obtain ⟨x, hxe⟩ : ∃ x, W[k] = x := ⟨_, rfl⟩
      have Hx : Hid (W[k]? = some x) := by show _ = _; rw [List.getElem?_eq_getElem hlt, hxe]
      rw [hxe] at e1 e2 e3 e4 x1 x2 x3 x4 x5 x6 Hxm
      clear hce hxe
      have q0 : ∀ wx, Ext (wr.alloc (.cells #[.int .i64 x.who, .int .i64 x.pos, .int .i64 x.num, .bool x.sh] 29)) wx → wx.cell? ⟨wr.heap.size, 0, none⟩ = some (.int .i64 x.who) := fun wx h => h.cell_new 0
      have q1 : ∀ wx, Ext (wr.alloc (.cells #[.int .i64 x.who, .int .i64 x.pos, .int .i64 x.num, .bool x.sh] 29)) wx → wx.cell? ⟨wr.heap.size, 1, none⟩ = some (.int .i64 x.pos) := fun wx h => h.cell_new 1
      have q2 : ∀ wx, Ext (wr.alloc (.cells #[.int .i64 x.who, .int .i64 x.pos, .int .i64 x.num, .bool x.sh] 29)) wx → wx.cell? ⟨wr.heap.size, 2, none⟩ = some (.int .i64 x.num) := fun wx h => h.cell_new 2
      have q3 : ∀ wx, Ext (wr.alloc (.cells #[.int .i64 x.who, .int .i64 x.pos, .int .i64 x.num, .bool x.sh] 29)) wx → wx.cell? ⟨wr.heap.size, 3, none⟩ = some (.bool x.sh) := fun wx h => h.cell_new 3
      have qs : ∀ wx, Ext (wr.alloc (.cells #[.int .i64 x.who, .int .i64 x.pos, .int .i64 x.num, .bool x.sh] 29)) wx → wr.heap.size < wx.heap.size := fun wx h => h.lt_new
      have e0 : Ext wr (wr.alloc (.cells #[.int .i64 x.who, .int .i64 x.pos, .int .i64 x.num, .bool x.sh] 29)) := (Ext.refl _).alloc _
      have k0 : ∀ wx, Ext (wr.alloc (.cells #[.int .i64 x.who, .int .i64 x.pos, .int .i64 x.num, .bool x.sh] 29)) wx → wx.cell? ⟨t, 0, none⟩ = some (.slice A' Hk.length c') := fun wx h => ((e0.trans h).cell htr).trans HI.out.cell0
      have HIx : Hid (∀ wx, Ext (wr.alloc (.cells #[.int .i64 x.who, .int .i64 x.pos, .int .i64 x.num, .bool x.sh] 29)) wx → OnI 55 w wx t (.slice A H.length ch) (.slice (some ⟨b, off, none⟩) W.length cw) (.slice A' Hk.length c') (.slice S Sk.length cs) (.slice T Tk.length ct) Hk Sk Tk) := fun wx h => HI.out.ext (e0.trans h)
      have Hlen := Lib.hid (onF_len (W.take k) (H, [], []))
      rw [Hfold.out] at Hlen
      have hlen : Hk.length + Sk.length ≤ 256 ∧ Tk.length + Sk.length ≤ 256 := by
        have h1 := Hlen.out; have h2 := HT.out.few
        simp only [List.length_nil, Nat.add_zero, Nat.zero_add, List.length_take] at h1
        omega
      obtain ⟨hl1, hl2⟩ := hlen
      cases hm1 : meetsB x Hk with
      | true =>
        go_wp2_with fail
        refine region_lin (fun wx => Ext (wr.alloc (.cells #[.int .i64 x.who, .int .i64 x.pos, .int .i64 x.num, .bool x.sh] 29)) wx) 100000 [(0, 0), (1, 0), (2, 0), (3, 0), (4, 0), (5, 1), (6, 0), (7, 0), (8, 0), (9, 1), (10, 0)] ?_ (by kernel_rfl) (by kernel_rfl) ?_ (fun _ _ _ _ _ h => h) ((Ext.refl _).drew) ?_
        rotate_left
        (simp only [planOps, List.mapM_cons, List.mapM_nil, List.getElem?_toArray, List.getElem?_cons_zero, List.getElem?_cons_succ, Option.map_some, Option.bind_eq_bind, Option.bind_some, Option.pure_def]; rfl)
        intro wd hwd hxd
        clear hxd
        repeat (first | (refine lin_take ?_ (by rfl) (fun wx hx => ?_) ?_; rotate_left; go_simp; (with_reducible rfl); try simp only [Act.put, List.setIfInBounds_toArray, List.set_cons_zero, List.set_cons_succ]) | (refine lin_skip (by rfl) ?_; try simp only [Act.put, List.setIfInBounds_toArray, List.set_cons_zero, List.set_cons_succ]) | (refine lin_take3 ?_ (by rfl) (fun wx hx => ?_) ?_; rotate_left; go_simp; (with_reducible rfl); try simp only [Act.put, List.setIfInBounds_toArray, List.set_cons_zero, List.set_cons_succ]))
        refine lin_run (by rfl) (fun K hK => ?_)
        go_simp
        refine (meets_any _ _ _ _ _ _ _ Hk _ x3 x4 (by omega) (by omega) (LkSl.of_own (HIx.out _ hwd).ho) HI.out.hok).mono ?_
        rintro e w1 ⟨rfl, hb1⟩
        refine hK _ _ (hwd.trans hb1) ?_
        rw [show meetsB ⟨x.who, x.pos, x.num, x.sh⟩ Hk = true from hm1]
        try simp only [Act.put, List.setIfInBounds_toArray, List.set_cons_zero, List.set_cons_succ]
        repeat (first | (refine lin_take ?_ (by rfl) (fun wx hx => ?_) ?_; rotate_left; go_simp; (with_reducible rfl); try simp only [Act.put, List.setIfInBounds_toArray, List.set_cons_zero, List.set_cons_succ]) | (refine lin_skip (by rfl) ?_; try simp only [Act.put, List.setIfInBounds_toArray, List.set_cons_zero, List.set_cons_succ]) | (refine lin_take3 ?_ (by rfl) (fun wx hx => ?_) ?_; rotate_left; go_simp; (with_reducible rfl); try simp only [Act.put, List.setIfInBounds_toArray, List.set_cons_zero, List.set_cons_succ]))
        refine lin_pass (by rfl) (hwd.trans hb1) ?_
        try simp only [Act.put, List.setIfInBounds_toArray, List.set_cons_zero, List.set_cons_succ]
        repeat (first | (refine lin_take ?_ (by rfl) (fun wx hx => ?_) ?_; rotate_left; go_simp; (with_reducible rfl); try simp only [Act.put, List.setIfInBounds_toArray, List.set_cons_zero, List.set_cons_succ]) | (refine lin_skip (by rfl) ?_; try simp only [Act.put, List.setIfInBounds_toArray, List.set_cons_zero, List.set_cons_succ]) | (refine lin_take3 ?_ (by rfl) (fun wx hx => ?_) ?_; rotate_left; go_simp; (with_reducible rfl); try simp only [Act.put, List.setIfInBounds_toArray, List.set_cons_zero, List.set_cons_succ]))
        refine lin_nil ?_
        have e5 := hwd.trans hb1
        have hI5 : Hid (OnI 55 w w1 t (.slice A H.length ch) (.slice (some ⟨b, off, none⟩) W.length cw) (.slice A' Hk.length c') (.slice S Sk.length cs) (.slice T Tk.length ct) Hk Sk Tk) := HIx.out _ e5
        have r0 := q0 _ e5
        have r1 := q1 _ e5
        have r2 := q2 _ e5
        have r3 := q3 _ e5
        have hs5 : w.heap.size ≤ w1.heap.size := by have := e5.size; simp at this; omega
        clear hwd hb1 k0 q0 q1 q2 q3 qs
        obtain ⟨i, hi, hz, hs, hby⟩ := info_parts Try.info29
        go_wp2_with (at_builtin; refine wpList_append_own_any _ rfl (.tmp 26) (.tmp 28) 25 rfl 29 i _ 4 32 Try.underlying25 hi hz hs hby rfl (by decide) (.slice S Sk.length cs) Sk.length (flat Sk) rfl ((hI5.out.ext ((Ext.refl _).alloc _)).so) (some ⟨w1.heap.size, 0, none⟩) 1 1 (Lk.enc x) rfl rfl (fun _ => ⟨_, rfl, new_cells _ _ _⟩) (flat_one [x]) (by unfold maxLen; omega) (by omega) ?_)
        intro v' w3 ho hg hv'
        have hfin : Hid (OnI 55 w w3 t (.slice A H.length ch) (.slice (some ⟨b, off, none⟩) W.length cw) (.slice A' Hk.length c') v' (.slice T Tk.length ct) Hk (Sk ++ [x]) Tk) := (hI5.out.ext ((Ext.refl _).alloc _)).still (by decide) (by simp; omega) ho hg (by simpa using hv') Hxm.out
        obtain ⟨S', cs', rfl, -, -⟩ := ho.form
        clear ho hg hv'
        go_wp2_with fail
        go_roundw
        case rel =>
          refine ⟨k + 1, A', S', T, c', cs', ct, Hk, Sk ++ [x], Tk, by omega, by go_num, by simp, rfl, ?_, by rw [List.length_append]; exact hfin.out⟩
          rw [onF_take Hx.out, Hfold.out]
          simp [onStep, hm1]
        case measure => simp [intOf]; omega
      | false =>
        cases hm2 : meetsB x Sk with
        | true =>
          go_wp2_with fail
          refine region_lin (fun wx => Ext (wr.alloc (.cells #[.int .i64 x.who, .int .i64 x.pos, .int .i64 x.num, .bool x.sh] 29)) wx) 100000 [(0, 0), (1, 0), (2, 0), (3, 0), (4, 0), (5, 1), (6, 0), (7, 0), (8, 0), (9, 1), (10, 0)] ?_ (by kernel_rfl) (by kernel_rfl) ?_ (fun _ _ _ _ _ h => h) ((Ext.refl _).drew) ?_
          rotate_left
          (simp only [planOps, List.mapM_cons, List.mapM_nil, List.getElem?_toArray, List.getElem?_cons_zero, List.getElem?_cons_succ, Option.map_some, Option.bind_eq_bind, Option.bind_some, Option.pure_def]; rfl)
          intro wd hwd hxd
          clear hxd
          repeat (first | (refine lin_take ?_ (by rfl) (fun wx hx => ?_) ?_; rotate_left; go_simp; (with_reducible rfl); try simp only [Act.put, List.setIfInBounds_toArray, List.set_cons_zero, List.set_cons_succ]) | (refine lin_skip (by rfl) ?_; try simp only [Act.put, List.setIfInBounds_toArray, List.set_cons_zero, List.set_cons_succ]) | (refine lin_take3 ?_ (by rfl) (fun wx hx => ?_) ?_; rotate_left; go_simp; (with_reducible rfl); try simp only [Act.put, List.setIfInBounds_toArray, List.set_cons_zero, List.set_cons_succ]))
          refine lin_run (by rfl) (fun K hK => ?_)
          go_simp
          refine (meets_any _ _ _ _ _ _ _ Hk _ x3 x4 (by omega) (by omega) (LkSl.of_own (HIx.out _ hwd).ho) HI.out.hok).mono ?_
          rintro e w1 ⟨rfl, hb1⟩
          refine hK _ _ (hwd.trans hb1) ?_
          rw [show meetsB ⟨x.who, x.pos, x.num, x.sh⟩ Hk = false from hm1]
          try simp only [Act.put, List.setIfInBounds_toArray, List.set_cons_zero, List.set_cons_succ]
          repeat (first | (refine lin_take ?_ (by rfl) (fun wx hx => ?_) ?_; rotate_left; go_simp; (with_reducible rfl); try simp only [Act.put, List.setIfInBounds_toArray, List.set_cons_zero, List.set_cons_succ]) | (refine lin_skip (by rfl) ?_; try simp only [Act.put, List.setIfInBounds_toArray, List.set_cons_zero, List.set_cons_succ]) | (refine lin_take3 ?_ (by rfl) (fun wx hx => ?_) ?_; rotate_left; go_simp; (with_reducible rfl); try simp only [Act.put, List.setIfInBounds_toArray, List.set_cons_zero, List.set_cons_succ]))
          refine lin_run (by rfl) (fun K hK => ?_)
          go_simp
          refine (meets_any _ _ _ _ _ _ _ Sk _ x3 x4 (by omega) (by omega) (LkSl.of_own (HIx.out _ (hwd.trans hb1)).so) HI.out.sok).mono ?_
          rintro e w2 ⟨rfl, hb2⟩
          refine hK _ _ (hwd.trans (hb1.trans hb2)) ?_
          rw [show meetsB ⟨x.who, x.pos, x.num, x.sh⟩ Sk = true from hm2]
          try simp only [Act.put, List.setIfInBounds_toArray, List.set_cons_zero, List.set_cons_succ]
          repeat (first | (refine lin_take ?_ (by rfl) (fun wx hx => ?_) ?_; rotate_left; go_simp; (with_reducible rfl); try simp only [Act.put, List.setIfInBounds_toArray, List.set_cons_zero, List.set_cons_succ]) | (refine lin_skip (by rfl) ?_; try simp only [Act.put, List.setIfInBounds_toArray, List.set_cons_zero, List.set_cons_succ]) | (refine lin_take3 ?_ (by rfl) (fun wx hx => ?_) ?_; rotate_left; go_simp; (with_reducible rfl); try simp only [Act.put, List.setIfInBounds_toArray, List.set_cons_zero, List.set_cons_succ]))
          refine lin_nil ?_
          have e5 := hwd.trans (hb1.trans hb2)
          have hI5 : Hid (OnI 55 w w2 t (.slice A H.length ch) (.slice (some ⟨b, off, none⟩) W.length cw) (.slice A' Hk.length c') (.slice S Sk.length cs) (.slice T Tk.length ct) Hk Sk Tk) := HIx.out _ e5
          have r0 := q0 _ e5
          have r1 := q1 _ e5
          have r2 := q2 _ e5
          have r3 := q3 _ e5
          have hs5 : w.heap.size ≤ w2.heap.size := by have := e5.size; simp at this; omega
          clear hwd hb1 hb2 k0 q0 q1 q2 q3 qs
          obtain ⟨i, hi, hz, hs, hby⟩ := info_parts Try.info29
          go_wp2_with (at_builtin; refine wpList_append_own_any _ rfl (.tmp 26) (.tmp 28) 25 rfl 29 i _ 4 32 Try.underlying25 hi hz hs hby rfl (by decide) (.slice S Sk.length cs) Sk.length (flat Sk) rfl ((hI5.out.ext ((Ext.refl _).alloc _)).so) (some ⟨w2.heap.size, 0, none⟩) 1 1 (Lk.enc x) rfl rfl (fun _ => ⟨_, rfl, new_cells _ _ _⟩) (flat_one [x]) (by unfold maxLen; omega) (by omega) ?_)
          intro v' w3 ho hg hv'
          have hfin : Hid (OnI 55 w w3 t (.slice A H.length ch) (.slice (some ⟨b, off, none⟩) W.length cw) (.slice A' Hk.length c') v' (.slice T Tk.length ct) Hk (Sk ++ [x]) Tk) := (hI5.out.ext ((Ext.refl _).alloc _)).still (by decide) (by simp; omega) ho hg (by simpa using hv') Hxm.out
          obtain ⟨S', cs', rfl, -, -⟩ := ho.form
          clear ho hg hv'
          go_wp2_with fail
          go_roundw
          case rel =>
            refine ⟨k + 1, A', S', T, c', cs', ct, Hk, Sk ++ [x], Tk, by omega, by go_num, by simp, rfl, ?_, by rw [List.length_append]; exact hfin.out⟩
            rw [onF_take Hx.out, Hfold.out]
            simp [onStep, hm1, hm2]
          case measure => simp [intOf]; omega
        | false =>
          go_wp2_with fail
          refine region_lin (fun wx => Ext (wr.alloc (.cells #[.int .i64 x.who, .int .i64 x.pos, .int .i64 x.num, .bool x.sh] 29)) wx) 100000 [(0, 0), (1, 0), (2, 0), (3, 0), (4, 0), (5, 1), (6, 0), (7, 0), (8, 0), (9, 1), (10, 0)] ?_ (by kernel_rfl) (by kernel_rfl) ?_ (fun _ _ _ _ _ h => h) ((Ext.refl _).drew) ?_
          rotate_left
          (simp only [planOps, List.mapM_cons, List.mapM_nil, List.getElem?_toArray, List.getElem?_cons_zero, List.getElem?_cons_succ, Option.map_some, Option.bind_eq_bind, Option.bind_some, Option.pure_def]; rfl)
          intro wd hwd hxd
          clear hxd
          repeat (first | (refine lin_take ?_ (by rfl) (fun wx hx => ?_) ?_; rotate_left; go_simp; (with_reducible rfl); try simp only [Act.put, List.setIfInBounds_toArray, List.set_cons_zero, List.set_cons_succ]) | (refine lin_skip (by rfl) ?_; try simp only [Act.put, List.setIfInBounds_toArray, List.set_cons_zero, List.set_cons_succ]) | (refine lin_take3 ?_ (by rfl) (fun wx hx => ?_) ?_; rotate_left; go_simp; (with_reducible rfl); try simp only [Act.put, List.setIfInBounds_toArray, List.set_cons_zero, List.set_cons_succ]))
          refine lin_run (by rfl) (fun K hK => ?_)
          go_simp
          refine (meets_any _ _ _ _ _ _ _ Hk _ x3 x4 (by omega) (by omega) (LkSl.of_own (HIx.out _ hwd).ho) HI.out.hok).mono ?_
          rintro e w1 ⟨rfl, hb1⟩
          refine hK _ _ (hwd.trans hb1) ?_
          rw [show meetsB ⟨x.who, x.pos, x.num, x.sh⟩ Hk = false from hm1]
          try simp only [Act.put, List.setIfInBounds_toArray, List.set_cons_zero, List.set_cons_succ]
          repeat (first | (refine lin_take ?_ (by rfl) (fun wx hx => ?_) ?_; rotate_left; go_simp; (with_reducible rfl); try simp only [Act.put, List.setIfInBounds_toArray, List.set_cons_zero, List.set_cons_succ]) | (refine lin_skip (by rfl) ?_; try simp only [Act.put, List.setIfInBounds_toArray, List.set_cons_zero, List.set_cons_succ]) | (refine lin_take3 ?_ (by rfl) (fun wx hx => ?_) ?_; rotate_left; go_simp; (with_reducible rfl); try simp only [Act.put, List.setIfInBounds_toArray, List.set_cons_zero, List.set_cons_succ]))
          refine lin_run (by rfl) (fun K hK => ?_)
          go_simp
          refine (meets_any _ _ _ _ _ _ _ Sk _ x3 x4 (by omega) (by omega) (LkSl.of_own (HIx.out _ (hwd.trans hb1)).so) HI.out.sok).mono ?_
          rintro e w2 ⟨rfl, hb2⟩
          refine hK _ _ (hwd.trans (hb1.trans hb2)) ?_
          rw [show meetsB ⟨x.who, x.pos, x.num, x.sh⟩ Sk = false from hm2]
          try simp only [Act.put, List.setIfInBounds_toArray, List.set_cons_zero, List.set_cons_succ]
          repeat (first | (refine lin_take ?_ (by rfl) (fun wx hx => ?_) ?_; rotate_left; go_simp; (with_reducible rfl); try simp only [Act.put, List.setIfInBounds_toArray, List.set_cons_zero, List.set_cons_succ]) | (refine lin_skip (by rfl) ?_; try simp only [Act.put, List.setIfInBounds_toArray, List.set_cons_zero, List.set_cons_succ]) | (refine lin_take3 ?_ (by rfl) (fun wx hx => ?_) ?_; rotate_left; go_simp; (with_reducible rfl); try simp only [Act.put, List.setIfInBounds_toArray, List.set_cons_zero, List.set_cons_succ]))
          refine lin_nil ?_
          have e5 := hwd.trans (hb1.trans hb2)
          have hI5 : Hid (OnI 55 w w2 t (.slice A H.length ch) (.slice (some ⟨b, off, none⟩) W.length cw) (.slice A' Hk.length c') (.slice S Sk.length cs) (.slice T Tk.length ct) Hk Sk Tk) := HIx.out _ e5
          have r0 := q0 _ e5
          have r1 := q1 _ e5
          have r2 := q2 _ e5
          have r3 := q3 _ e5
          have hs5 : w.heap.size ≤ w2.heap.size := by have := e5.size; simp at this; omega
          have hs6 : wr.heap.size < w2.heap.size := qs _ e5
          clear hwd hb1 hb2 k0 q0 q1 q2 q3 qs
          obtain ⟨i, hi, hz, hs, hby⟩ := info_parts Try.info29
          have hne : (Value.slice A' Hk.length c').ownBlock ≠ some t := own_ne hI5.out.ho hI5.out.blk (by decide)
          have hlo : ∀ k, (Value.slice A' Hk.length c').ownBlock = some k → k < wr.heap.size := HI.out.ho.lt
          have ht2 := hI5.out.lt
          have HM : Hid (∀ wx, Mod (fun k => (Value.slice A' Hk.length c').ownBlock = some k) w2 wx → Mod (fun k => (Value.slice A' Hk.length c').ownBlock = some k) w2 wx) := fun wx h => h
          have k0 : ∀ wx, Mod (fun k => (Value.slice A' Hk.length c').ownBlock = some k) w2 wx → wx.cell? ⟨t, 0, none⟩ = some (.slice A' Hk.length c') := fun wx h => (h.cell ht2 hne).trans hI5.out.cell0
          have kb : ∀ wx i, Mod (fun k => (Value.slice A' Hk.length c').ownBlock = some k) w2 wx → wx.cell? ⟨wr.heap.size, i, none⟩ = w2.cell? ⟨wr.heap.size, i, none⟩ := fun wx i h => h.cell hs6 (fun hk => absurd (hlo _ hk) (Nat.lt_irrefl _))
          have kf : ∀ wx i, Mod (fun k => (Value.slice A' Hk.length c').ownBlock = some k) w2 wx → wx.frozen? ⟨t, i, none⟩ = false := fun wx i h => (h.frozen ht2 hne).trans (hI5.out.frozen i)
          have Hlo := Lib.hid hlo
          clear hlo
          go_wp2_with fail
          refine region_lin (fun wx => Mod (fun k => (Value.slice A' Hk.length c').ownBlock = some k) w2 wx) 10 [(0, 0), (1, 0), (2, 0), (3, 0), (4, 0), (5, 0), (6, 1), (7, 1), (8, 0), (9, 0), (10, 2)] ?_ (by kernel_rfl) (by kernel_rfl) ?_ (fun _ _ _ _ _ h => h) ((Mod.refl _ _).drew) ?_
          rotate_left
          (simp only [planOps, List.mapM_cons, List.mapM_nil, List.getElem?_toArray, List.getElem?_cons_zero, List.getElem?_cons_succ, Option.map_some, Option.bind_eq_bind, Option.bind_some, Option.pure_def]; rfl)
          intro wd hwd hxd
          repeat (first | (refine lin_take ?_ (by rfl) (fun wx hx => ?_) ?_; rotate_left; go_simp; (with_reducible rfl); try simp only [Act.put, List.setIfInBounds_toArray, List.set_cons_zero, List.set_cons_succ]) | (refine lin_skip (by rfl) ?_; try simp only [Act.put, List.setIfInBounds_toArray, List.set_cons_zero, List.set_cons_succ]) | (refine lin_take3 ?_ (by rfl) (fun wx hx => ?_) ?_; rotate_left; go_simp; (with_reducible rfl); try simp only [Act.put, List.setIfInBounds_toArray, List.set_cons_zero, List.set_cons_succ]))
          refine lin_run (by rfl) (fun K hK => ?_)
          go_simp
          refine hK _ _ (hwd.alloc _) ?_
          refine lin_run (by rfl) (fun K2 hK2 => ?_)
          have hId : Hid (OnI 55 w (wd.alloc (.cells #[.int .i64 x.who, .int .i64 x.pos, .int .i64 x.num, .bool x.sh] 29)) t (.slice A H.length ch) (.slice (some ⟨b, off, none⟩) W.length cw) (.slice A' Hk.length c') (.slice S Sk.length cs) (.slice T Tk.length ct) Hk Sk Tk) := hI5.out.ext (hxd.alloc _)
          have hsd := hxd.size
          refine wp_append_own_any _ (.tmp 34) (.tmp 36) 25 rfl 29 i _ 4 32 Try.underlying25 hi hz hs hby rfl (by decide) (.slice A' Hk.length c') Hk.length (flat Hk) rfl hId.out.ho (some ⟨wd.heap.size, 0, none⟩) 1 1 (Lk.enc x) rfl rfl
            (fun _ => ⟨_, rfl, new_cells _ _ _⟩) (flat_one [x]) (by unfold maxLen; omega) (by omega) ?_
          intro v' w3 ho hg hv'
          have hw3 := (hwd.alloc (.cells #[.int .i64 x.who, .int .i64 x.pos, .int .i64 x.num, .bool x.sh] 29)).grown hg (fun k hk _ => hk)
          obtain ⟨A2, c2, rfl, -, -⟩ := ho.form
          have hI6 : Hid (OnI 55 w (w3.setCell ⟨t, 0, none⟩ (.slice A2 (Hk.length + 1) c2)) t (.slice A H.length ch) (.slice (some ⟨b, off, none⟩) W.length cw) (.slice A2 (Hk.length + 1) c2) (.slice S Sk.length cs) (.slice T Tk.length ct) (Hk ++ [x]) Sk Tk) := hId.out.held (by decide) (by simp; omega) ho hg hv' Hxm.out
          have hs3 := hw3.size
          refine hK2 _ _ hw3 ?_
          clear ho hg hv'
          try simp only [Act.put, List.setIfInBounds_toArray, List.set_cons_zero, List.set_cons_succ]
          repeat (first | (refine lin_take ?_ (by rfl) (fun wx hx => ?_) ?_; rotate_left; go_simp; (with_reducible rfl); try simp only [Act.put, List.setIfInBounds_toArray, List.set_cons_zero, List.set_cons_succ]) | (refine lin_skip (by rfl) ?_; try simp only [Act.put, List.setIfInBounds_toArray, List.set_cons_zero, List.set_cons_succ]) | (refine lin_take3 ?_ (by rfl) (fun wx hx => ?_) ?_; rotate_left; go_simp; (with_reducible rfl); try simp only [Act.put, List.setIfInBounds_toArray, List.set_cons_zero, List.set_cons_succ]))
          refine lin_last (by rfl) (fun K3 hK3 => ?_)
          go_simp
          refine hK3 _ _ trivial ?_
          have s0 := (kb _ 0 hw3).trans r0
          have s1 := (kb _ 1 hw3).trans r1
          have s2 := (kb _ 2 hw3).trans r2
          have s3 := (kb _ 3 hw3).trans r3
          have hnt : ∀ i, (⟨t, 0, none⟩ : Addr) ≠ ⟨wr.heap.size, i, none⟩ := fun i e => by injection e with e; omega
          have u0 := (World.cell?_setCell_other w3 ⟨t, 0, none⟩ ⟨wr.heap.size, 0, none⟩ (.slice A2 (Hk.length + 1) c2) (hnt 0)).trans s0
          have u1 := (World.cell?_setCell_other w3 ⟨t, 0, none⟩ ⟨wr.heap.size, 1, none⟩ (.slice A2 (Hk.length + 1) c2) (hnt 1)).trans s1
          have u2 := (World.cell?_setCell_other w3 ⟨t, 0, none⟩ ⟨wr.heap.size, 2, none⟩ (.slice A2 (Hk.length + 1) c2) (hnt 2)).trans s2
          have u3 := (World.cell?_setCell_other w3 ⟨t, 0, none⟩ ⟨wr.heap.size, 3, none⟩ (.slice A2 (Hk.length + 1) c2) (hnt 3)).trans s3
          clear k0 kb kf hw3 hwd hxd r0 r1 r2 r3 s0 s1 s2 s3 hnt
          generalize w3.setCell ⟨t, 0, none⟩ (.slice A2 (Hk.length + 1) c2) = w4 at *
          have hs4 : w.heap.size ≤ w4.heap.size := hI6.out.mod.size
          go_wp2_with (at_builtin; refine wpList_append_own_any _ rfl (.tmp 40) (.tmp 42) 25 rfl 29 i _ 4 32 Try.underlying25 hi hz hs hby rfl (by decide) (.slice T Tk.length ct) Tk.length (flat Tk) rfl ((hI6.out.ext ((Ext.refl _).alloc _)).to) (some ⟨w4.heap.size, 0, none⟩) 1 1 (Lk.enc x) rfl rfl (fun _ => ⟨_, rfl, new_cells _ _ _⟩) (flat_one [x]) (by unfold maxLen; omega) (by omega) ?_)
          intro v' w5 ho hg hv'
          have hfin : Hid (OnI 55 w w5 t (.slice A H.length ch) (.slice (some ⟨b, off, none⟩) W.length cw) (.slice A2 (Hk.length + 1) c2) (.slice S Sk.length cs) v' (Hk ++ [x]) Sk (Tk ++ [x])) := (hI6.out.ext ((Ext.refl _).alloc _)).told (by decide) (by simp; omega) ho hg (by simpa using hv')
          obtain ⟨T', ct', rfl, -, -⟩ := ho.form
          clear ho hg hv'
          go_wp2_with fail
          go_roundw
          case rel =>
            refine ⟨k + 1, A2, S, T', c2, cs, ct', Hk ++ [x], Sk, Tk ++ [x], by omega, by go_num, rfl, by simp, ?_, by rw [List.length_append, List.length_append]; exact hfin.out⟩
            rw [onF_take Hx.out, Hfold.out]
            simp [onStep, hm1, hm2]
          case measure => simp [intOf]; omega
    · have cc := HI.out.cell1
      have ff := HI.out.frozen 1
      have hkn : k = W.length := by omega
      have Hend : Hid (TabR w (wr.setCell ⟨t, 1, none⟩ (.slice S Sk.length cs)) 55 t F (onF H W).1 (onF H W).2.1 (.slice T Tk.length ct) (onF H W).2.2) := by
        have h1 := Hfold.out
        rw [hkn, List.take_length] at h1
        have h2 : onF H W = (Hk, Sk, Tk) := h1
        rw [h2]
        refine HI.out.done (by decide) HF.out ?_ htl
        have h3 := (onF_len W (H, [], [])).1
        rw [h1] at h3
        have := HT.out.few
        simp only [List.length_nil, Nat.add_zero] at h3
        omega
      clear hkn
      go_wp2_with fail
      go_ret
      exact ⟨_, rfl, Hend.out⟩
end Go.Proofs.Ytpjgfkdnjkfnfaa
