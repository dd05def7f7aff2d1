/- The statement LockPlays: the program's table and the document's go the same way; the walk. -/
import Derived.Test.YtpjgfkdnjkfnfaaPJ
namespace Go.Proofs.Ytpjgfkdnjkfnfaa
open Go.RowKit Go.Maps

def S0 (w0 wr : World) (t r : Nat) (H W : List Lk) : Prop := ∃ G1 G2, TT w0 wr t r G1 G2 H W H W
theorem few_of {w0 wr t r G1 G2 H W H2 W2} (h : TT w0 wr t r G1 G2 H W H2 W2) : H.length + W.length ≤ 256 := by obtain ⟨hv, wv, ht, _⟩ := h.one; exact ht.few
theorem boxed {w0 w : World} {t r : Nat} {H W : List Lk} (h : S0 w0 w t r H W) (x : Lk) : S2 w0 (w.alloc (.cells x.enc.toArray 29)) t r w.heap.size x H W H W := by
  obtain ⟨G1, G2, h⟩ := h
  refine ⟨G1, G2, h.later ((Ext.refl _).alloc _), fun hk => by have := h.b1 _ hk; omega, fun hk => by have := h.b2 _ hk; omega, by simp, ?_⟩
  have := fun i => cell_of_row (w.alloc (.cells x.enc.toArray 29)) w.heap.size i _ 29 (0, 0) (heap_alloc_new w _)
  exact ⟨this 0, this 1, this 2, this 3⟩

theorem S2.later {w0 w w' t r bx x H W H2 W2} (h : Hid (S2 w0 w t r bx x H W H2 W2)) (he : Ext w w') : Hid (S2 w0 w' t r bx x H W H2 W2) := by
  obtain ⟨G1, G2, h, hb⟩ := h.out
  exact ⟨G1, G2, h.later he, hb.mod he (fun f => f) hb.n1 hb.n2⟩
theorem onF_told (H W : List Lk) : (onF H W).2.2.length ≤ W.length := by
  have := (onF_len W (H, [], [])).2
  simp only [List.length_nil, Nat.zero_add] at this
  show (W.foldl onStep (H, [], [])).2.2.length ≤ _
  omega
theorem freeF_told {l : Lk} {H W H' W' told : List Lk} {e : Int} (h : freeF l H W = (e, H', W', told)) : told.length ≤ W.length := by
  unfold freeF at h
  split at h
  · injection h with _ h; injection h with _ h; injection h with _ h; subst h; simp
  · split at h
    · injection h with _ h; injection h with _ h; injection h with _ h; subst h; simp
    · injection h with _ h; injection h with _ h; injection h with _ h; subst h; exact onF_told _ _
theorem leaveF_told {who : Int} {H W H' W' told : List Lk} (h : leaveF who H W = (H', W', told)) : told.length ≤ W.length := by
  have := onF_told (others who H) (others who W)
  unfold leaveF at h
  rw [h] at this
  exact Nat.le_trans this (others_len who W)

set_option maxRecDepth 20000 in
set_option maxHeartbeats 20000000 in
theorem lockPlays_walk (A : Option Addr) (n c : Nat) (xs : List Step) (w : World) (hxs : StSl w A n xs) (hn : n ≤ maxLen) :
    Calls Try.prog 5 #[.slice A n c] w fun e w' => e = .returned (.bool true) ∧ Ext w w' := by
  have HX := Lib.hid hxs
  have hn' : n ≤ 9223372036854775807 := by unfold maxLen at hn; omega
  clear hxs hn
  go_enter Try.func5, Try.ntmps5
  go_wp2_with fail
  refine (new_any w).mono ?_
  rintro e w1 ⟨rfl, hx1, hT1⟩
  obtain ⟨t, ht⟩ : ∃ t, w.heap.size = t := ⟨_, rfl⟩
  rw [ht] at hT1 ⊢
  have HT1 := Lib.hid hT1
  have Ht := Lib.hid ht
  clear hT1 ht
  go_wp2_with fail
  refine (refnew_any w1).mono ?_
  rintro e w2 ⟨rfl, hx2, hT2⟩
  obtain ⟨r, hr⟩ : ∃ r, w1.heap.size = r := ⟨_, rfl⟩
  rw [hr] at hT2 ⊢
  have H0 : Hid (S0 w w2 t r [] []) := by
    refine ⟨_, _, hx1.trans hx2, ((HT1.out.lt).ext hx2), hT2.lt, fun k hk => ?_, fun k hk => ?_, fun k hk hg => ?_⟩
    · have := hx2.size; have := Ht.out; omega
    · have := hx1.size; omega
    · omega
  clear hT2 hr hx1 hx2
  go_wp2_with fail
  go_loopw [5] (fun i wr => ∃ (k : Nat) (H W : List Lk), k ≤ n ∧ k ≤ 600 ∧ i = .int .i64 k ∧ S0 w wr t r H W ∧ Inv H W) (fun i _ => n - (intOf i).toNat)
  case atStart => exact ⟨0, [], [], Nat.zero_le _, Nat.zero_le _, rfl, H0.out, Inv.empty⟩
  case round =>
    obtain ⟨k, H, W, hk, hk1, rfl, hT, hI⟩ := hrel
    have HT := Lib.hid hT
    have HI := Lib.hid hI
    have HE : Hid (Ext w wr) := by obtain ⟨G1, G2, h⟩ := hT; exact h.ext
    clear hT hI
    by_cases hlt : k < n
    · by_cases h600 : k < 600
      · have hkl : k < xs.length := by have := HX.out.1; omega
        obtain ⟨b, off, rfl, hb, hce⟩ := (HX.out.ext HE.out).2 (by omega)
        obtain ⟨s0, s1, s2, s3, s4⟩ := hce k xs[k] (List.getElem?_eq_getElem hkl)
        obtain ⟨⟨d, ⟨wa, pa, na, sa⟩⟩, hxe⟩ : ∃ x, xs[k] = x := ⟨_, rfl⟩
        rw [hxe] at s0 s1 s2 s3 s4
        simp only at s0 s1 s2 s3 s4
        have hS : Hid (S2 w (wr.alloc (.cells #[.int .i64 wa, .int .i64 pa, .int .i64 na, .bool sa] 29)) t r wr.heap.size ⟨wa, pa, na, sa⟩ H W H W) := boxed HT.out ⟨wa, pa, na, sa⟩
        have k0 : ∀ wx, Ext wr wx → wx.cell? ⟨b, off + k * 5, none⟩ = some (.int .i8 d) := fun wx h => h.cell_some s0
        have k0' := k0 _ ((Ext.refl _).alloc (.cells #[.int .i64 wa, .int .i64 pa, .int .i64 na, .bool sa] 29))
        have c0 : (wr.alloc (.cells #[.int .i64 wa, .int .i64 pa, .int .i64 na, .bool sa] 29)).cell? ⟨wr.heap.size, 0, none⟩ = some (.int .i64 wa) := (S2.at_ hS).1
        have c1 : (wr.alloc (.cells #[.int .i64 wa, .int .i64 pa, .int .i64 na, .bool sa] 29)).cell? ⟨wr.heap.size, 1, none⟩ = some (.int .i64 pa) := (S2.at_ hS).2.1
        have c2 : (wr.alloc (.cells #[.int .i64 wa, .int .i64 pa, .int .i64 na, .bool sa] 29)).cell? ⟨wr.heap.size, 2, none⟩ = some (.int .i64 na) := (S2.at_ hS).2.2.1
        have c3 : (wr.alloc (.cells #[.int .i64 wa, .int .i64 pa, .int .i64 na, .bool sa] 29)).cell? ⟨wr.heap.size, 3, none⟩ = some (.bool sa) := (S2.at_ hS).2.2.2
        clear hce hxe k0
        have hfw : H.length + W.length ≤ 256 := by obtain ⟨G1, G2, h⟩ := HT.out; exact few_of h
        by_cases h0 : d = 0
        · subst h0
          obtain ⟨ee, H1, hv⟩ : ∃ ee H1, tryF ⟨wa, pa, na, sa⟩ H W = ee ∧ tryH ⟨wa, pa, na, sa⟩ H W = H1 := ⟨_, _, rfl, rfl⟩
          have Hv := Lib.hid hv
          have HI1 : Hid (Inv H1 W) := by have := HI.out.tries ⟨wa, pa, na, sa⟩; rw [hv.2] at this; exact this
          clear hv
          go_wp2_with fail
          have b0 : ∀ wx, LkAt wx wr.heap.size 0 ⟨wa, pa, na, sa⟩ → wx.cell? ⟨wr.heap.size, 0, none⟩ = some (.int .i64 wa) := fun wx h => h.1
          have b1 : ∀ wx, LkAt wx wr.heap.size 0 ⟨wa, pa, na, sa⟩ → wx.cell? ⟨wr.heap.size, 1, none⟩ = some (.int .i64 pa) := fun wx h => h.2.1
          have b2 : ∀ wx, LkAt wx wr.heap.size 0 ⟨wa, pa, na, sa⟩ → wx.cell? ⟨wr.heap.size, 2, none⟩ = some (.int .i64 na) := fun wx h => h.2.2.1
          have b3 : ∀ wx, LkAt wx wr.heap.size 0 ⟨wa, pa, na, sa⟩ → wx.cell? ⟨wr.heap.size, 3, none⟩ = some (.bool sa) := fun wx h => h.2.2.2
          clear c0 c1 c2 c3 k0'
          refine region_lin (fun wx => LkAt wx wr.heap.size 0 ⟨wa, pa, na, sa⟩) 100000 [(0, 3), (1, 0), (3, 3), (4, 0), (2, 1), (5, 1), (6, 3)] ?_ (by kernel_rfl) (by kernel_rfl) ?_ (fun _ _ _ _ _ h => h) ((by have := S2.at_ hS; exact this)) ?_
          rotate_left
          (simp only [planOps, List.mapM_cons, List.mapM_nil, List.getElem?_toArray, List.getElem?_cons_zero, List.getElem?_cons_succ, Option.map_some, Option.bind_eq_bind, Option.bind_some, Option.pure_def]; rfl)
          intro wd hwd hxd
          repeat (first | (refine lin_take ?_ (by rfl) (fun wx hx => ?_) ?_; rotate_left; go_simp; (with_reducible rfl); try simp only [Act.put, List.setIfInBounds_toArray, List.set_cons_zero, List.set_cons_succ]) | (refine lin_skip (by rfl) ?_; try simp only [Act.put, List.setIfInBounds_toArray, List.set_cons_zero, List.set_cons_succ]) | (refine lin_take3 ?_ (by rfl) (fun wx hx => ?_) ?_; rotate_left; go_simp; (with_reducible rfl); try simp only [Act.put, List.setIfInBounds_toArray, List.set_cons_zero, List.set_cons_succ]))
          refine lin_run (by rfl) (fun K hK => ?_)
          go_simp
          refine (c_try1 Hv (S2.later hS hxd)).mono ?_
          rintro e w3 ⟨rfl, hS3⟩
          refine hK _ _ (S2.at_ hS3) ?_
          try simp only [Act.put, List.setIfInBounds_toArray, List.set_cons_zero, List.set_cons_succ]
          repeat (first | (refine lin_take ?_ (by rfl) (fun wx hx => ?_) ?_; rotate_left; go_simp; (with_reducible rfl); try simp only [Act.put, List.setIfInBounds_toArray, List.set_cons_zero, List.set_cons_succ]) | (refine lin_skip (by rfl) ?_; try simp only [Act.put, List.setIfInBounds_toArray, List.set_cons_zero, List.set_cons_succ]) | (refine lin_take3 ?_ (by rfl) (fun wx hx => ?_) ?_; rotate_left; go_simp; (with_reducible rfl); try simp only [Act.put, List.setIfInBounds_toArray, List.set_cons_zero, List.set_cons_succ]))
          refine lin_run (by rfl) (fun K hK => ?_)
          go_simp
          refine (c_try2 Hv hS3).mono ?_
          rintro e w4 ⟨rfl, hS4⟩
          refine hK _ _ (S2.at_ hS4) ?_
          try simp only [Act.put, List.setIfInBounds_toArray, List.set_cons_zero, List.set_cons_succ]
          repeat (first | (refine lin_take ?_ (by rfl) (fun wx hx => ?_) ?_; rotate_left; go_simp; (with_reducible rfl); try simp only [Act.put, List.setIfInBounds_toArray, List.set_cons_zero, List.set_cons_succ]) | (refine lin_skip (by rfl) ?_; try simp only [Act.put, List.setIfInBounds_toArray, List.set_cons_zero, List.set_cons_succ]) | (refine lin_take3 ?_ (by rfl) (fun wx hx => ?_) ?_; rotate_left; go_simp; (with_reducible rfl); try simp only [Act.put, List.setIfInBounds_toArray, List.set_cons_zero, List.set_cons_succ]))
          refine lin_nil ?_
          clear hwd hxd b0 b1 b2 b3 hS hS3
          obtain ⟨W1, rfl⟩ : ∃ W1, W1 = W := ⟨_, rfl⟩
          obtain ⟨G1, G2, hTT, -⟩ := hS4.out
          obtain ⟨hv2, wv2, htr, hFr⟩ := hTT.two
          obtain ⟨B, ch2, rfl, -, -⟩ := htr.held.form
          obtain ⟨C, cw2, rfl, -, -⟩ := htr.waits.form
          have HTT := Lib.hid hTT
          have HTr := Lib.hid htr
          have hfew := htr.few
          have j0 : ∀ wx, Ext w4 wx → wx.cell? ⟨r, 0, none⟩ = some (.slice B H1.length ch2) := fun wx h => (HTr.out.ext h).cell0
          have j1 : ∀ wx, Ext w4 wx → wx.cell? ⟨r, 1, none⟩ = some (.slice C W1.length cw2) := fun wx h => (HTr.out.ext h).cell1
          clear hTT htr hFr
          go_wp2_with fail
          refine region_lin (fun wx => Ext w4 wx) 100000 [(0, 3), (2, 3), (3, 3), (4, 3), (5, 0), (1, 1), (6, 1), (7, 3), (8, 3), (9, 3), (11, 3), (12, 3), (13, 3), (14, 0), (10, 1), (15, 1), (16, 3), (17, 3)] ?_ (by kernel_rfl) (by kernel_rfl) ?_ (fun _ _ _ _ _ h => h) ((Ext.refl _).drew) ?_
          rotate_left
          (simp only [planOps, List.mapM_cons, List.mapM_nil, List.getElem?_toArray, List.getElem?_cons_zero, List.getElem?_cons_succ, Option.map_some, Option.bind_eq_bind, Option.bind_some, Option.pure_def]; rfl)
          intro wd5 hwd5 hxd5
          repeat (first | (refine lin_take ?_ (by rfl) (fun wx hx => ?_) ?_; rotate_left; go_simp; (with_reducible rfl); try simp only [Act.put, List.setIfInBounds_toArray, List.set_cons_zero, List.set_cons_succ]) | (refine lin_skip (by rfl) ?_; try simp only [Act.put, List.setIfInBounds_toArray, List.set_cons_zero, List.set_cons_succ]) | (refine lin_take3 ?_ (by rfl) (fun wx hx => ?_) ?_; rotate_left; go_simp; (with_reducible rfl); try simp only [Act.put, List.setIfInBounds_toArray, List.set_cons_zero, List.set_cons_succ]))
          refine lin_run (by rfl) (fun K hK => ?_)
          go_simp
          refine (c_held (HTT.out.one.ext hwd5)).mono ?_
          rintro e w6 ⟨A6, c6, rfl, hx6, ho6, hl6⟩
          refine hK _ _ (hwd5.trans hx6) ?_
          try simp only [Act.put, List.setIfInBounds_toArray, List.set_cons_zero, List.set_cons_succ]
          repeat (first | (refine lin_take ?_ (by rfl) (fun wx hx => ?_) ?_; rotate_left; go_simp; (with_reducible rfl); try simp only [Act.put, List.setIfInBounds_toArray, List.set_cons_zero, List.set_cons_succ]) | (refine lin_skip (by rfl) ?_; try simp only [Act.put, List.setIfInBounds_toArray, List.set_cons_zero, List.set_cons_succ]) | (refine lin_take3 ?_ (by rfl) (fun wx hx => ?_) ?_; rotate_left; go_simp; (with_reducible rfl); try simp only [Act.put, List.setIfInBounds_toArray, List.set_cons_zero, List.set_cons_succ]))
          refine lin_run (by rfl) (fun K hK => ?_)
          go_simp
          refine (c_is_new w4 (hwd5.trans hx6) (by omega) ho6 (fun k hk => by have := hl6.out k hk; have := hwd5.size; omega) (LkSl.of_own (HTr.out.held.ext (hwd5.trans hx6)))).mono ?_
          rintro e w7 ⟨rfl, hx7⟩
          refine hK _ _ hx7 ?_
          try simp only [Act.put, List.setIfInBounds_toArray, List.set_cons_zero, List.set_cons_succ]
          repeat (first | (refine lin_take ?_ (by rfl) (fun wx hx => ?_) ?_; rotate_left; go_simp; (with_reducible rfl); try simp only [Act.put, List.setIfInBounds_toArray, List.set_cons_zero, List.set_cons_succ]) | (refine lin_skip (by rfl) ?_; try simp only [Act.put, List.setIfInBounds_toArray, List.set_cons_zero, List.set_cons_succ]) | (refine lin_take3 ?_ (by rfl) (fun wx hx => ?_) ?_; rotate_left; go_simp; (with_reducible rfl); try simp only [Act.put, List.setIfInBounds_toArray, List.set_cons_zero, List.set_cons_succ]))
          refine lin_run (by rfl) (fun K hK => ?_)
          go_simp
          refine (c_waits (HTT.out.one.ext hx7)).mono ?_
          rintro e w8 ⟨A8, c8, rfl, hx8, ho8, hl8⟩
          refine hK _ _ (hx7.trans hx8) ?_
          try simp only [Act.put, List.setIfInBounds_toArray, List.set_cons_zero, List.set_cons_succ]
          repeat (first | (refine lin_take ?_ (by rfl) (fun wx hx => ?_) ?_; rotate_left; go_simp; (with_reducible rfl); try simp only [Act.put, List.setIfInBounds_toArray, List.set_cons_zero, List.set_cons_succ]) | (refine lin_skip (by rfl) ?_; try simp only [Act.put, List.setIfInBounds_toArray, List.set_cons_zero, List.set_cons_succ]) | (refine lin_take3 ?_ (by rfl) (fun wx hx => ?_) ?_; rotate_left; go_simp; (with_reducible rfl); try simp only [Act.put, List.setIfInBounds_toArray, List.set_cons_zero, List.set_cons_succ]))
          refine lin_run (by rfl) (fun K hK => ?_)
          go_simp
          refine (c_is_new w4 (hx7.trans hx8) (by omega) ho8 (fun k hk => by have := hl8.out k hk; have := hx7.size; omega) (LkSl.of_own (HTr.out.waits.ext (hx7.trans hx8)))).mono ?_
          rintro e w9 ⟨rfl, hx9⟩
          refine hK _ _ hx9 ?_
          try simp only [Act.put, List.setIfInBounds_toArray, List.set_cons_zero, List.set_cons_succ]
          repeat (first | (refine lin_take ?_ (by rfl) (fun wx hx => ?_) ?_; rotate_left; go_simp; (with_reducible rfl); try simp only [Act.put, List.setIfInBounds_toArray, List.set_cons_zero, List.set_cons_succ]) | (refine lin_skip (by rfl) ?_; try simp only [Act.put, List.setIfInBounds_toArray, List.set_cons_zero, List.set_cons_succ]) | (refine lin_take3 ?_ (by rfl) (fun wx hx => ?_) ?_; rotate_left; go_simp; (with_reducible rfl); try simp only [Act.put, List.setIfInBounds_toArray, List.set_cons_zero, List.set_cons_succ]))
          refine lin_nil ?_
          have HF : Hid (S0 w w9 t r H1 W1) := ⟨_, _, HTT.out.later hx9⟩
          clear hwd5 hxd5 hx6 hx7 hx8 hx9 j0 j1 hfew
          go_wp2_with fail
          go_roundw
          case rel => exact ⟨k + 1, H1, W1, by omega, by omega, by go_num, HF.out, HI1.out⟩
          case measure => simp [intOf]; omega
        · by_cases h1 : d = 1
          · subst h1
            obtain ⟨bb, ee, H1, W1, hv⟩ : ∃ bb ee H1 W1, waitF ⟨wa, pa, na, sa⟩ H W = (bb, ee) ∧ waitH ⟨wa, pa, na, sa⟩ H W = (H1, W1) := ⟨_, _, _, _, rfl, rfl⟩
            have Hv := Lib.hid hv
            have HI1 : Hid (Inv H1 W1) := by have := HI.out.waits ⟨wa, pa, na, sa⟩; rw [hv.2] at this; exact this
            clear hv
            go_wp2_with fail
            clear c0 c1 c2 c3 k0'
            refine (c_wait1 Hv hS).mono ?_
            rintro e w3 ⟨rfl, hS3⟩
            have c0 : w3.cell? ⟨wr.heap.size, 0, none⟩ = some (.int .i64 wa) := (S2.at_ hS3).1
            have c1 : w3.cell? ⟨wr.heap.size, 1, none⟩ = some (.int .i64 pa) := (S2.at_ hS3).2.1
            have c2 : w3.cell? ⟨wr.heap.size, 2, none⟩ = some (.int .i64 na) := (S2.at_ hS3).2.2.1
            have c3 : w3.cell? ⟨wr.heap.size, 3, none⟩ = some (.bool sa) := (S2.at_ hS3).2.2.2
            go_wp2_with fail
            clear c0 c1 c2 c3
            refine (c_wait2 Hv HI.out.acyc hS3).mono ?_
            rintro e w4 ⟨rfl, hS4⟩
            clear hS hS3
            cases bb
            all_goals
              obtain ⟨G1, G2, hTT, -⟩ := hS4.out
              obtain ⟨hv2, wv2, htr, hFr⟩ := hTT.two
              obtain ⟨B, ch2, rfl, -, -⟩ := htr.held.form
              obtain ⟨C, cw2, rfl, -, -⟩ := htr.waits.form
              have HTT := Lib.hid hTT
              have HTr := Lib.hid htr
              have hfew := htr.few
              have j0 : ∀ wx, Ext w4 wx → wx.cell? ⟨r, 0, none⟩ = some (.slice B H1.length ch2) := fun wx h => (HTr.out.ext h).cell0
              have j1 : ∀ wx, Ext w4 wx → wx.cell? ⟨r, 1, none⟩ = some (.slice C W1.length cw2) := fun wx h => (HTr.out.ext h).cell1
              clear hTT htr hFr
              go_wp2_with fail
              refine region_lin (fun wx => Ext w4 wx) 100000 [(0, 3), (2, 3), (3, 3), (4, 3), (5, 0), (1, 1), (6, 1), (7, 3), (8, 3), (9, 3), (11, 3), (12, 3), (13, 3), (14, 0), (10, 1), (15, 1), (16, 3), (17, 3)] ?_ (by kernel_rfl) (by kernel_rfl) ?_ (fun _ _ _ _ _ h => h) ((Ext.refl _).drew) ?_
              rotate_left
              (simp only [planOps, List.mapM_cons, List.mapM_nil, List.getElem?_toArray, List.getElem?_cons_zero, List.getElem?_cons_succ, Option.map_some, Option.bind_eq_bind, Option.bind_some, Option.pure_def]; rfl)
              intro wd5 hwd5 hxd5
              repeat (first | (refine lin_take ?_ (by rfl) (fun wx hx => ?_) ?_; rotate_left; go_simp; (with_reducible rfl); try simp only [Act.put, List.setIfInBounds_toArray, List.set_cons_zero, List.set_cons_succ]) | (refine lin_skip (by rfl) ?_; try simp only [Act.put, List.setIfInBounds_toArray, List.set_cons_zero, List.set_cons_succ]) | (refine lin_take3 ?_ (by rfl) (fun wx hx => ?_) ?_; rotate_left; go_simp; (with_reducible rfl); try simp only [Act.put, List.setIfInBounds_toArray, List.set_cons_zero, List.set_cons_succ]))
              refine lin_run (by rfl) (fun K hK => ?_)
              go_simp
              refine (c_held (HTT.out.one.ext hwd5)).mono ?_
              rintro e w6 ⟨A6, c6, rfl, hx6, ho6, hl6⟩
              refine hK _ _ (hwd5.trans hx6) ?_
              try simp only [Act.put, List.setIfInBounds_toArray, List.set_cons_zero, List.set_cons_succ]
              repeat (first | (refine lin_take ?_ (by rfl) (fun wx hx => ?_) ?_; rotate_left; go_simp; (with_reducible rfl); try simp only [Act.put, List.setIfInBounds_toArray, List.set_cons_zero, List.set_cons_succ]) | (refine lin_skip (by rfl) ?_; try simp only [Act.put, List.setIfInBounds_toArray, List.set_cons_zero, List.set_cons_succ]) | (refine lin_take3 ?_ (by rfl) (fun wx hx => ?_) ?_; rotate_left; go_simp; (with_reducible rfl); try simp only [Act.put, List.setIfInBounds_toArray, List.set_cons_zero, List.set_cons_succ]))
              refine lin_run (by rfl) (fun K hK => ?_)
              go_simp
              refine (c_is_new w4 (hwd5.trans hx6) (by omega) ho6 (fun k hk => by have := hl6.out k hk; have := hwd5.size; omega) (LkSl.of_own (HTr.out.held.ext (hwd5.trans hx6)))).mono ?_
              rintro e w7 ⟨rfl, hx7⟩
              refine hK _ _ hx7 ?_
              try simp only [Act.put, List.setIfInBounds_toArray, List.set_cons_zero, List.set_cons_succ]
              repeat (first | (refine lin_take ?_ (by rfl) (fun wx hx => ?_) ?_; rotate_left; go_simp; (with_reducible rfl); try simp only [Act.put, List.setIfInBounds_toArray, List.set_cons_zero, List.set_cons_succ]) | (refine lin_skip (by rfl) ?_; try simp only [Act.put, List.setIfInBounds_toArray, List.set_cons_zero, List.set_cons_succ]) | (refine lin_take3 ?_ (by rfl) (fun wx hx => ?_) ?_; rotate_left; go_simp; (with_reducible rfl); try simp only [Act.put, List.setIfInBounds_toArray, List.set_cons_zero, List.set_cons_succ]))
              refine lin_run (by rfl) (fun K hK => ?_)
              go_simp
              refine (c_waits (HTT.out.one.ext hx7)).mono ?_
              rintro e w8 ⟨A8, c8, rfl, hx8, ho8, hl8⟩
              refine hK _ _ (hx7.trans hx8) ?_
              try simp only [Act.put, List.setIfInBounds_toArray, List.set_cons_zero, List.set_cons_succ]
              repeat (first | (refine lin_take ?_ (by rfl) (fun wx hx => ?_) ?_; rotate_left; go_simp; (with_reducible rfl); try simp only [Act.put, List.setIfInBounds_toArray, List.set_cons_zero, List.set_cons_succ]) | (refine lin_skip (by rfl) ?_; try simp only [Act.put, List.setIfInBounds_toArray, List.set_cons_zero, List.set_cons_succ]) | (refine lin_take3 ?_ (by rfl) (fun wx hx => ?_) ?_; rotate_left; go_simp; (with_reducible rfl); try simp only [Act.put, List.setIfInBounds_toArray, List.set_cons_zero, List.set_cons_succ]))
              refine lin_run (by rfl) (fun K hK => ?_)
              go_simp
              refine (c_is_new w4 (hx7.trans hx8) (by omega) ho8 (fun k hk => by have := hl8.out k hk; have := hx7.size; omega) (LkSl.of_own (HTr.out.waits.ext (hx7.trans hx8)))).mono ?_
              rintro e w9 ⟨rfl, hx9⟩
              refine hK _ _ hx9 ?_
              try simp only [Act.put, List.setIfInBounds_toArray, List.set_cons_zero, List.set_cons_succ]
              repeat (first | (refine lin_take ?_ (by rfl) (fun wx hx => ?_) ?_; rotate_left; go_simp; (with_reducible rfl); try simp only [Act.put, List.setIfInBounds_toArray, List.set_cons_zero, List.set_cons_succ]) | (refine lin_skip (by rfl) ?_; try simp only [Act.put, List.setIfInBounds_toArray, List.set_cons_zero, List.set_cons_succ]) | (refine lin_take3 ?_ (by rfl) (fun wx hx => ?_) ?_; rotate_left; go_simp; (with_reducible rfl); try simp only [Act.put, List.setIfInBounds_toArray, List.set_cons_zero, List.set_cons_succ]))
              refine lin_nil ?_
              have HF : Hid (S0 w w9 t r H1 W1) := ⟨_, _, HTT.out.later hx9⟩
              clear hwd5 hxd5 hx6 hx7 hx8 hx9 j0 j1 hfew
              go_wp2_with fail
              go_roundw
              case rel => exact ⟨k + 1, H1, W1, by omega, by omega, by go_num, HF.out, HI1.out⟩
              case measure => simp [intOf]; omega
          · by_cases h2 : d = 2
            · subst h2
              obtain ⟨ee, H1, W1, tl, hv⟩ : ∃ ee H1 W1 tl, freeF ⟨wa, pa, na, sa⟩ H W = (ee, H1, W1, tl) := ⟨_, _, _, _, rfl⟩
              have Hv := Lib.hid hv
              have htl := freeF_told hv
              have HI1 : Hid (Inv H1 W1) := by have := HI.out.frees ⟨wa, pa, na, sa⟩; rw [hv] at this; exact this
              clear hv
              go_wp2_with fail
              clear c0 c1 c2 c3 k0'
              refine (c_free1 Hv hS).mono ?_
              rintro e w3 ⟨A3, c3, rfl, hS3⟩
              have c0 : w3.cell? ⟨wr.heap.size, 0, none⟩ = some (.int .i64 wa) := (S3.at_ hS3).1
              have c1 : w3.cell? ⟨wr.heap.size, 1, none⟩ = some (.int .i64 pa) := (S3.at_ hS3).2.1
              have c2 : w3.cell? ⟨wr.heap.size, 2, none⟩ = some (.int .i64 na) := (S3.at_ hS3).2.2.1
              have c3 : w3.cell? ⟨wr.heap.size, 3, none⟩ = some (.bool sa) := (S3.at_ hS3).2.2.2
              go_wp2_with fail
              clear c0 c1 c2 c3
              refine (c_free2 Hv hS3).mono ?_
              rintro e w5 ⟨A5, c5, rfl, hS5, hL5⟩
              clear hS hS3
              go_wp2_with fail
              refine (c_is (by omega) hS5 hL5).mono ?_
              rintro e w4 ⟨rfl, hS4⟩
              clear hS5 hL5
              obtain ⟨G1, G2, hTT, -⟩ := hS4.out
              obtain ⟨hv2, wv2, htr, hFr⟩ := hTT.two
              obtain ⟨B, ch2, rfl, -, -⟩ := htr.held.form
              obtain ⟨C, cw2, rfl, -, -⟩ := htr.waits.form
              have HTT := Lib.hid hTT
              have HTr := Lib.hid htr
              have hfew := htr.few
              have j0 : ∀ wx, Ext w4 wx → wx.cell? ⟨r, 0, none⟩ = some (.slice B H1.length ch2) := fun wx h => (HTr.out.ext h).cell0
              have j1 : ∀ wx, Ext w4 wx → wx.cell? ⟨r, 1, none⟩ = some (.slice C W1.length cw2) := fun wx h => (HTr.out.ext h).cell1
              clear hTT htr hFr
              go_wp2_with fail
              refine region_lin (fun wx => Ext w4 wx) 100000 [(0, 3), (2, 3), (3, 3), (4, 3), (5, 0), (1, 1), (6, 1), (7, 3), (8, 3), (9, 3), (11, 3), (12, 3), (13, 3), (14, 0), (10, 1), (15, 1), (16, 3), (17, 3)] ?_ (by kernel_rfl) (by kernel_rfl) ?_ (fun _ _ _ _ _ h => h) ((Ext.refl _).drew) ?_
              rotate_left
              (simp only [planOps, List.mapM_cons, List.mapM_nil, List.getElem?_toArray, List.getElem?_cons_zero, List.getElem?_cons_succ, Option.map_some, Option.bind_eq_bind, Option.bind_some, Option.pure_def]; rfl)
              intro wd5 hwd5 hxd5
              repeat (first | (refine lin_take ?_ (by rfl) (fun wx hx => ?_) ?_; rotate_left; go_simp; (with_reducible rfl); try simp only [Act.put, List.setIfInBounds_toArray, List.set_cons_zero, List.set_cons_succ]) | (refine lin_skip (by rfl) ?_; try simp only [Act.put, List.setIfInBounds_toArray, List.set_cons_zero, List.set_cons_succ]) | (refine lin_take3 ?_ (by rfl) (fun wx hx => ?_) ?_; rotate_left; go_simp; (with_reducible rfl); try simp only [Act.put, List.setIfInBounds_toArray, List.set_cons_zero, List.set_cons_succ]))
              refine lin_run (by rfl) (fun K hK => ?_)
              go_simp
              refine (c_held (HTT.out.one.ext hwd5)).mono ?_
              rintro e w6 ⟨A6, c6, rfl, hx6, ho6, hl6⟩
              refine hK _ _ (hwd5.trans hx6) ?_
              try simp only [Act.put, List.setIfInBounds_toArray, List.set_cons_zero, List.set_cons_succ]
              repeat (first | (refine lin_take ?_ (by rfl) (fun wx hx => ?_) ?_; rotate_left; go_simp; (with_reducible rfl); try simp only [Act.put, List.setIfInBounds_toArray, List.set_cons_zero, List.set_cons_succ]) | (refine lin_skip (by rfl) ?_; try simp only [Act.put, List.setIfInBounds_toArray, List.set_cons_zero, List.set_cons_succ]) | (refine lin_take3 ?_ (by rfl) (fun wx hx => ?_) ?_; rotate_left; go_simp; (with_reducible rfl); try simp only [Act.put, List.setIfInBounds_toArray, List.set_cons_zero, List.set_cons_succ]))
              refine lin_run (by rfl) (fun K hK => ?_)
              go_simp
              refine (c_is_new w4 (hwd5.trans hx6) (by omega) ho6 (fun k hk => by have := hl6.out k hk; have := hwd5.size; omega) (LkSl.of_own (HTr.out.held.ext (hwd5.trans hx6)))).mono ?_
              rintro e w7 ⟨rfl, hx7⟩
              refine hK _ _ hx7 ?_
              try simp only [Act.put, List.setIfInBounds_toArray, List.set_cons_zero, List.set_cons_succ]
              repeat (first | (refine lin_take ?_ (by rfl) (fun wx hx => ?_) ?_; rotate_left; go_simp; (with_reducible rfl); try simp only [Act.put, List.setIfInBounds_toArray, List.set_cons_zero, List.set_cons_succ]) | (refine lin_skip (by rfl) ?_; try simp only [Act.put, List.setIfInBounds_toArray, List.set_cons_zero, List.set_cons_succ]) | (refine lin_take3 ?_ (by rfl) (fun wx hx => ?_) ?_; rotate_left; go_simp; (with_reducible rfl); try simp only [Act.put, List.setIfInBounds_toArray, List.set_cons_zero, List.set_cons_succ]))
              refine lin_run (by rfl) (fun K hK => ?_)
              go_simp
              refine (c_waits (HTT.out.one.ext hx7)).mono ?_
              rintro e w8 ⟨A8, c8, rfl, hx8, ho8, hl8⟩
              refine hK _ _ (hx7.trans hx8) ?_
              try simp only [Act.put, List.setIfInBounds_toArray, List.set_cons_zero, List.set_cons_succ]
              repeat (first | (refine lin_take ?_ (by rfl) (fun wx hx => ?_) ?_; rotate_left; go_simp; (with_reducible rfl); try simp only [Act.put, List.setIfInBounds_toArray, List.set_cons_zero, List.set_cons_succ]) | (refine lin_skip (by rfl) ?_; try simp only [Act.put, List.setIfInBounds_toArray, List.set_cons_zero, List.set_cons_succ]) | (refine lin_take3 ?_ (by rfl) (fun wx hx => ?_) ?_; rotate_left; go_simp; (with_reducible rfl); try simp only [Act.put, List.setIfInBounds_toArray, List.set_cons_zero, List.set_cons_succ]))
              refine lin_run (by rfl) (fun K hK => ?_)
              go_simp
              refine (c_is_new w4 (hx7.trans hx8) (by omega) ho8 (fun k hk => by have := hl8.out k hk; have := hx7.size; omega) (LkSl.of_own (HTr.out.waits.ext (hx7.trans hx8)))).mono ?_
              rintro e w9 ⟨rfl, hx9⟩
              refine hK _ _ hx9 ?_
              try simp only [Act.put, List.setIfInBounds_toArray, List.set_cons_zero, List.set_cons_succ]
              repeat (first | (refine lin_take ?_ (by rfl) (fun wx hx => ?_) ?_; rotate_left; go_simp; (with_reducible rfl); try simp only [Act.put, List.setIfInBounds_toArray, List.set_cons_zero, List.set_cons_succ]) | (refine lin_skip (by rfl) ?_; try simp only [Act.put, List.setIfInBounds_toArray, List.set_cons_zero, List.set_cons_succ]) | (refine lin_take3 ?_ (by rfl) (fun wx hx => ?_) ?_; rotate_left; go_simp; (with_reducible rfl); try simp only [Act.put, List.setIfInBounds_toArray, List.set_cons_zero, List.set_cons_succ]))
              refine lin_nil ?_
              have HF : Hid (S0 w w9 t r H1 W1) := ⟨_, _, HTT.out.later hx9⟩
              clear hwd5 hxd5 hx6 hx7 hx8 hx9 j0 j1 hfew
              go_wp2_with fail
              go_roundw
              case rel => exact ⟨k + 1, H1, W1, by omega, by omega, by go_num, HF.out, HI1.out⟩
              case measure => simp [intOf]; omega
            · by_cases h3 : d = 3
              · subst h3
                obtain ⟨H1, W1, tl, hv⟩ : ∃ H1 W1 tl, leaveF wa H W = (H1, W1, tl) := ⟨_, _, _, rfl⟩
                have Hv := Lib.hid hv
                have htl := leaveF_told hv
                have HI1 : Hid (Inv H1 W1) := by have := HI.out.leaves wa; rw [hv] at this; exact this
                clear hv
                go_wp2_with fail
                have b0 : ∀ wx, LkAt wx wr.heap.size 0 ⟨wa, pa, na, sa⟩ → wx.cell? ⟨wr.heap.size, 0, none⟩ = some (.int .i64 wa) := fun wx h => h.1
                clear c0 c1 c2 c3 k0'
                refine region_lin (fun wx => LkAt wx wr.heap.size 0 ⟨wa, pa, na, sa⟩) 100000 [(0, 3), (1, 3), (2, 0), (4, 3), (5, 3), (6, 0), (3, 1), (7, 1), (8, 1), (9, 3)] ?_ (by kernel_rfl) (by kernel_rfl) ?_ (fun _ _ _ _ _ h => h) ((by have := S2.at_ hS; exact this)) ?_
                rotate_left
                (simp only [planOps, List.mapM_cons, List.mapM_nil, List.getElem?_toArray, List.getElem?_cons_zero, List.getElem?_cons_succ, Option.map_some, Option.bind_eq_bind, Option.bind_some, Option.pure_def]; rfl)
                intro wd hwd hxd
                repeat (first | (refine lin_take ?_ (by rfl) (fun wx hx => ?_) ?_; rotate_left; go_simp; (with_reducible rfl); try simp only [Act.put, List.setIfInBounds_toArray, List.set_cons_zero, List.set_cons_succ]) | (refine lin_skip (by rfl) ?_; try simp only [Act.put, List.setIfInBounds_toArray, List.set_cons_zero, List.set_cons_succ]) | (refine lin_take3 ?_ (by rfl) (fun wx hx => ?_) ?_; rotate_left; go_simp; (with_reducible rfl); try simp only [Act.put, List.setIfInBounds_toArray, List.set_cons_zero, List.set_cons_succ]))
                refine lin_run (by rfl) (fun K hK => ?_)
                go_simp
                refine (c_leave1 Hv (S2.later hS hxd)).mono ?_
                rintro e w3 ⟨A3, c3, rfl, hS3⟩
                refine hK _ _ (S3.at_ hS3) ?_
                try simp only [Act.put, List.setIfInBounds_toArray, List.set_cons_zero, List.set_cons_succ]
                repeat (first | (refine lin_take ?_ (by rfl) (fun wx hx => ?_) ?_; rotate_left; go_simp; (with_reducible rfl); try simp only [Act.put, List.setIfInBounds_toArray, List.set_cons_zero, List.set_cons_succ]) | (refine lin_skip (by rfl) ?_; try simp only [Act.put, List.setIfInBounds_toArray, List.set_cons_zero, List.set_cons_succ]) | (refine lin_take3 ?_ (by rfl) (fun wx hx => ?_) ?_; rotate_left; go_simp; (with_reducible rfl); try simp only [Act.put, List.setIfInBounds_toArray, List.set_cons_zero, List.set_cons_succ]))
                refine lin_run (by rfl) (fun K hK => ?_)
                go_simp
                refine (c_leave2 Hv hS3).mono ?_
                rintro e w5 ⟨A5, c5, rfl, hS5, hL5⟩
                refine hK _ _ (S3.at_ hS5) ?_
                try simp only [Act.put, List.setIfInBounds_toArray, List.set_cons_zero, List.set_cons_succ]
                repeat (first | (refine lin_take ?_ (by rfl) (fun wx hx => ?_) ?_; rotate_left; go_simp; (with_reducible rfl); try simp only [Act.put, List.setIfInBounds_toArray, List.set_cons_zero, List.set_cons_succ]) | (refine lin_skip (by rfl) ?_; try simp only [Act.put, List.setIfInBounds_toArray, List.set_cons_zero, List.set_cons_succ]) | (refine lin_take3 ?_ (by rfl) (fun wx hx => ?_) ?_; rotate_left; go_simp; (with_reducible rfl); try simp only [Act.put, List.setIfInBounds_toArray, List.set_cons_zero, List.set_cons_succ]))
                refine lin_run (by rfl) (fun K hK => ?_)
                go_simp
                refine (c_is (by omega) hS5 hL5).mono ?_
                rintro e w4 ⟨rfl, hS4⟩
                refine hK _ _ (S2.at_ hS4) ?_
                try simp only [Act.put, List.setIfInBounds_toArray, List.set_cons_zero, List.set_cons_succ]
                repeat (first | (refine lin_take ?_ (by rfl) (fun wx hx => ?_) ?_; rotate_left; go_simp; (with_reducible rfl); try simp only [Act.put, List.setIfInBounds_toArray, List.set_cons_zero, List.set_cons_succ]) | (refine lin_skip (by rfl) ?_; try simp only [Act.put, List.setIfInBounds_toArray, List.set_cons_zero, List.set_cons_succ]) | (refine lin_take3 ?_ (by rfl) (fun wx hx => ?_) ?_; rotate_left; go_simp; (with_reducible rfl); try simp only [Act.put, List.setIfInBounds_toArray, List.set_cons_zero, List.set_cons_succ]))
                refine lin_nil ?_
                clear hwd hxd b0 hS hS3 hS5 hL5
                obtain ⟨G1, G2, hTT, -⟩ := hS4.out
                obtain ⟨hv2, wv2, htr, hFr⟩ := hTT.two
                obtain ⟨B, ch2, rfl, -, -⟩ := htr.held.form
                obtain ⟨C, cw2, rfl, -, -⟩ := htr.waits.form
                have HTT := Lib.hid hTT
                have HTr := Lib.hid htr
                have hfew := htr.few
                have j0 : ∀ wx, Ext w4 wx → wx.cell? ⟨r, 0, none⟩ = some (.slice B H1.length ch2) := fun wx h => (HTr.out.ext h).cell0
                have j1 : ∀ wx, Ext w4 wx → wx.cell? ⟨r, 1, none⟩ = some (.slice C W1.length cw2) := fun wx h => (HTr.out.ext h).cell1
                clear hTT htr hFr
                go_wp2_with fail
                refine region_lin (fun wx => Ext w4 wx) 100000 [(0, 3), (2, 3), (3, 3), (4, 3), (5, 0), (1, 1), (6, 1), (7, 3), (8, 3), (9, 3), (11, 3), (12, 3), (13, 3), (14, 0), (10, 1), (15, 1), (16, 3), (17, 3)] ?_ (by kernel_rfl) (by kernel_rfl) ?_ (fun _ _ _ _ _ h => h) ((Ext.refl _).drew) ?_
                rotate_left
                (simp only [planOps, List.mapM_cons, List.mapM_nil, List.getElem?_toArray, List.getElem?_cons_zero, List.getElem?_cons_succ, Option.map_some, Option.bind_eq_bind, Option.bind_some, Option.pure_def]; rfl)
                intro wd5 hwd5 hxd5
                repeat (first | (refine lin_take ?_ (by rfl) (fun wx hx => ?_) ?_; rotate_left; go_simp; (with_reducible rfl); try simp only [Act.put, List.setIfInBounds_toArray, List.set_cons_zero, List.set_cons_succ]) | (refine lin_skip (by rfl) ?_; try simp only [Act.put, List.setIfInBounds_toArray, List.set_cons_zero, List.set_cons_succ]) | (refine lin_take3 ?_ (by rfl) (fun wx hx => ?_) ?_; rotate_left; go_simp; (with_reducible rfl); try simp only [Act.put, List.setIfInBounds_toArray, List.set_cons_zero, List.set_cons_succ]))
                refine lin_run (by rfl) (fun K hK => ?_)
                go_simp
                refine (c_held (HTT.out.one.ext hwd5)).mono ?_
                rintro e w6 ⟨A6, c6, rfl, hx6, ho6, hl6⟩
                refine hK _ _ (hwd5.trans hx6) ?_
                try simp only [Act.put, List.setIfInBounds_toArray, List.set_cons_zero, List.set_cons_succ]
                repeat (first | (refine lin_take ?_ (by rfl) (fun wx hx => ?_) ?_; rotate_left; go_simp; (with_reducible rfl); try simp only [Act.put, List.setIfInBounds_toArray, List.set_cons_zero, List.set_cons_succ]) | (refine lin_skip (by rfl) ?_; try simp only [Act.put, List.setIfInBounds_toArray, List.set_cons_zero, List.set_cons_succ]) | (refine lin_take3 ?_ (by rfl) (fun wx hx => ?_) ?_; rotate_left; go_simp; (with_reducible rfl); try simp only [Act.put, List.setIfInBounds_toArray, List.set_cons_zero, List.set_cons_succ]))
                refine lin_run (by rfl) (fun K hK => ?_)
                go_simp
                refine (c_is_new w4 (hwd5.trans hx6) (by omega) ho6 (fun k hk => by have := hl6.out k hk; have := hwd5.size; omega) (LkSl.of_own (HTr.out.held.ext (hwd5.trans hx6)))).mono ?_
                rintro e w7 ⟨rfl, hx7⟩
                refine hK _ _ hx7 ?_
                try simp only [Act.put, List.setIfInBounds_toArray, List.set_cons_zero, List.set_cons_succ]
                repeat (first | (refine lin_take ?_ (by rfl) (fun wx hx => ?_) ?_; rotate_left; go_simp; (with_reducible rfl); try simp only [Act.put, List.setIfInBounds_toArray, List.set_cons_zero, List.set_cons_succ]) | (refine lin_skip (by rfl) ?_; try simp only [Act.put, List.setIfInBounds_toArray, List.set_cons_zero, List.set_cons_succ]) | (refine lin_take3 ?_ (by rfl) (fun wx hx => ?_) ?_; rotate_left; go_simp; (with_reducible rfl); try simp only [Act.put, List.setIfInBounds_toArray, List.set_cons_zero, List.set_cons_succ]))
                refine lin_run (by rfl) (fun K hK => ?_)
                go_simp
                refine (c_waits (HTT.out.one.ext hx7)).mono ?_
                rintro e w8 ⟨A8, c8, rfl, hx8, ho8, hl8⟩
                refine hK _ _ (hx7.trans hx8) ?_
                try simp only [Act.put, List.setIfInBounds_toArray, List.set_cons_zero, List.set_cons_succ]
                repeat (first | (refine lin_take ?_ (by rfl) (fun wx hx => ?_) ?_; rotate_left; go_simp; (with_reducible rfl); try simp only [Act.put, List.setIfInBounds_toArray, List.set_cons_zero, List.set_cons_succ]) | (refine lin_skip (by rfl) ?_; try simp only [Act.put, List.setIfInBounds_toArray, List.set_cons_zero, List.set_cons_succ]) | (refine lin_take3 ?_ (by rfl) (fun wx hx => ?_) ?_; rotate_left; go_simp; (with_reducible rfl); try simp only [Act.put, List.setIfInBounds_toArray, List.set_cons_zero, List.set_cons_succ]))
                refine lin_run (by rfl) (fun K hK => ?_)
                go_simp
                refine (c_is_new w4 (hx7.trans hx8) (by omega) ho8 (fun k hk => by have := hl8.out k hk; have := hx7.size; omega) (LkSl.of_own (HTr.out.waits.ext (hx7.trans hx8)))).mono ?_
                rintro e w9 ⟨rfl, hx9⟩
                refine hK _ _ hx9 ?_
                try simp only [Act.put, List.setIfInBounds_toArray, List.set_cons_zero, List.set_cons_succ]
                repeat (first | (refine lin_take ?_ (by rfl) (fun wx hx => ?_) ?_; rotate_left; go_simp; (with_reducible rfl); try simp only [Act.put, List.setIfInBounds_toArray, List.set_cons_zero, List.set_cons_succ]) | (refine lin_skip (by rfl) ?_; try simp only [Act.put, List.setIfInBounds_toArray, List.set_cons_zero, List.set_cons_succ]) | (refine lin_take3 ?_ (by rfl) (fun wx hx => ?_) ?_; rotate_left; go_simp; (with_reducible rfl); try simp only [Act.put, List.setIfInBounds_toArray, List.set_cons_zero, List.set_cons_succ]))
                refine lin_nil ?_
                have HF : Hid (S0 w w9 t r H1 W1) := ⟨_, _, HTT.out.later hx9⟩
                clear hwd5 hxd5 hx6 hx7 hx8 hx9 j0 j1 hfew
                go_wp2_with fail
                go_roundw
                case rel => exact ⟨k + 1, H1, W1, by omega, by omega, by go_num, HF.out, HI1.out⟩
                case measure => simp [intOf]; omega
              · obtain ⟨w4, hw4⟩ : ∃ w4, w4 = wr.alloc (.cells #[.int .i64 wa, .int .i64 pa, .int .i64 na, .bool sa] 29) := ⟨_, rfl⟩
                have hS4 : Hid (S2 w w4 t r wr.heap.size ⟨wa, pa, na, sa⟩ H W H W) := by rw [hw4]; exact hS
                have Hw4 := Lib.hid hw4
                have HI1 := HI
                obtain ⟨H1, rfl⟩ : ∃ H1, H1 = H := ⟨_, rfl⟩
                obtain ⟨W1, rfl⟩ : ∃ W1, W1 = W := ⟨_, rfl⟩
                go_wp2_with fail
                rw [← Hw4.out]
                clear hw4 c0 c1 c2 c3 k0' hS
                obtain ⟨G1, G2, hTT, -⟩ := hS4.out
                obtain ⟨hv2, wv2, htr, hFr⟩ := hTT.two
                obtain ⟨B, ch2, rfl, -, -⟩ := htr.held.form
                obtain ⟨C, cw2, rfl, -, -⟩ := htr.waits.form
                have HTT := Lib.hid hTT
                have HTr := Lib.hid htr
                have hfew := htr.few
                have j0 : ∀ wx, Ext w4 wx → wx.cell? ⟨r, 0, none⟩ = some (.slice B H1.length ch2) := fun wx h => (HTr.out.ext h).cell0
                have j1 : ∀ wx, Ext w4 wx → wx.cell? ⟨r, 1, none⟩ = some (.slice C W1.length cw2) := fun wx h => (HTr.out.ext h).cell1
                clear hTT htr hFr
                go_wp2_with fail
                refine region_lin (fun wx => Ext w4 wx) 100000 [(0, 3), (2, 3), (3, 3), (4, 3), (5, 0), (1, 1), (6, 1), (7, 3), (8, 3), (9, 3), (11, 3), (12, 3), (13, 3), (14, 0), (10, 1), (15, 1), (16, 3), (17, 3)] ?_ (by kernel_rfl) (by kernel_rfl) ?_ (fun _ _ _ _ _ h => h) ((Ext.refl _).drew) ?_
                rotate_left
                (simp only [planOps, List.mapM_cons, List.mapM_nil, List.getElem?_toArray, List.getElem?_cons_zero, List.getElem?_cons_succ, Option.map_some, Option.bind_eq_bind, Option.bind_some, Option.pure_def]; rfl)
                intro wd5 hwd5 hxd5
                repeat (first | (refine lin_take ?_ (by rfl) (fun wx hx => ?_) ?_; rotate_left; go_simp; (with_reducible rfl); try simp only [Act.put, List.setIfInBounds_toArray, List.set_cons_zero, List.set_cons_succ]) | (refine lin_skip (by rfl) ?_; try simp only [Act.put, List.setIfInBounds_toArray, List.set_cons_zero, List.set_cons_succ]) | (refine lin_take3 ?_ (by rfl) (fun wx hx => ?_) ?_; rotate_left; go_simp; (with_reducible rfl); try simp only [Act.put, List.setIfInBounds_toArray, List.set_cons_zero, List.set_cons_succ]))
                refine lin_run (by rfl) (fun K hK => ?_)
                go_simp
                refine (c_held (HTT.out.one.ext hwd5)).mono ?_
                rintro e w6 ⟨A6, c6, rfl, hx6, ho6, hl6⟩
                refine hK _ _ (hwd5.trans hx6) ?_
                try simp only [Act.put, List.setIfInBounds_toArray, List.set_cons_zero, List.set_cons_succ]
                repeat (first | (refine lin_take ?_ (by rfl) (fun wx hx => ?_) ?_; rotate_left; go_simp; (with_reducible rfl); try simp only [Act.put, List.setIfInBounds_toArray, List.set_cons_zero, List.set_cons_succ]) | (refine lin_skip (by rfl) ?_; try simp only [Act.put, List.setIfInBounds_toArray, List.set_cons_zero, List.set_cons_succ]) | (refine lin_take3 ?_ (by rfl) (fun wx hx => ?_) ?_; rotate_left; go_simp; (with_reducible rfl); try simp only [Act.put, List.setIfInBounds_toArray, List.set_cons_zero, List.set_cons_succ]))
                refine lin_run (by rfl) (fun K hK => ?_)
                go_simp
                refine (c_is_new w4 (hwd5.trans hx6) (by omega) ho6 (fun k hk => by have := hl6.out k hk; have := hwd5.size; omega) (LkSl.of_own (HTr.out.held.ext (hwd5.trans hx6)))).mono ?_
                rintro e w7 ⟨rfl, hx7⟩
                refine hK _ _ hx7 ?_
                try simp only [Act.put, List.setIfInBounds_toArray, List.set_cons_zero, List.set_cons_succ]
                repeat (first | (refine lin_take ?_ (by rfl) (fun wx hx => ?_) ?_; rotate_left; go_simp; (with_reducible rfl); try simp only [Act.put, List.setIfInBounds_toArray, List.set_cons_zero, List.set_cons_succ]) | (refine lin_skip (by rfl) ?_; try simp only [Act.put, List.setIfInBounds_toArray, List.set_cons_zero, List.set_cons_succ]) | (refine lin_take3 ?_ (by rfl) (fun wx hx => ?_) ?_; rotate_left; go_simp; (with_reducible rfl); try simp only [Act.put, List.setIfInBounds_toArray, List.set_cons_zero, List.set_cons_succ]))
                refine lin_run (by rfl) (fun K hK => ?_)
                go_simp
                refine (c_waits (HTT.out.one.ext hx7)).mono ?_
                rintro e w8 ⟨A8, c8, rfl, hx8, ho8, hl8⟩
                refine hK _ _ (hx7.trans hx8) ?_
                try simp only [Act.put, List.setIfInBounds_toArray, List.set_cons_zero, List.set_cons_succ]
                repeat (first | (refine lin_take ?_ (by rfl) (fun wx hx => ?_) ?_; rotate_left; go_simp; (with_reducible rfl); try simp only [Act.put, List.setIfInBounds_toArray, List.set_cons_zero, List.set_cons_succ]) | (refine lin_skip (by rfl) ?_; try simp only [Act.put, List.setIfInBounds_toArray, List.set_cons_zero, List.set_cons_succ]) | (refine lin_take3 ?_ (by rfl) (fun wx hx => ?_) ?_; rotate_left; go_simp; (with_reducible rfl); try simp only [Act.put, List.setIfInBounds_toArray, List.set_cons_zero, List.set_cons_succ]))
                refine lin_run (by rfl) (fun K hK => ?_)
                go_simp
                refine (c_is_new w4 (hx7.trans hx8) (by omega) ho8 (fun k hk => by have := hl8.out k hk; have := hx7.size; omega) (LkSl.of_own (HTr.out.waits.ext (hx7.trans hx8)))).mono ?_
                rintro e w9 ⟨rfl, hx9⟩
                refine hK _ _ hx9 ?_
                try simp only [Act.put, List.setIfInBounds_toArray, List.set_cons_zero, List.set_cons_succ]
                repeat (first | (refine lin_take ?_ (by rfl) (fun wx hx => ?_) ?_; rotate_left; go_simp; (with_reducible rfl); try simp only [Act.put, List.setIfInBounds_toArray, List.set_cons_zero, List.set_cons_succ]) | (refine lin_skip (by rfl) ?_; try simp only [Act.put, List.setIfInBounds_toArray, List.set_cons_zero, List.set_cons_succ]) | (refine lin_take3 ?_ (by rfl) (fun wx hx => ?_) ?_; rotate_left; go_simp; (with_reducible rfl); try simp only [Act.put, List.setIfInBounds_toArray, List.set_cons_zero, List.set_cons_succ]))
                refine lin_nil ?_
                have HF : Hid (S0 w w9 t r H1 W1) := ⟨_, _, HTT.out.later hx9⟩
                clear hwd5 hxd5 hx6 hx7 hx8 hx9 j0 j1 hfew
                go_wp2_with fail
                go_roundw
                case rel => exact ⟨k + 1, H1, W1, by omega, by omega, by go_num, HF.out, HI1.out⟩
                case measure => simp [intOf]; omega
      · skip
        obtain ⟨G1, G2, hTT⟩ := HT.out
        obtain ⟨hv2, wv2, htr, hFr⟩ := hTT.two
        obtain ⟨B, ch2, rfl, -, -⟩ := htr.held.form
        obtain ⟨C, cw2, rfl, -, -⟩ := htr.waits.form
        have HTT := Lib.hid hTT
        have HTr := Lib.hid htr
        have hfew := htr.few
        have j0 : ∀ wx, Ext wr wx → wx.cell? ⟨r, 0, none⟩ = some (.slice B H.length ch2) := fun wx h => (HTr.out.ext h).cell0
        have j1 : ∀ wx, Ext wr wx → wx.cell? ⟨r, 1, none⟩ = some (.slice C W.length cw2) := fun wx h => (HTr.out.ext h).cell1
        clear hTT htr hFr
        go_wp2_with fail
        refine region_lin (fun wx => Ext wr wx) 100000 [(0, 3), (2, 3), (3, 3), (4, 3), (5, 0), (1, 1), (6, 1), (7, 3), (8, 3), (10, 3), (11, 3), (12, 3), (13, 0), (9, 1), (14, 1), (15, 3), (16, 3), (17, 1), (18, 3), (19, 3)] ?_ (by kernel_rfl) (by kernel_rfl) ?_ (fun _ _ _ _ _ h => h) ((Ext.refl _).drew) ?_
        rotate_left
        (simp only [planOps, List.mapM_cons, List.mapM_nil, List.getElem?_toArray, List.getElem?_cons_zero, List.getElem?_cons_succ, Option.map_some, Option.bind_eq_bind, Option.bind_some, Option.pure_def]; rfl)
        intro wd5 hwd5 hxd5
        repeat (first | (refine lin_take ?_ (by rfl) (fun wx hx => ?_) ?_; rotate_left; go_simp; (with_reducible rfl); try simp only [Act.put, List.setIfInBounds_toArray, List.set_cons_zero, List.set_cons_succ]) | (refine lin_skip (by rfl) ?_; try simp only [Act.put, List.setIfInBounds_toArray, List.set_cons_zero, List.set_cons_succ]) | (refine lin_take3 ?_ (by rfl) (fun wx hx => ?_) ?_; rotate_left; go_simp; (with_reducible rfl); try simp only [Act.put, List.setIfInBounds_toArray, List.set_cons_zero, List.set_cons_succ]))
        refine lin_run (by rfl) (fun K hK => ?_)
        go_simp
        refine (c_held (HTT.out.one.ext hwd5)).mono ?_
        rintro e w6 ⟨A6, c6, rfl, hx6, ho6, hl6⟩
        refine hK _ _ (hwd5.trans hx6) ?_
        try simp only [Act.put, List.setIfInBounds_toArray, List.set_cons_zero, List.set_cons_succ]
        repeat (first | (refine lin_take ?_ (by rfl) (fun wx hx => ?_) ?_; rotate_left; go_simp; (with_reducible rfl); try simp only [Act.put, List.setIfInBounds_toArray, List.set_cons_zero, List.set_cons_succ]) | (refine lin_skip (by rfl) ?_; try simp only [Act.put, List.setIfInBounds_toArray, List.set_cons_zero, List.set_cons_succ]) | (refine lin_take3 ?_ (by rfl) (fun wx hx => ?_) ?_; rotate_left; go_simp; (with_reducible rfl); try simp only [Act.put, List.setIfInBounds_toArray, List.set_cons_zero, List.set_cons_succ]))
        refine lin_run (by rfl) (fun K hK => ?_)
        go_simp
        refine (c_is_new wr (hwd5.trans hx6) (by omega) ho6 (fun k hk => by have := hl6.out k hk; have := hwd5.size; omega) (LkSl.of_own (HTr.out.held.ext (hwd5.trans hx6)))).mono ?_
        rintro e w7 ⟨rfl, hx7⟩
        refine hK _ _ hx7 ?_
        try simp only [Act.put, List.setIfInBounds_toArray, List.set_cons_zero, List.set_cons_succ]
        repeat (first | (refine lin_take ?_ (by rfl) (fun wx hx => ?_) ?_; rotate_left; go_simp; (with_reducible rfl); try simp only [Act.put, List.setIfInBounds_toArray, List.set_cons_zero, List.set_cons_succ]) | (refine lin_skip (by rfl) ?_; try simp only [Act.put, List.setIfInBounds_toArray, List.set_cons_zero, List.set_cons_succ]) | (refine lin_take3 ?_ (by rfl) (fun wx hx => ?_) ?_; rotate_left; go_simp; (with_reducible rfl); try simp only [Act.put, List.setIfInBounds_toArray, List.set_cons_zero, List.set_cons_succ]))
        refine lin_run (by rfl) (fun K hK => ?_)
        go_simp
        refine (c_waits (HTT.out.one.ext hx7)).mono ?_
        rintro e w8 ⟨A8, c8, rfl, hx8, ho8, hl8⟩
        refine hK _ _ (hx7.trans hx8) ?_
        try simp only [Act.put, List.setIfInBounds_toArray, List.set_cons_zero, List.set_cons_succ]
        repeat (first | (refine lin_take ?_ (by rfl) (fun wx hx => ?_) ?_; rotate_left; go_simp; (with_reducible rfl); try simp only [Act.put, List.setIfInBounds_toArray, List.set_cons_zero, List.set_cons_succ]) | (refine lin_skip (by rfl) ?_; try simp only [Act.put, List.setIfInBounds_toArray, List.set_cons_zero, List.set_cons_succ]) | (refine lin_take3 ?_ (by rfl) (fun wx hx => ?_) ?_; rotate_left; go_simp; (with_reducible rfl); try simp only [Act.put, List.setIfInBounds_toArray, List.set_cons_zero, List.set_cons_succ]))
        refine lin_run (by rfl) (fun K hK => ?_)
        go_simp
        refine (c_is_new wr (hx7.trans hx8) (by omega) ho8 (fun k hk => by have := hl8.out k hk; have := hx7.size; omega) (LkSl.of_own (HTr.out.waits.ext (hx7.trans hx8)))).mono ?_
        rintro e w9 ⟨rfl, hx9⟩
        refine hK _ _ hx9 ?_
        try simp only [Act.put, List.setIfInBounds_toArray, List.set_cons_zero, List.set_cons_succ]
        repeat (first | (refine lin_take ?_ (by rfl) (fun wx hx => ?_) ?_; rotate_left; go_simp; (with_reducible rfl); try simp only [Act.put, List.setIfInBounds_toArray, List.set_cons_zero, List.set_cons_succ]) | (refine lin_skip (by rfl) ?_; try simp only [Act.put, List.setIfInBounds_toArray, List.set_cons_zero, List.set_cons_succ]) | (refine lin_take3 ?_ (by rfl) (fun wx hx => ?_) ?_; rotate_left; go_simp; (with_reducible rfl); try simp only [Act.put, List.setIfInBounds_toArray, List.set_cons_zero, List.set_cons_succ]))
        refine lin_run (by rfl) (fun K hK => ?_)
        go_simp
        refine (wakes_any _).mono ?_
        rintro e w10 ⟨rfl, hx10⟩
        refine hK _ _ (hx9.trans hx10) ?_
        try simp only [Act.put, List.setIfInBounds_toArray, List.set_cons_zero, List.set_cons_succ]
        repeat (first | (refine lin_take ?_ (by rfl) (fun wx hx => ?_) ?_; rotate_left; go_simp; (with_reducible rfl); try simp only [Act.put, List.setIfInBounds_toArray, List.set_cons_zero, List.set_cons_succ]) | (refine lin_skip (by rfl) ?_; try simp only [Act.put, List.setIfInBounds_toArray, List.set_cons_zero, List.set_cons_succ]) | (refine lin_take3 ?_ (by rfl) (fun wx hx => ?_) ?_; rotate_left; go_simp; (with_reducible rfl); try simp only [Act.put, List.setIfInBounds_toArray, List.set_cons_zero, List.set_cons_succ]))
        refine lin_nil ?_
        have HF : Hid (Ext w w10) := HE.out.trans (hx9.trans hx10)
        clear hwd5 hxd5 hx6 hx7 hx8 hx9 hx10 j0 j1 hfew
        go_wp2_with fail
        go_ret
        exact ⟨rfl, HF.out⟩
    · skip
      obtain ⟨G1, G2, hTT⟩ := HT.out
      obtain ⟨hv2, wv2, htr, hFr⟩ := hTT.two
      obtain ⟨B, ch2, rfl, -, -⟩ := htr.held.form
      obtain ⟨C, cw2, rfl, -, -⟩ := htr.waits.form
      have HTT := Lib.hid hTT
      have HTr := Lib.hid htr
      have hfew := htr.few
      have j0 : ∀ wx, Ext wr wx → wx.cell? ⟨r, 0, none⟩ = some (.slice B H.length ch2) := fun wx h => (HTr.out.ext h).cell0
      have j1 : ∀ wx, Ext wr wx → wx.cell? ⟨r, 1, none⟩ = some (.slice C W.length cw2) := fun wx h => (HTr.out.ext h).cell1
      clear hTT htr hFr
      go_wp2_with fail
      refine region_lin (fun wx => Ext wr wx) 100000 [(0, 3), (2, 3), (3, 3), (4, 3), (5, 0), (1, 1), (6, 1), (7, 3), (8, 3), (10, 3), (11, 3), (12, 3), (13, 0), (9, 1), (14, 1), (15, 3), (16, 3), (17, 1), (18, 3), (19, 3)] ?_ (by kernel_rfl) (by kernel_rfl) ?_ (fun _ _ _ _ _ h => h) ((Ext.refl _).drew) ?_
      rotate_left
      (simp only [planOps, List.mapM_cons, List.mapM_nil, List.getElem?_toArray, List.getElem?_cons_zero, List.getElem?_cons_succ, Option.map_some, Option.bind_eq_bind, Option.bind_some, Option.pure_def]; rfl)
      intro wd5 hwd5 hxd5
      repeat (first | (refine lin_take ?_ (by rfl) (fun wx hx => ?_) ?_; rotate_left; go_simp; (with_reducible rfl); try simp only [Act.put, List.setIfInBounds_toArray, List.set_cons_zero, List.set_cons_succ]) | (refine lin_skip (by rfl) ?_; try simp only [Act.put, List.setIfInBounds_toArray, List.set_cons_zero, List.set_cons_succ]) | (refine lin_take3 ?_ (by rfl) (fun wx hx => ?_) ?_; rotate_left; go_simp; (with_reducible rfl); try simp only [Act.put, List.setIfInBounds_toArray, List.set_cons_zero, List.set_cons_succ]))
      refine lin_run (by rfl) (fun K hK => ?_)
      go_simp
      refine (c_held (HTT.out.one.ext hwd5)).mono ?_
      rintro e w6 ⟨A6, c6, rfl, hx6, ho6, hl6⟩
      refine hK _ _ (hwd5.trans hx6) ?_
      try simp only [Act.put, List.setIfInBounds_toArray, List.set_cons_zero, List.set_cons_succ]
      repeat (first | (refine lin_take ?_ (by rfl) (fun wx hx => ?_) ?_; rotate_left; go_simp; (with_reducible rfl); try simp only [Act.put, List.setIfInBounds_toArray, List.set_cons_zero, List.set_cons_succ]) | (refine lin_skip (by rfl) ?_; try simp only [Act.put, List.setIfInBounds_toArray, List.set_cons_zero, List.set_cons_succ]) | (refine lin_take3 ?_ (by rfl) (fun wx hx => ?_) ?_; rotate_left; go_simp; (with_reducible rfl); try simp only [Act.put, List.setIfInBounds_toArray, List.set_cons_zero, List.set_cons_succ]))
      refine lin_run (by rfl) (fun K hK => ?_)
      go_simp
      refine (c_is_new wr (hwd5.trans hx6) (by omega) ho6 (fun k hk => by have := hl6.out k hk; have := hwd5.size; omega) (LkSl.of_own (HTr.out.held.ext (hwd5.trans hx6)))).mono ?_
      rintro e w7 ⟨rfl, hx7⟩
      refine hK _ _ hx7 ?_
      try simp only [Act.put, List.setIfInBounds_toArray, List.set_cons_zero, List.set_cons_succ]
      repeat (first | (refine lin_take ?_ (by rfl) (fun wx hx => ?_) ?_; rotate_left; go_simp; (with_reducible rfl); try simp only [Act.put, List.setIfInBounds_toArray, List.set_cons_zero, List.set_cons_succ]) | (refine lin_skip (by rfl) ?_; try simp only [Act.put, List.setIfInBounds_toArray, List.set_cons_zero, List.set_cons_succ]) | (refine lin_take3 ?_ (by rfl) (fun wx hx => ?_) ?_; rotate_left; go_simp; (with_reducible rfl); try simp only [Act.put, List.setIfInBounds_toArray, List.set_cons_zero, List.set_cons_succ]))
      refine lin_run (by rfl) (fun K hK => ?_)
      go_simp
      refine (c_waits (HTT.out.one.ext hx7)).mono ?_
      rintro e w8 ⟨A8, c8, rfl, hx8, ho8, hl8⟩
      refine hK _ _ (hx7.trans hx8) ?_
      try simp only [Act.put, List.setIfInBounds_toArray, List.set_cons_zero, List.set_cons_succ]
      repeat (first | (refine lin_take ?_ (by rfl) (fun wx hx => ?_) ?_; rotate_left; go_simp; (with_reducible rfl); try simp only [Act.put, List.setIfInBounds_toArray, List.set_cons_zero, List.set_cons_succ]) | (refine lin_skip (by rfl) ?_; try simp only [Act.put, List.setIfInBounds_toArray, List.set_cons_zero, List.set_cons_succ]) | (refine lin_take3 ?_ (by rfl) (fun wx hx => ?_) ?_; rotate_left; go_simp; (with_reducible rfl); try simp only [Act.put, List.setIfInBounds_toArray, List.set_cons_zero, List.set_cons_succ]))
      refine lin_run (by rfl) (fun K hK => ?_)
      go_simp
      refine (c_is_new wr (hx7.trans hx8) (by omega) ho8 (fun k hk => by have := hl8.out k hk; have := hx7.size; omega) (LkSl.of_own (HTr.out.waits.ext (hx7.trans hx8)))).mono ?_
      rintro e w9 ⟨rfl, hx9⟩
      refine hK _ _ hx9 ?_
      try simp only [Act.put, List.setIfInBounds_toArray, List.set_cons_zero, List.set_cons_succ]
      repeat (first | (refine lin_take ?_ (by rfl) (fun wx hx => ?_) ?_; rotate_left; go_simp; (with_reducible rfl); try simp only [Act.put, List.setIfInBounds_toArray, List.set_cons_zero, List.set_cons_succ]) | (refine lin_skip (by rfl) ?_; try simp only [Act.put, List.setIfInBounds_toArray, List.set_cons_zero, List.set_cons_succ]) | (refine lin_take3 ?_ (by rfl) (fun wx hx => ?_) ?_; rotate_left; go_simp; (with_reducible rfl); try simp only [Act.put, List.setIfInBounds_toArray, List.set_cons_zero, List.set_cons_succ]))
      refine lin_run (by rfl) (fun K hK => ?_)
      go_simp
      refine (wakes_any _).mono ?_
      rintro e w10 ⟨rfl, hx10⟩
      refine hK _ _ (hx9.trans hx10) ?_
      try simp only [Act.put, List.setIfInBounds_toArray, List.set_cons_zero, List.set_cons_succ]
      repeat (first | (refine lin_take ?_ (by rfl) (fun wx hx => ?_) ?_; rotate_left; go_simp; (with_reducible rfl); try simp only [Act.put, List.setIfInBounds_toArray, List.set_cons_zero, List.set_cons_succ]) | (refine lin_skip (by rfl) ?_; try simp only [Act.put, List.setIfInBounds_toArray, List.set_cons_zero, List.set_cons_succ]) | (refine lin_take3 ?_ (by rfl) (fun wx hx => ?_) ?_; rotate_left; go_simp; (with_reducible rfl); try simp only [Act.put, List.setIfInBounds_toArray, List.set_cons_zero, List.set_cons_succ]))
      refine lin_nil ?_
      have HF : Hid (Ext w w10) := HE.out.trans (hx9.trans hx10)
      clear hwd5 hxd5 hx6 hx7 hx8 hx9 hx10 j0 j1 hfew
      go_wp2_with fail
      go_ret
      exact ⟨rfl, HF.out⟩
end Go.Proofs.Ytpjgfkdnjkfnfaa
