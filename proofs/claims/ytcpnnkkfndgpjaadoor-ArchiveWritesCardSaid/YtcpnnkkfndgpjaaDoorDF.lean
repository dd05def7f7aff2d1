/- The document's Write: any items. -/
import Derived.Test.YtcpnnkkfndgpjaaDoorDE
import Derived.Test.YtcpnnkkfndgpjaaDoorGB
namespace Go.Proofs.YtcpnnkkfndgpjaaDoor
open Go.RowKit

/-- The path ahead of an item. -/
def aheadAt (ls : List It) (k : Nat) : Bs := if k = 0 then [] else ((ls[k - 1]?).map (·.path)).getD []
theorem aheadAt_succ {ls : List It} {k : Nat} {x : It} (h : ls[k]? = some x) : aheadAt ls (k + 1) = x.path := by
  unfold aheadAt
  rw [if_neg (by omega), Nat.add_sub_cancel, h]
  rfl
theorem verdict_dry {Z : Sp} (hZ : Z.ok = okP) {a : Bs} {x : It} (h1 : ¬ 4194304 < x.data.length) : verdict Z a x = if kindB x.kind = true ∧ okC x.path = true ∧ ¬ (dryB x.kind = true ∧ 0 < x.data.length) ∧ behind x.path a = true then 0 else 2 := by
  have hd : (0 ≤ holdsN x.kind ∧ ¬ (dryB x.kind = true ∧ 0 < x.data.length)) ↔ ¬ holdsN x.kind < (x.data.length : Int) := by
    unfold dryB holdsN
    by_cases h0 : x.kind = 0
    · simp [h0]; omega
    by_cases h1 : x.kind = 1
    · simp [h1]
    by_cases h2 : x.kind = 2
    · simp [h2]; omega
    by_cases h4 : x.kind = 4
    · simp [h4]
    simp [h0, h1, h2, h4]
    omega
  unfold verdict
  rw [if_neg h1, hZ, okP_two]
  have hk : kindB x.kind = true ↔ 0 ≤ holdsN x.kind := by rw [kindB_holds]; simp
  by_cases hg : kindB x.kind = true ∧ okC x.path = true ∧ ¬ (dryB x.kind = true ∧ 0 < x.data.length) ∧ behind x.path a = true
  · rw [if_pos hg, if_neg]
    rintro (h | h)
    · exact hd.1 ⟨hk.1 hg.1, hg.2.2.1⟩ h
    · rw [hg.2.1, hg.2.2.2] at h; cases h
  · rw [if_neg hg, if_pos]
    by_cases hh : holdsN x.kind < (x.data.length : Int)
    · exact .inl hh
    · refine .inr ?_
      have := hd.2 hh
      cases hc : okC x.path with
      | false => rfl
      | true =>
        cases hb : behind x.path a with
        | false => rfl
        | true => exact absurd ⟨hk.2 this.1, hc, this.2, hb⟩ hg
theorem badAt_paths {Z : Sp} : ∀ (l : List It) (a : Bs) (i : Nat), badAt Z a i l = none → ∀ x ∈ l, x.path.length ≤ 4096
  | [], _, _, _, _, h => by cases h
  | y :: l, a, i, h, x, hx => by
    unfold badAt at h
    split at h
    · rename_i hv
      rcases List.mem_cons.1 hx with rfl | hx
      · obtain ⟨-, -, h3⟩ := verdict_zero Z hv
        exact (Z.ok_len _ _ h3).2
      · exact badAt_paths l _ _ h x hx
    · cases h
set_option maxRecDepth 20000 in
set_option maxHeartbeats 8000000 in
theorem rwrite_any (Z : Sp) (hZ : Z.ok = okP) (A : Option Addr) (n c : Nat) (ls : List It) (w : World) (hl : ItSl w A n ls) (hsz : szN ls ≤ 16777216) (hn : n ≤ 9223372036854775807) :
    Calls Tryd.prog 14 #[.slice A n c] w (WritePost Z ls w) := by
  have HL := Lib.hid hl
  have Hl := Lib.hid hl.1
  by_cases hbig : 4096 < n
  · have hv : Hid (writeN Z ls = ([], 3, 4096)) := if_pos (by have := Hl.out; omega)
    have hb2 : (4096 : Int) < (n : Int) := by omega
    clear hl hsz
    go_enter Tryd.func14, Tryd.ntmps14
    go_wp2_with fail
    go_ret3
    exact WritePost.of hv.out (MineB.nil (Ext.refl _))
  have hb2 : ¬ ((4096 : Int) < (n : Int)) := by omega
  have hv : Hid (writeN Z ls = match badAt Z [] 0 ls with | some (e, i) => ([], e, i) | none => (allB Z ls, 0, 0)) := if_neg (by have := Hl.out; omega)
  have HSz : Hid (True ∧ szN ls ≤ 16777216) := ⟨trivial, hsz⟩
  have hn4 : n ≤ 4096 := by omega
  clear hl hsz hbig
  obtain ⟨i, hi, hz, hsz5, hby⟩ := info_parts Tryd.info5
  go_enter Tryd.func14, Tryd.ntmps14
  go_wp2_with fail
  go_loopw [5] (fun iv wr => ∃ k : Nat, k ≤ n ∧ iv = .int .i64 (k : Int) ∧ Ext w wr ∧ badAt Z [] 0 ls = badAt Z (aheadAt ls k) k (ls.drop k)) (fun iv _ => n - (intOf iv).toNat)
  case atStart => exact ⟨0, Nat.zero_le _, rfl, Ext.refl _, rfl⟩
  case round =>
    obtain ⟨k, hk, rfl, hx, hbd⟩ := hrel
    have HX := Lib.hid hx
    have Hbd := Lib.hid hbd
    clear hx hbd
    by_cases hlt : k < n
    · obtain ⟨b, off, x, D, dc, rfl, hbw, hx, c0', c1', c2', -⟩ := (HL.out.ext HX.out).at hlt
      have C0 : ∀ wx, Ext wr wx → wx.cell? ⟨b, off + k * 3, none⟩ = some (.string (mkB x.path)) := fun wx h => (h.cell hbw).trans c0'
      have C1 : ∀ wx, Ext wr wx → wx.cell? ⟨b, off + k * 3 + 1, none⟩ = some (.int .i8 x.kind) := fun wx h => (h.cell hbw).trans c1'
      have C2 : ∀ wx, Ext wr wx → wx.cell? ⟨b, off + k * 3 + 2, none⟩ = some (.slice D x.data.length dc) := fun wx h => (h.cell hbw).trans c2'
      have c0 := C0 _ (Ext.refl _)
      have c1 := C1 _ (Ext.refl _)
      have c2 := C2 _ (Ext.refl _)
      have Hx := Lib.hid hx
      have hxs := item_cap hx
      have hx5 : x.path.length + x.data.length ≤ 16777216 := by have := HSz.out.2; have h2 := szN_eq ls; omega
      have Hst := Lib.hid (badAt_drop (Z := Z) hx (aheadAt ls k) k)
      have Hah := Lib.hid (aheadAt_succ hx)
      clear c0' c1' c2' hx hxs
      by_cases h1 : 4194304 < x.data.length
      · have h1' : (4194304 : Int) < (x.data.length : Int) := by omega
        have hval : Hid (writeN Z ls = ([], 3, k)) := Lib.hid (by rw [hv.out, Hbd.out, Hst.out]; unfold verdict; rw [if_pos h1]; rfl)
        clear h1 C0 C1 C2
        go_wp2_with fail
        go_ret3
        exact WritePost.of hval.out (MineB.nil HX.out)
      have h1' : ¬ ((4194304 : Int) < (x.data.length : Int)) := by omega
      have Hvd := Lib.hid (verdict_dry hZ (a := aheadAt ls k) h1)
      clear h1
      have Hbad : Hid (¬ (kindB x.kind = true ∧ okC x.path = true ∧ ¬ (dryB x.kind = true ∧ 0 < x.data.length) ∧ behind x.path (aheadAt ls k) = true) → writeN Z ls = ([], 2, k)) := Lib.hid (fun h => by
        rw [hv.out, Hbd.out, Hst.out, Hvd.out, if_neg h]; rfl)
      have Hgood : Hid ((kindB x.kind = true ∧ okC x.path = true ∧ ¬ (dryB x.kind = true ∧ 0 < x.data.length) ∧ behind x.path (aheadAt ls k) = true) → badAt Z [] 0 ls = badAt Z (aheadAt ls (k + 1)) (k + 1) (ls.drop (k + 1))) := Lib.hid (fun h => by
        rw [Hbd.out, Hst.out, Hvd.out, if_pos h, if_pos rfl, Hah.out])
      go_wp2_with fail
      refine (rkind_any x.kind _).mono ?_
      rintro e w2 ⟨rfl, rfl⟩
      cases hkd : kindB x.kind with
      | false =>
        have hval : Hid (writeN Z ls = ([], 2, k)) := Lib.hid (Hbad.out (fun h => by rw [hkd] at h; cases h.1))
        clear Hbad Hgood Hvd hkd c0 c1 c2
        go_wp2_with fail
        refine region_lin (fun wx => Ext wr wx) 100000 [(0, 3), (1, 3), (2, 3), (3, 3), (4, 3), (5, 3), (6, 3), (7, 0), (8, 1), (9, 3), (10, 3), (11, 3), (12, 3), (13, 3), (14, 0), (15, 3), (16, 3), (17, 3), (18, 3), (19, 3), (20, 3), (21, 3), (22, 3), (23, 3), (24, 3), (25, 3), (26, 3), (27, 0), (28, 3), (29, 3), (30, 3), (31, 3), (32, 3), (33, 0), (34, 3), (35, 3), (36, 3)] ?_ (by kernel_rfl) (by kernel_rfl) ?_ (fun _ _ _ _ _ h => h) ((Ext.refl _).drew) ?_
        rotate_left
        (simp only [planOps, List.mapM_cons, List.mapM_nil, List.getElem?_toArray, List.getElem?_cons_zero, List.getElem?_cons_succ, Option.map_some, Option.bind_eq_bind, Option.bind_some, Option.pure_def]; rfl)
        intro wd hwd hxd
        repeat (first | (refine lin_take ?_ (by rfl) (fun wx hx => ?_) ?_; rotate_left; go_simp; (with_reducible rfl); try simp only [Act.put, List.setIfInBounds_toArray, List.set_cons_zero, List.set_cons_succ]) | (refine lin_skip (by rfl) ?_; try simp only [Act.put, List.setIfInBounds_toArray, List.set_cons_zero, List.set_cons_succ]) | (refine lin_take3 ?_ (by rfl) (fun wx hx => ?_) ?_; rotate_left; go_simp; (with_reducible rfl); try simp only [Act.put, List.setIfInBounds_toArray, List.set_cons_zero, List.set_cons_succ]) | (refine lin_skip3 (by rfl) ?_; try simp only [Act.put, List.setIfInBounds_toArray, List.set_cons_zero, List.set_cons_succ]))
        refine lin_pass (by rfl) hwd ?_
        try simp only [Act.put, List.setIfInBounds_toArray, List.set_cons_zero, List.set_cons_succ]
        repeat (first | (refine lin_take ?_ (by rfl) (fun wx hx => ?_) ?_; rotate_left; go_simp; (with_reducible rfl); try simp only [Act.put, List.setIfInBounds_toArray, List.set_cons_zero, List.set_cons_succ]) | (refine lin_skip (by rfl) ?_; try simp only [Act.put, List.setIfInBounds_toArray, List.set_cons_zero, List.set_cons_succ]) | (refine lin_take3 ?_ (by rfl) (fun wx hx => ?_) ?_; rotate_left; go_simp; (with_reducible rfl); try simp only [Act.put, List.setIfInBounds_toArray, List.set_cons_zero, List.set_cons_succ]) | (refine lin_skip3 (by rfl) ?_; try simp only [Act.put, List.setIfInBounds_toArray, List.set_cons_zero, List.set_cons_succ]))
        refine lin_nil ?_
        go_wp2_with fail
        go_ret3
        exact WritePost.of hval.out (MineB.nil (HX.out.trans hwd))
      | true =>
        go_wp2_with fail
        refine (rclean_ok x.path wr (by omega)).mono ?_
        rintro e w3 ⟨rfl, hx3⟩
        have D0 : ∀ wx, Ext w3 wx → wx.cell? ⟨b, off + k * 3, none⟩ = some (.string (mkB x.path)) := fun wx h => C0 wx (hx3.trans h)
        have D1 : ∀ wx, Ext w3 wx → wx.cell? ⟨b, off + k * 3 + 1, none⟩ = some (.int .i8 x.kind) := fun wx h => C1 wx (hx3.trans h)
        have D2 : ∀ wx, Ext w3 wx → wx.cell? ⟨b, off + k * 3 + 2, none⟩ = some (.slice D x.data.length dc) := fun wx h => C2 wx (hx3.trans h)
        have HX3 := Lib.hid (HX.out.trans hx3)
        clear hx3 C0 C1 C2 c0 c1 c2 HX
        have HX := HX3
        clear HX3
        cases hok : okC x.path with
        | false =>
          have hval : Hid (writeN Z ls = ([], 2, k)) := Lib.hid (Hbad.out (fun h => by rw [hok] at h; cases h.2.1))
          clear Hbad Hgood Hvd hkd hok
          go_wp2_with fail
          refine region_lin (fun wx => Ext w3 wx) 100000 [(0, 3), (1, 3), (2, 3), (3, 3), (4, 3), (5, 3), (6, 3), (7, 0), (8, 1), (9, 3), (10, 3), (11, 3), (12, 3), (13, 3), (14, 0), (15, 3), (16, 3), (17, 3), (18, 3), (19, 3), (20, 3), (21, 3), (22, 3), (23, 3), (24, 3), (25, 3), (26, 3), (27, 0), (28, 3), (29, 3), (30, 3), (31, 3), (32, 3), (33, 0), (34, 3), (35, 3), (36, 3)] ?_ (by kernel_rfl) (by kernel_rfl) ?_ (fun _ _ _ _ _ h => h) ((Ext.refl _).drew) ?_
          rotate_left
          (simp only [planOps, List.mapM_cons, List.mapM_nil, List.getElem?_toArray, List.getElem?_cons_zero, List.getElem?_cons_succ, Option.map_some, Option.bind_eq_bind, Option.bind_some, Option.pure_def]; rfl)
          intro wd hwd hxd
          repeat (first | (refine lin_take ?_ (by rfl) (fun wx hx => ?_) ?_; rotate_left; go_simp; (with_reducible rfl); try simp only [Act.put, List.setIfInBounds_toArray, List.set_cons_zero, List.set_cons_succ]) | (refine lin_skip (by rfl) ?_; try simp only [Act.put, List.setIfInBounds_toArray, List.set_cons_zero, List.set_cons_succ]) | (refine lin_take3 ?_ (by rfl) (fun wx hx => ?_) ?_; rotate_left; go_simp; (with_reducible rfl); try simp only [Act.put, List.setIfInBounds_toArray, List.set_cons_zero, List.set_cons_succ]) | (refine lin_skip3 (by rfl) ?_; try simp only [Act.put, List.setIfInBounds_toArray, List.set_cons_zero, List.set_cons_succ]))
          refine lin_pass (by rfl) hwd ?_
          try simp only [Act.put, List.setIfInBounds_toArray, List.set_cons_zero, List.set_cons_succ]
          repeat (first | (refine lin_take ?_ (by rfl) (fun wx hx => ?_) ?_; rotate_left; go_simp; (with_reducible rfl); try simp only [Act.put, List.setIfInBounds_toArray, List.set_cons_zero, List.set_cons_succ]) | (refine lin_skip (by rfl) ?_; try simp only [Act.put, List.setIfInBounds_toArray, List.set_cons_zero, List.set_cons_succ]) | (refine lin_take3 ?_ (by rfl) (fun wx hx => ?_) ?_; rotate_left; go_simp; (with_reducible rfl); try simp only [Act.put, List.setIfInBounds_toArray, List.set_cons_zero, List.set_cons_succ]) | (refine lin_skip3 (by rfl) ?_; try simp only [Act.put, List.setIfInBounds_toArray, List.set_cons_zero, List.set_cons_succ]))
          refine lin_nil ?_
          go_wp2_with fail
          go_ret3
          exact WritePost.of hval.out (MineB.nil (HX.out.trans hwd))
        | true =>
          go_wp2_with fail
          obtain ⟨dl, hdl⟩ : ∃ d, dryB x.kind = d := ⟨_, rfl⟩
          have Hdl := Lib.hid hdl
          cases dl with
          | true =>
            by_cases h0 : 0 < x.data.length
            · have hval : Hid (writeN Z ls = ([], 2, k)) := Lib.hid (Hbad.out (fun h => h.2.2.1 ⟨hdl, h0⟩))
              have h0' : decide (0 < x.data.length) = true := decide_eq_true (by omega)
              clear Hbad Hgood Hvd hkd hok hdl h0
              refine region_lin (fun wx => Ext w3 wx) 100000 [(0, 3), (1, 3), (2, 3), (3, 3), (4, 3), (5, 3), (6, 3), (7, 0), (8, 1), (9, 3), (10, 3), (11, 3), (12, 3), (13, 3), (14, 0), (15, 3), (16, 3), (17, 3), (18, 3), (19, 3), (20, 3), (21, 3), (22, 3), (23, 3), (24, 3), (25, 3), (26, 3), (27, 0), (28, 3), (29, 3), (30, 3), (31, 3), (32, 3), (33, 0), (34, 3), (35, 3), (36, 3)] ?_ (by kernel_rfl) (by kernel_rfl) ?_ (fun _ _ _ _ _ h => h) ((Ext.refl _).drew) ?_
              rotate_left
              (simp only [planOps, List.mapM_cons, List.mapM_nil, List.getElem?_toArray, List.getElem?_cons_zero, List.getElem?_cons_succ, Option.map_some, Option.bind_eq_bind, Option.bind_some, Option.pure_def]; rfl)
              intro wd hwd hxd
              repeat (first | (refine lin_take ?_ (by rfl) (fun wx hx => ?_) ?_; rotate_left; go_simp; (with_reducible rfl); try simp only [Act.put, List.setIfInBounds_toArray, List.set_cons_zero, List.set_cons_succ]) | (refine lin_skip (by rfl) ?_; try simp only [Act.put, List.setIfInBounds_toArray, List.set_cons_zero, List.set_cons_succ]) | (refine lin_take3 ?_ (by rfl) (fun wx hx => ?_) ?_; rotate_left; go_simp; (with_reducible rfl); try simp only [Act.put, List.setIfInBounds_toArray, List.set_cons_zero, List.set_cons_succ]) | (refine lin_skip3 (by rfl) ?_; try simp only [Act.put, List.setIfInBounds_toArray, List.set_cons_zero, List.set_cons_succ]))
              refine lin_run (by rfl) (fun KC hK => ?_)
              go_simp
              refine (rempty_any x.kind _).mono ?_
              rintro e w4 ⟨rfl, rfl⟩
              rw [Hdl.out]
              refine hK _ _ hwd ?_
              clear hK
              try simp only [Act.put, List.setIfInBounds_toArray, List.set_cons_zero, List.set_cons_succ]
              repeat (first | (refine lin_take ?_ (by rfl) (fun wx hx => ?_) ?_; rotate_left; go_simp; (with_reducible rfl); try simp only [Act.put, List.setIfInBounds_toArray, List.set_cons_zero, List.set_cons_succ]) | (refine lin_skip (by rfl) ?_; try simp only [Act.put, List.setIfInBounds_toArray, List.set_cons_zero, List.set_cons_succ]) | (refine lin_take3 ?_ (by rfl) (fun wx hx => ?_) ?_; rotate_left; go_simp; (with_reducible rfl); try simp only [Act.put, List.setIfInBounds_toArray, List.set_cons_zero, List.set_cons_succ]) | (refine lin_skip3 (by rfl) ?_; try simp only [Act.put, List.setIfInBounds_toArray, List.set_cons_zero, List.set_cons_succ]))
              refine lin_nil ?_
              go_wp2_with fail
              go_ret3
              exact WritePost.of hval.out (MineB.nil (HX.out.trans hwd))
            · have h0' : decide (0 < x.data.length) = false := decide_eq_false (by omega)
              have Hgd : Hid (behind x.path (aheadAt ls k) = true → badAt Z [] 0 ls = badAt Z (aheadAt ls (k + 1)) (k + 1) (ls.drop (k + 1))) := Lib.hid (fun h => Hgood.out ⟨hkd, hok, fun q => h0 q.2, h⟩)
              have Hbd2 : Hid (behind x.path (aheadAt ls k) = false → writeN Z ls = ([], 2, k)) := Lib.hid (fun h => Hbad.out (fun q => by rw [h] at q; cases q.2.2.2))
              have HB0 : Hid (k = 0 → behind x.path (aheadAt ls k) = true) := Lib.hid (fun e => by rw [e]; exact behind_nil hok)
              clear Hbad Hgood Hvd hkd hok hdl h0
              rcases Nat.eq_zero_or_pos k with hk0 | hk0
              · have HN : Hid (badAt Z [] 0 ls = badAt Z (aheadAt ls (k + 1)) (k + 1) (ls.drop (k + 1))) := Lib.hid (Hgd.out (HB0.out hk0))
                have kz : decide (0 < k) = false := decide_eq_false (by omega)
                clear hk0 Hgd Hbd2 HB0
                refine region_lin (fun wx => Ext w3 wx) 100000 [(0, 3), (1, 3), (2, 3), (3, 3), (4, 3), (5, 3), (6, 3), (7, 0), (8, 1), (9, 3), (10, 3), (11, 3), (12, 3), (13, 3), (14, 0), (15, 3), (16, 3), (17, 3), (18, 3), (19, 3), (20, 3), (21, 3), (22, 3), (23, 3), (24, 3), (25, 3), (26, 3), (27, 0), (28, 3), (29, 3), (30, 3), (31, 3), (32, 3), (33, 0), (34, 3), (35, 3), (36, 3)] ?_ (by kernel_rfl) (by kernel_rfl) ?_ (fun _ _ _ _ _ h => h) ((Ext.refl _).drew) ?_
                rotate_left
                (simp only [planOps, List.mapM_cons, List.mapM_nil, List.getElem?_toArray, List.getElem?_cons_zero, List.getElem?_cons_succ, Option.map_some, Option.bind_eq_bind, Option.bind_some, Option.pure_def]; rfl)
                intro wd hwd hxd
                repeat (first | (refine lin_take ?_ (by rfl) (fun wx hx => ?_) ?_; rotate_left; go_simp; (with_reducible rfl); try simp only [Act.put, List.setIfInBounds_toArray, List.set_cons_zero, List.set_cons_succ]) | (refine lin_skip (by rfl) ?_; try simp only [Act.put, List.setIfInBounds_toArray, List.set_cons_zero, List.set_cons_succ]) | (refine lin_take3 ?_ (by rfl) (fun wx hx => ?_) ?_; rotate_left; go_simp; (with_reducible rfl); try simp only [Act.put, List.setIfInBounds_toArray, List.set_cons_zero, List.set_cons_succ]) | (refine lin_skip3 (by rfl) ?_; try simp only [Act.put, List.setIfInBounds_toArray, List.set_cons_zero, List.set_cons_succ]))
                refine lin_run (by rfl) (fun KC hK => ?_)
                go_simp
                refine (rempty_any x.kind _).mono ?_
                rintro e w4 ⟨rfl, rfl⟩
                rw [Hdl.out]
                refine hK _ _ hwd ?_
                clear hK
                try simp only [Act.put, List.setIfInBounds_toArray, List.set_cons_zero, List.set_cons_succ]
                repeat (first | (refine lin_take ?_ (by rfl) (fun wx hx => ?_) ?_; rotate_left; go_simp; (with_reducible rfl); try simp only [Act.put, List.setIfInBounds_toArray, List.set_cons_zero, List.set_cons_succ]) | (refine lin_skip (by rfl) ?_; try simp only [Act.put, List.setIfInBounds_toArray, List.set_cons_zero, List.set_cons_succ]) | (refine lin_take3 ?_ (by rfl) (fun wx hx => ?_) ?_; rotate_left; go_simp; (with_reducible rfl); try simp only [Act.put, List.setIfInBounds_toArray, List.set_cons_zero, List.set_cons_succ]) | (refine lin_skip3 (by rfl) ?_; try simp only [Act.put, List.setIfInBounds_toArray, List.set_cons_zero, List.set_cons_succ]))
                refine lin_nil ?_
                have HXd := Lib.hid (HX.out.trans hwd)
                clear hwd hxd
                go_wp2_with fail
                go_roundw
                case rel => exact ⟨k + 1, by omega, by go_num, HXd.out, HN.out⟩
                case measure => simp [intOf]; omega
              · obtain ⟨j, hj⟩ : ∃ j : Nat, k = j + 1 := ⟨k - 1, by omega⟩
                have kz : decide (0 < k) = true := decide_eq_true (by omega)
                obtain ⟨b', off', y, D', dc', he, hbw', hy, y0', -, -, -⟩ := (HL.out.ext HX.out).at (k := j) (by omega)
                injection he with he
                injection he with he1 he2
                subst he1 he2
                have Y0 : ∀ wx, Ext w3 wx → wx.cell? ⟨b, off + j * 3, none⟩ = some (.string (mkB y.path)) := fun wx h => (h.cell hbw').trans y0'
                have hah : aheadAt ls k = y.path := by rw [hj]; exact aheadAt_succ hy
                have hjk : IntKind.i64.wrap ((k : Int) - 1) = (j : Int) := by rw [IntWalk.i64_in _ (by omega)]; omega
                have hjn : j < n := by omega
                rw [hah] at Hgd Hbd2
                clear HB0 hk0 hah hy y0' hj hbw'
                refine region_lin (fun wx => Ext w3 wx) 100000 [(0, 3), (1, 3), (2, 3), (3, 3), (4, 3), (5, 3), (6, 3), (7, 0), (8, 1), (9, 3), (10, 3), (11, 3), (12, 3), (13, 3), (14, 0), (15, 3), (16, 3), (17, 3), (18, 3), (19, 3), (20, 3), (21, 3), (22, 3), (23, 3), (24, 3), (25, 3), (26, 3), (27, 0), (28, 3), (29, 3), (30, 3), (31, 3), (32, 3), (33, 0), (34, 3), (35, 3), (36, 3)] ?_ (by kernel_rfl) (by kernel_rfl) ?_ (fun _ _ _ _ _ h => h) ((Ext.refl _).drew) ?_
                rotate_left
                (simp only [planOps, List.mapM_cons, List.mapM_nil, List.getElem?_toArray, List.getElem?_cons_zero, List.getElem?_cons_succ, Option.map_some, Option.bind_eq_bind, Option.bind_some, Option.pure_def]; rfl)
                intro wd hwd hxd
                repeat (first | (refine lin_take ?_ (by rfl) (fun wx hx => ?_) ?_; rotate_left; go_simp; (with_reducible rfl); try simp only [Act.put, List.setIfInBounds_toArray, List.set_cons_zero, List.set_cons_succ]) | (refine lin_skip (by rfl) ?_; try simp only [Act.put, List.setIfInBounds_toArray, List.set_cons_zero, List.set_cons_succ]) | (refine lin_take3 ?_ (by rfl) (fun wx hx => ?_) ?_; rotate_left; go_simp; (with_reducible rfl); try simp only [Act.put, List.setIfInBounds_toArray, List.set_cons_zero, List.set_cons_succ]) | (refine lin_skip3 (by rfl) ?_; try simp only [Act.put, List.setIfInBounds_toArray, List.set_cons_zero, List.set_cons_succ]))
                refine lin_run (by rfl) (fun KC hK => ?_)
                go_simp
                refine (rempty_any x.kind _).mono ?_
                rintro e w4 ⟨rfl, rfl⟩
                rw [Hdl.out]
                refine hK _ _ hwd ?_
                clear hK
                try simp only [Act.put, List.setIfInBounds_toArray, List.set_cons_zero, List.set_cons_succ]
                repeat (first | (refine lin_take ?_ (by rfl) (fun wx hx => ?_) ?_; rotate_left; go_simp; (with_reducible rfl); try simp only [Act.put, List.setIfInBounds_toArray, List.set_cons_zero, List.set_cons_succ]) | (refine lin_skip (by rfl) ?_; try simp only [Act.put, List.setIfInBounds_toArray, List.set_cons_zero, List.set_cons_succ]) | (refine lin_take3 ?_ (by rfl) (fun wx hx => ?_) ?_; rotate_left; go_simp; (with_reducible rfl); try simp only [Act.put, List.setIfInBounds_toArray, List.set_cons_zero, List.set_cons_succ]) | (refine lin_skip3 (by rfl) ?_; try simp only [Act.put, List.setIfInBounds_toArray, List.set_cons_zero, List.set_cons_succ]))
                skip
                obtain ⟨le, hle⟩ : ∃ le, (Op.bytesLess (mkB x.path).toList (mkB y.path).toList || (mkB x.path).toList == (mkB y.path).toList) = le := ⟨_, rfl⟩
                rw [hle]
                rw [mkB_list, mkB_list] at hle
                have hbh : behind x.path y.path = !le := by rw [← hle]; unfold behind; cases Op.bytesLess x.path y.path <;> rfl
                refine lin_nil ?_
                clear Y0 hjk kz hle
                cases le with
                | true =>
                  have hval : Hid (writeN Z ls = ([], 2, k)) := Lib.hid (Hbd2.out hbh)
                  clear Hgd Hbd2 hbh
                  go_wp2_with fail
                  go_ret3
                  exact WritePost.of hval.out (MineB.nil (HX.out.trans hwd))
                | false =>
                  have HN : Hid (badAt Z [] 0 ls = badAt Z (aheadAt ls (k + 1)) (k + 1) (ls.drop (k + 1))) := Lib.hid (Hgd.out hbh)
                  clear Hgd Hbd2 hbh
                  have HXd := Lib.hid (HX.out.trans hwd)
                  clear hwd hxd
                  go_wp2_with fail
                  go_roundw
                  case rel => exact ⟨k + 1, by omega, by go_num, HXd.out, HN.out⟩
                  case measure => simp [intOf]; omega
          | false =>
            have Hgd : Hid (behind x.path (aheadAt ls k) = true → badAt Z [] 0 ls = badAt Z (aheadAt ls (k + 1)) (k + 1) (ls.drop (k + 1))) := Lib.hid (fun h => Hgood.out ⟨hkd, hok, fun q => (by have := q.1; rw [hdl] at this; cases this), h⟩)
            have Hbd2 : Hid (behind x.path (aheadAt ls k) = false → writeN Z ls = ([], 2, k)) := Lib.hid (fun h => Hbad.out (fun q => by rw [h] at q; cases q.2.2.2))
            have HB0 : Hid (k = 0 → behind x.path (aheadAt ls k) = true) := Lib.hid (fun e => by rw [e]; exact behind_nil hok)
            clear Hbad Hgood Hvd hkd hok hdl
            rcases Nat.eq_zero_or_pos k with hk0 | hk0
            · have HN : Hid (badAt Z [] 0 ls = badAt Z (aheadAt ls (k + 1)) (k + 1) (ls.drop (k + 1))) := Lib.hid (Hgd.out (HB0.out hk0))
              have kz : decide (0 < k) = false := decide_eq_false (by omega)
              clear hk0 Hgd Hbd2 HB0
              refine region_lin (fun wx => Ext w3 wx) 100000 [(0, 3), (1, 3), (2, 3), (3, 3), (4, 3), (5, 3), (6, 3), (7, 0), (8, 1), (9, 3), (10, 3), (11, 3), (12, 3), (13, 3), (14, 0), (15, 3), (16, 3), (17, 3), (18, 3), (19, 3), (20, 3), (21, 3), (22, 3), (23, 3), (24, 3), (25, 3), (26, 3), (27, 0), (28, 3), (29, 3), (30, 3), (31, 3), (32, 3), (33, 0), (34, 3), (35, 3), (36, 3)] ?_ (by kernel_rfl) (by kernel_rfl) ?_ (fun _ _ _ _ _ h => h) ((Ext.refl _).drew) ?_
              rotate_left
              (simp only [planOps, List.mapM_cons, List.mapM_nil, List.getElem?_toArray, List.getElem?_cons_zero, List.getElem?_cons_succ, Option.map_some, Option.bind_eq_bind, Option.bind_some, Option.pure_def]; rfl)
              intro wd hwd hxd
              repeat (first | (refine lin_take ?_ (by rfl) (fun wx hx => ?_) ?_; rotate_left; go_simp; (with_reducible rfl); try simp only [Act.put, List.setIfInBounds_toArray, List.set_cons_zero, List.set_cons_succ]) | (refine lin_skip (by rfl) ?_; try simp only [Act.put, List.setIfInBounds_toArray, List.set_cons_zero, List.set_cons_succ]) | (refine lin_take3 ?_ (by rfl) (fun wx hx => ?_) ?_; rotate_left; go_simp; (with_reducible rfl); try simp only [Act.put, List.setIfInBounds_toArray, List.set_cons_zero, List.set_cons_succ]) | (refine lin_skip3 (by rfl) ?_; try simp only [Act.put, List.setIfInBounds_toArray, List.set_cons_zero, List.set_cons_succ]))
              refine lin_run (by rfl) (fun KC hK => ?_)
              go_simp
              refine (rempty_any x.kind _).mono ?_
              rintro e w4 ⟨rfl, rfl⟩
              rw [Hdl.out]
              refine hK _ _ hwd ?_
              clear hK
              try simp only [Act.put, List.setIfInBounds_toArray, List.set_cons_zero, List.set_cons_succ]
              repeat (first | (refine lin_take ?_ (by rfl) (fun wx hx => ?_) ?_; rotate_left; go_simp; (with_reducible rfl); try simp only [Act.put, List.setIfInBounds_toArray, List.set_cons_zero, List.set_cons_succ]) | (refine lin_skip (by rfl) ?_; try simp only [Act.put, List.setIfInBounds_toArray, List.set_cons_zero, List.set_cons_succ]) | (refine lin_take3 ?_ (by rfl) (fun wx hx => ?_) ?_; rotate_left; go_simp; (with_reducible rfl); try simp only [Act.put, List.setIfInBounds_toArray, List.set_cons_zero, List.set_cons_succ]) | (refine lin_skip3 (by rfl) ?_; try simp only [Act.put, List.setIfInBounds_toArray, List.set_cons_zero, List.set_cons_succ]))
              refine lin_nil ?_
              have HXd := Lib.hid (HX.out.trans hwd)
              clear hwd hxd
              go_wp2_with fail
              go_roundw
              case rel => exact ⟨k + 1, by omega, by go_num, HXd.out, HN.out⟩
              case measure => simp [intOf]; omega
            · obtain ⟨j, hj⟩ : ∃ j : Nat, k = j + 1 := ⟨k - 1, by omega⟩
              have kz : decide (0 < k) = true := decide_eq_true (by omega)
              obtain ⟨b', off', y, D', dc', he, hbw', hy, y0', -, -, -⟩ := (HL.out.ext HX.out).at (k := j) (by omega)
              injection he with he
              injection he with he1 he2
              subst he1 he2
              have Y0 : ∀ wx, Ext w3 wx → wx.cell? ⟨b, off + j * 3, none⟩ = some (.string (mkB y.path)) := fun wx h => (h.cell hbw').trans y0'
              have hah : aheadAt ls k = y.path := by rw [hj]; exact aheadAt_succ hy
              have hjk : IntKind.i64.wrap ((k : Int) - 1) = (j : Int) := by rw [IntWalk.i64_in _ (by omega)]; omega
              have hjn : j < n := by omega
              rw [hah] at Hgd Hbd2
              clear HB0 hk0 hah hy y0' hj hbw'
              refine region_lin (fun wx => Ext w3 wx) 100000 [(0, 3), (1, 3), (2, 3), (3, 3), (4, 3), (5, 3), (6, 3), (7, 0), (8, 1), (9, 3), (10, 3), (11, 3), (12, 3), (13, 3), (14, 0), (15, 3), (16, 3), (17, 3), (18, 3), (19, 3), (20, 3), (21, 3), (22, 3), (23, 3), (24, 3), (25, 3), (26, 3), (27, 0), (28, 3), (29, 3), (30, 3), (31, 3), (32, 3), (33, 0), (34, 3), (35, 3), (36, 3)] ?_ (by kernel_rfl) (by kernel_rfl) ?_ (fun _ _ _ _ _ h => h) ((Ext.refl _).drew) ?_
              rotate_left
              (simp only [planOps, List.mapM_cons, List.mapM_nil, List.getElem?_toArray, List.getElem?_cons_zero, List.getElem?_cons_succ, Option.map_some, Option.bind_eq_bind, Option.bind_some, Option.pure_def]; rfl)
              intro wd hwd hxd
              repeat (first | (refine lin_take ?_ (by rfl) (fun wx hx => ?_) ?_; rotate_left; go_simp; (with_reducible rfl); try simp only [Act.put, List.setIfInBounds_toArray, List.set_cons_zero, List.set_cons_succ]) | (refine lin_skip (by rfl) ?_; try simp only [Act.put, List.setIfInBounds_toArray, List.set_cons_zero, List.set_cons_succ]) | (refine lin_take3 ?_ (by rfl) (fun wx hx => ?_) ?_; rotate_left; go_simp; (with_reducible rfl); try simp only [Act.put, List.setIfInBounds_toArray, List.set_cons_zero, List.set_cons_succ]) | (refine lin_skip3 (by rfl) ?_; try simp only [Act.put, List.setIfInBounds_toArray, List.set_cons_zero, List.set_cons_succ]))
              refine lin_run (by rfl) (fun KC hK => ?_)
              go_simp
              refine (rempty_any x.kind _).mono ?_
              rintro e w4 ⟨rfl, rfl⟩
              rw [Hdl.out]
              refine hK _ _ hwd ?_
              clear hK
              try simp only [Act.put, List.setIfInBounds_toArray, List.set_cons_zero, List.set_cons_succ]
              repeat (first | (refine lin_take ?_ (by rfl) (fun wx hx => ?_) ?_; rotate_left; go_simp; (with_reducible rfl); try simp only [Act.put, List.setIfInBounds_toArray, List.set_cons_zero, List.set_cons_succ]) | (refine lin_skip (by rfl) ?_; try simp only [Act.put, List.setIfInBounds_toArray, List.set_cons_zero, List.set_cons_succ]) | (refine lin_take3 ?_ (by rfl) (fun wx hx => ?_) ?_; rotate_left; go_simp; (with_reducible rfl); try simp only [Act.put, List.setIfInBounds_toArray, List.set_cons_zero, List.set_cons_succ]) | (refine lin_skip3 (by rfl) ?_; try simp only [Act.put, List.setIfInBounds_toArray, List.set_cons_zero, List.set_cons_succ]))
              skip
              obtain ⟨le, hle⟩ : ∃ le, (Op.bytesLess (mkB x.path).toList (mkB y.path).toList || (mkB x.path).toList == (mkB y.path).toList) = le := ⟨_, rfl⟩
              rw [hle]
              rw [mkB_list, mkB_list] at hle
              have hbh : behind x.path y.path = !le := by rw [← hle]; unfold behind; cases Op.bytesLess x.path y.path <;> rfl
              refine lin_nil ?_
              clear Y0 hjk kz hle
              cases le with
              | true =>
                have hval : Hid (writeN Z ls = ([], 2, k)) := Lib.hid (Hbd2.out hbh)
                clear Hgd Hbd2 hbh
                go_wp2_with fail
                go_ret3
                exact WritePost.of hval.out (MineB.nil (HX.out.trans hwd))
              | false =>
                have HN : Hid (badAt Z [] 0 ls = badAt Z (aheadAt ls (k + 1)) (k + 1) (ls.drop (k + 1))) := Lib.hid (Hgd.out hbh)
                clear Hgd Hbd2 hbh
                have HXd := Lib.hid (HX.out.trans hwd)
                clear hwd hxd
                go_wp2_with fail
                go_roundw
                case rel => exact ⟨k + 1, by omega, by go_num, HXd.out, HN.out⟩
                case measure => simp [intOf]; omega
    · have hkn : k = n := by omega
      have hval : Hid (writeN Z ls = (allB Z ls, 0, 0)) := Lib.hid (by
        rw [hv.out, Hbd.out, List.drop_eq_nil_of_le (by rw [hkn, Hl.out]; exact Nat.le_refl _)]
        rfl)
      have HPL : Hid (∀ x ∈ ls, x.path.length ≤ 4096) := Lib.hid (badAt_paths ls [] 0 (by rw [Hbd.out, List.drop_eq_nil_of_le (by rw [hkn, Hl.out]; exact Nat.le_refl _)]; rfl))
      clear hkn Hbd
      go_wp2_with fail
      refine (rhead_any wr).mono ?_
      rintro e w1 ⟨v1, rfl, hm1⟩
      have HM1 := Lib.hid (hm1.base HX.out)
      obtain ⟨A1, c1, rfl, -⟩ := hm1.form
      rw [show headB.length = 4 from rfl] at HM1 ⊢
      clear hm1
      go_wp2_with fail
      go_loopw [7, 8] (fun bv iv wr => ∃ (k : Nat) (A' : Option Addr) (n' c' : Nat), k ≤ n ∧ iv = .int .i64 (k : Int) ∧ bv = .slice A' n' c' ∧ n' = (headB ++ encs Z (ls.take k)).length ∧ MineB w wr (.slice A' n' c') (headB ++ encs Z (ls.take k))) (fun _ iv _ => n - (intOf iv).toNat)
      case atStart => exact ⟨0, A1, 4, c1, Nat.zero_le _, rfl, rfl, rfl, HM1.out⟩
      case round =>
        obtain ⟨k, A', n', c', hk, rfl, rfl, hn', hmi⟩ := hrel
        have HMi := Lib.hid hmi
        have Hn' := Lib.hid hn'
        have hcap := encs_cap (Z := Z) ls k
        have hn5 : n' ≤ 17000000 := by
          have h0 := HSz.out.2
          have h1 : (headB ++ encs Z (ls.take k)).length = 4 + (encs Z (ls.take k)).length := by rw [List.length_append]; rfl
          have h2 := szN_eq ls
          omega
        obtain ⟨L, hL⟩ : ∃ L, headB ++ encs Z (ls.take k) = L := ⟨_, rfl⟩
        have HL0 := Lib.hid hL
        rw [hL] at Hn' HMi
        have HO : Hid (Own wr 5 1 (.slice A' n' c') n' (u8v L)) := Lib.hid (by have := HMi.out.2.1; rwa [← Hn'.out] at this)
        clear hmi hn' hcap hL HM1
        by_cases hlt : k < n
        · obtain ⟨b, off, x, D, dc, rfl, hbw, hx, c0, c1', c2, hbs⟩ := (HL.out.ext HMi.out.1).at hlt
          have Hx := Lib.hid hx
          have hpl := HPL.out x (List.mem_of_getElem? hx)
          have hxs := item_cap hx
          have hx5 : x.path.length + x.data.length ≤ 16777216 := by have := HSz.out.2; have h2 := szN_eq ls; omega
          have Hbs := Lib.hid hbs
          clear hx hxs hbs hbw
          go_wp2_with fail
          refine (ritem_any Z x D dc wr Hbs.out (by omega) (by omega)).mono ?_
          rintro e w2 ⟨v2, rfl, hm2⟩
          obtain ⟨A2, c2', rfl, hB2⟩ := hm2.form
          have hX2 := hm2.1
          have HX2 := Lib.hid hX2
          have HB2 := Lib.hid hB2
          have hel := enc_len (Z := Z) x
          obtain ⟨N2, hN2⟩ : ∃ m, (enc Z x).length = m := ⟨_, rfl⟩
          rw [hN2] at HB2 hel ⊢
          have HN2 := Lib.hid hN2
          have hN25 : N2 ≤ 17000000 := by omega
          clear hm2 hB2 hX2 hel hN2 c0 c1' c2
          go_wp2_with (at_builtin; refine wpList_append_own_any _ rfl (.tmp 85) (.tmp 90) 26 rfl 5 i _ 1 1 Tryd.underlying26 hi hz hsz5 hby rfl (by decide) (.slice A' n' c') n' (u8v L) rfl (HO.out.ext HX2.out) A2 N2 c2' (u8v (enc Z x)) rfl (by rw [u8v_len, Nat.mul_one, HN2.out]) HB2.out.news (u8v_one _) (by unfold maxLen; omega) (by omega) ?_)
          intro v3 w3 ho hg hv'
          have HM3 : Hid (MineB w w3 v3 (headB ++ encs Z (ls.take (k + 1)))) := Lib.hid (by
            have := (HMi.out.ext HX2.out).push (enc Z x) HN2.out.symm (by rw [← Hn'.out]; exact ho) hg hv'
            rwa [← HL0.out, List.append_assoc, ← encs_snoc Hx.out] at this)
          have hl3 : n' + N2 = (headB ++ encs Z (ls.take (k + 1))).length := by rw [encs_snoc Hx.out, ← List.append_assoc, HL0.out, List.length_append, HN2.out, Hn'.out]
          have Hl3 := Lib.hid hl3
          obtain ⟨A3, c3, rfl, -, -⟩ := ho.form
          clear ho hg hv' hl3
          go_wp2_with fail
          go_roundw
          case rel => exact ⟨k + 1, A3, n' + N2, c3, by omega, by go_num, rfl, Hl3.out, HM3.out⟩
          case measure => simp [intOf]; omega
        · have hkn : k = n := by omega
          have HL1 : Hid (L = headB ++ encs Z ls) := Lib.hid (by rw [← HL0.out, List.take_of_length_le (by rw [hkn, Hl.out]; exact Nat.le_refl _)])
          clear hkn
          go_wp2_with (at_builtin; refine wpList_append_own_any _ rfl (.tmp 92) (.tmp 93) 26 rfl 5 i _ 1 1 Tryd.underlying26 hi hz hsz5 hby rfl (by decide) (.slice A' n' c') n' (u8v L) rfl (HO.out.ext ((Ext.refl _).alloc _)) (some ⟨wr.heap.size, 0, none⟩) 1 1 (u8v [255]) rfl rfl (fun _ => ⟨_, rfl, new_cells _ _ _⟩) (u8v_one [255]) (by unfold maxLen; omega) (by omega) ?_)
          intro v1 w2 ho hg hv'
          have HM2 : Hid (MineB w w2 v1 (L ++ [255])) := Lib.hid ((HMi.out.ext ((Ext.refl _).alloc _)).push (v' := v1) [255] rfl (by rw [← Hn'.out]; exact ho) hg (by simpa using hv'))
          obtain ⟨L2, hL2⟩ : ∃ l, L ++ [255] = l := ⟨_, rfl⟩
          have HL2 := Lib.hid hL2
          have HL2l : Hid (L2.length = n' + 1) := Lib.hid (by rw [← hL2, List.length_append, Hn'.out]; rfl)
          rw [hL2] at HM2
          obtain ⟨A2, c2, rfl, -⟩ := HM2.out.form
          clear ho hg hv' hL2
          have k3 : IntKind.u64.wrap (n : Int) = (n : Int) := IntWalk.u64_in _ (by omega)
          go_wp2_with fail
          clear k3
          refine (rput_any w _ L2 n 4 w2 HM2.out (by omega) (by decide) (by rw [HL2l.out]; omega)).mono ?_
          rintro e w3 ⟨v3, rfl, hm3⟩
          obtain ⟨L3, hL3⟩ : ∃ l, L2 ++ beN 4 n = l := ⟨_, rfl⟩
          have HL3 : Hid (L3 = headB ++ encs Z ls ++ endB ls.length) := Lib.hid (by rw [← hL3, ← HL2.out, HL1.out, Hl.out]; simp [endB])
          have HL3l : Hid (L3.length = n' + 5) := Lib.hid (by rw [← hL3, List.length_append, HL2l.out, beN_len])
          rw [hL3] at hm3
          have HM3 := Lib.hid hm3
          obtain ⟨A3, c3, rfl, HB3⟩ := hm3.form
          have HB3' := Lib.hid HB3
          clear hm3 hL3 HB3
          go_wp2_with fail
          have HSm : Hid (True ∧ sumB Z L3 < 18446744073709551616) := ⟨trivial, sumB_lt _⟩
          refine (rsum_any Z A3 _ _ L3 w3 HB3'.out (by rw [HL3l.out]; omega)).mono ?_
          rintro e w4 ⟨rfl, rfl⟩
          obtain ⟨su, hsu⟩ : ∃ z, sumB Z L3 = z := ⟨_, rfl⟩
          have Hsu := Lib.hid hsu
          rw [hsu] at HSm ⊢
          clear hsu
          go_wp2_with fail
          refine (rput_any w _ L3 su 8 w3 HM3.out HSm.out.2 (by decide) (by rw [HL3l.out]; omega)).mono ?_
          rintro e w4 ⟨v4, rfl, hm4⟩
          have HM4 : Hid (MineB w w4 v4 (allB Z ls)) := Lib.hid (by
            rw [← Hsu.out, HL3.out] at hm4
            exact hm4)
          clear hm4
          go_wp2_with fail
          go_ret3
          exact WritePost.of hval.out HM4.out
end Go.Proofs.YtcpnnkkfndgpjaaDoor
