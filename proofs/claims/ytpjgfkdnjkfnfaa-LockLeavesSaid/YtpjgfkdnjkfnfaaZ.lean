/- The statement LockApart: what is held lies apart, what waits has a reason, and none waits in a circle. -/
import Derived.Test.YtpjgfkdnjkfnfaaX
import Derived.Test.YtpjgfkdnjkfnfaaY
namespace Go.Proofs.Ytpjgfkdnjkfnfaa
open Go.ChangeShapes Go.WideShapes Go.ChangeAt Go.RowKit Go.Joins

theorem LkSl.form {w : World} {A n ls} (h : LkSl w A n ls) (hn : 0 < n) : ∃ b off, A = some ⟨b, off, none⟩ := by
  obtain ⟨b, off, e, _⟩ := h.2 hn
  exact ⟨b, off, e⟩
/-- A lock's cells, in all that comes later. -/
theorem LkSl.at {w : World} {b off n : Nat} {ls : List Lk} (h : LkSl w (some ⟨b, off, none⟩) n ls) {k : Nat} {x : Lk} (hk : ls[k]? = some x) :
    (∀ wx, Ext w wx → wx.cell? ⟨b, off + k * 4, none⟩ = some (.int .i64 x.who)) ∧ (∀ wx, Ext w wx → wx.cell? ⟨b, off + k * 4 + 1, none⟩ = some (.int .i64 x.pos)) ∧
    (∀ wx, Ext w wx → wx.cell? ⟨b, off + k * 4 + 2, none⟩ = some (.int .i64 x.num)) ∧ (∀ wx, Ext w wx → wx.cell? ⟨b, off + k * 4 + 3, none⟩ = some (.bool x.sh)) := by
  have hn : 0 < n := by have := (List.getElem?_eq_some_iff.1 hk).1; have := h.1; omega
  obtain ⟨b', off', e, hb, hc⟩ := h.2 hn
  injection e with e
  injection e with e1 e2
  subst e1 e2
  obtain ⟨h1, h2, h3, h4⟩ := hc k x hk
  exact ⟨fun wx he => (he.cell hb).trans h1, fun wx he => (he.cell hb).trans h2, fun wx he => (he.cell hb).trans h3, fun wx he => (he.cell hb).trans h4⟩
theorem no_way {H : List Lk} {a b : Int} (h : Way H [] a b) : False := by
  cases h with
  | one e => obtain ⟨i, x, y, h, _⟩ := e; simp at h
  | cons e _ => obtain ⟨i, x, y, h, _⟩ := e; simp at h
section
variable {P : Program} {ops : Array Oper} {Q : Exit → Act → World → Prop} {S : World → Prop}
theorem lin_pass2 {a : Act} {w : World} {o : Oper} {rest : List (Oper × Nat)} (hw : Region.wanted o (yielded ops a.tmps) = false)
    (h : wpLin P ops Q S rest (a.put o.dst undef) w) : wpLin P ops Q S ((o, 2) :: rest) a w := fun K hK => by
  rw [if_neg (by simp [hw])]; exact hK _ _ h
end

set_option maxRecDepth 20000 in
set_option maxHeartbeats 4000000 in
theorem lockApart_walk (A : Option Addr) (n c : Nat) (xs : List Step) (w : World) (hxs : StSl w A n xs) (hn : n ≤ maxLen) :
    Calls Try.prog 3 #[.slice A n c] w fun e w' => e = .returned (.bool true) ∧ Ext w w' := by
  have HX := Lib.hid hxs
  have hn' : n ≤ 9223372036854775807 := by unfold maxLen at hn; omega
  clear hxs hn
  go_enter Try.func3, Try.ntmps3
  go_wp2_with fail
  refine (new_b w _ (Ext.refl _)).mono ?_
  rintro e w1 ⟨t, rfl, hT1⟩
  have HT1 := Lib.hid hT1
  clear hT1
  go_wp2_with fail
  go_loopw [4] (fun i wr => ∃ (k : Nat) (H W : List Lk), k ≤ n ∧ k ≤ 100 ∧ i = .int .i64 k ∧ TabB w wr t H W ∧ Inv H W ∧ Whos (fun x => 0 ≤ x ∧ x < 6) H W) (fun i _ => n - (intOf i).toNat)
  case atStart => exact ⟨0, [], [], Nat.zero_le _, Nat.zero_le _, rfl, HT1.out, ⟨List.Pairwise.nil, fun P x Q h => by simp at h, fun a hw => no_way hw⟩, ⟨fun l h => by simp at h, fun l h => by simp at h⟩⟩
  case round =>
    obtain ⟨k, H, W, hk, hk1, rfl, hT, hI, hs⟩ := hrel
    have HT := Lib.hid hT
    have HI := Lib.hid hI
    have HS := Lib.hid hs
    clear hT hI hs
    by_cases hlt : k < n
    · by_cases h100 : k < 100
      · have hkl : k < xs.length := by have := HX.out.1; omega
        obtain ⟨b, off, rfl, hb, hce⟩ := (HX.out.ext HT.out.1).2 (by omega)
        obtain ⟨s0, s1, s2, s3, s4⟩ := hce k xs[k] (List.getElem?_eq_getElem hkl)
        obtain ⟨⟨d, l⟩, hxe⟩ : ∃ x, xs[k] = x := ⟨_, rfl⟩
        rw [hxe] at s0 s1 s2 s3 s4
        simp only at s0 s1 s2 s3 s4
        obtain ⟨lw, lp, ln, ls⟩ := l
        simp only at s1 s2 s3 s4
        clear hce hxe
        go_wp2_with fail
        refine (goes_any w _ t H W d lw lp ln ls HT.out).mono ?_
        rintro e w2 ⟨⟨v, rfl⟩, hT2⟩
        have HI2 := Lib.hid (HI.out.goes d ⟨six lw, lp, ln, ls⟩)
        have HS2 := Lib.hid (HS.out.goes d (l := ⟨six lw, lp, ln, ls⟩) (six_lt lw))
        obtain ⟨⟨H1, W1⟩, hg⟩ : ∃ g, goesF d ⟨six lw, lp, ln, ls⟩ H W = g := ⟨_, rfl⟩
        rw [hg] at HI2 HS2 hT2
        simp only at HI2 HS2 hT2
        have HT2 := Lib.hid hT2
        clear hT2 hg s0 s1 s2 s3 s4 HT HI HS
        go_wp2_with fail
        refine (held_b w _ t H1 W1 HT2.out).mono ?_
        rintro e w3 ⟨A6, c6, rfl, hx3, hT3, hs3⟩
        have HT3 := Lib.hid hT3
        clear hT3
        go_wp2_with fail
        refine (waits_b w _ t H1 W1 HT3.out).mono ?_
        rintro e w4 ⟨A7, c7, rfl, hx4, hT4, hs4⟩
        have HT4 := Lib.hid hT4
        have HH : Hid (LkSl w4 A6 H1.length H1) := hs3.ext hx4
        have HW : Hid (LkSl w4 A7 W1.length W1) := hs4
        clear hT4 hs3 hs4 hx3 hx4
        obtain ⟨hv, wv, ht, hF⟩ := HT4.out.2
        have hfew := ht.few
        have OH := Lib.hid ht.hok
        have OW := Lib.hid ht.wok
        clear ht hF
        go_wp2_with fail
        obtain ⟨wo, rfl⟩ : ∃ wo : World, wo = wr := ⟨_, rfl⟩
        go_loopw [7] (fun i wr => ∃ i' : Nat, i' ≤ H1.length ∧ i = .int .i64 i' ∧ Ext w4 wr) (fun i _ => H1.length - (intOf i).toNat)
        case atStart => exact ⟨0, Nat.zero_le _, rfl, Ext.refl _⟩
        case round =>
          obtain ⟨i, hi, rfl, hx⟩ := hrel
          have Hx := Lib.hid hx
          clear hx
          by_cases hil : i < H1.length
          · obtain ⟨bh, oh, rfl⟩ := HH.out.form (by omega)
            go_wp2_with fail
            obtain ⟨wa, rfl⟩ : ∃ wa : World, wa = wr := ⟨_, rfl⟩
            go_loopw [8] (fun i wr => ∃ j : Nat, j ≤ H1.length ∧ i = .int .i64 j ∧ Ext w4 wr) (fun i' _ => H1.length - (intOf i').toNat)
            case atStart => exact ⟨0, Nat.zero_le _, rfl, Hx.out⟩
            case round =>
              obtain ⟨j, hj, rfl, hx⟩ := hrel
              have Hx2 := Lib.hid hx
              clear hx
              by_cases hji : j < i
              · have hjl : j < H1.length := by omega
                obtain ⟨x, hxe⟩ : ∃ x, H1[i] = x := ⟨_, rfl⟩
                obtain ⟨y, hye⟩ : ∃ y, H1[j] = y := ⟨_, rfl⟩
                obtain ⟨-, -, x3, x4, x5, x6⟩ := (may_iff x).1 (OH.out x (hxe ▸ List.getElem_mem hil))
                obtain ⟨-, -, y3, y4, y5, y6⟩ := (may_iff y).1 (OH.out y (hye ▸ List.getElem_mem hjl))
                have hm : meetB x y = false := by
                  rw [meet_symm, ← hxe, ← hye]
                  exact List.pairwise_iff_getElem.1 HI2.out.apart j i hjl hil hji
                obtain ⟨p0, p1, p2, p3⟩ := (HH.out.ext Hx2.out).at (show H1[i]? = some x by rw [List.getElem?_eq_getElem hil, hxe])
                obtain ⟨q0, q1, q2, q3⟩ := (HH.out.ext Hx2.out).at (show H1[j]? = some y by rw [List.getElem?_eq_getElem hjl, hye])
                obtain ⟨xw, xp, xn, xs⟩ := x
                obtain ⟨yw, yp, yn, ys⟩ := y
                simp only at x3 x4 x5 x6 y3 y4 y5 y6 p0 p1 p2 p3 q0 q1 q2 q3
                clear hxe hye
                have Hm := Lib.hid hm
                clear hm
                go_wp2_with fail
                refine region_lin (fun wx => Ext wr wx) 8 [(0, 3), (1, 3), (2, 3), (3, 0), (4, 3), (5, 3), (6, 3), (7, 0), (8, 2)] ?_ (by kernel_rfl) (by kernel_rfl) ?_ (fun _ _ _ _ _ h => h) ((Ext.refl _).drew) ?_
                rotate_left
                (simp only [planOps, List.mapM_cons, List.mapM_nil, List.getElem?_toArray, List.getElem?_cons_zero, List.getElem?_cons_succ, Option.map_some, Option.bind_eq_bind, Option.bind_some, Option.pure_def]; rfl)
                intro wd hwd hxd
                clear hxd
                repeat (first | (refine lin_take ?_ (by rfl) (fun wx hx => ?_) ?_; rotate_left; go_simp; (with_reducible rfl); try simp only [Act.put, List.setIfInBounds_toArray, List.set_cons_zero, List.set_cons_succ]) | (refine lin_skip (by rfl) ?_; try simp only [Act.put, List.setIfInBounds_toArray, List.set_cons_zero, List.set_cons_succ]) | (refine lin_take3 ?_ (by rfl) (fun wx hx => ?_) ?_; rotate_left; go_simp; (with_reducible rfl); try simp only [Act.put, List.setIfInBounds_toArray, List.set_cons_zero, List.set_cons_succ]))
                refine lin_last (by rfl) (fun K hK => ?_)
                go_simp
                refine (lawmeet_any _ _ _ _ _ _ _ _ _ x3 x4 (by omega) y3 y4 (by omega)).mono ?_
                rintro e w5 ⟨rfl, hx5⟩
                refine hK _ _ trivial ?_
                try simp only [Act.put, List.setIfInBounds_toArray, List.set_cons_zero, List.set_cons_succ]
                rw [Hm.out]
                have Hx6 : Hid (Ext w4 w5) := (Hx2.out.trans hwd).trans hx5
                clear hwd hx5 p0 p1 p2 p3 q0 q1 q2 q3
                go_wp2_with fail
                go_roundw
                case rel => exact ⟨j + 1, by omega, by go_num, Hx6.out⟩
                case measure => simp [intOf]; omega
              · go_wp2_with fail
                go_roundw
                case rel => exact ⟨i + 1, by omega, by go_num, Hx2.out⟩
                case measure => simp [intOf]; omega
          · go_wp2_with fail
            obtain ⟨wa, rfl⟩ : ∃ wa : World, wa = wr := ⟨_, rfl⟩
            go_loopw [9] (fun i wr => ∃ i' : Nat, i' ≤ W1.length ∧ i = .int .i64 i' ∧ Ext w4 wr) (fun i _ => W1.length - (intOf i).toNat)
            case atStart => exact ⟨0, Nat.zero_le _, rfl, Hx.out⟩
            case round =>
              obtain ⟨i2, hi2, rfl, hx⟩ := hrel
              have Hx2 := Lib.hid hx
              clear hx
              by_cases hil2 : i2 < W1.length
              · obtain ⟨bw, ow, rfl⟩ := HW.out.form (by omega)
                obtain ⟨x, hxe⟩ : ∃ x, W1[i2] = x := ⟨_, rfl⟩
                have Hxi : Hid (W1[i2]? = some x) := by show _ = _; rw [List.getElem?_eq_getElem hil2, hxe]
                obtain ⟨-, -, x3, x4, x5, x6⟩ := (may_iff x).1 (OW.out x (hxe ▸ List.getElem_mem hil2))
                have Hst : Hid (H1.any (meetB x) = true ∨ (W1.take i2).any (meetB x) = true) := by
                  obtain ⟨y, hy, hm⟩ := HI2.out.stuck (W1.take i2) x (W1.drop (i2 + 1)) (by rw [← hxe, ← List.drop_eq_getElem_cons hil2, List.take_append_drop])
                  rcases hy with hy | hy
                  · exact .inl (List.any_eq_true.2 ⟨y, hy, hm⟩)
                  · exact .inr (List.any_eq_true.2 ⟨y, hy, hm⟩)
                clear hxe
                go_wp2_with fail
                obtain ⟨wb, rfl⟩ : ∃ wb : World, wb = wr := ⟨_, rfl⟩
                go_loopw [10, 11] (fun st jv wr => ∃ j : Nat, j ≤ H1.length ∧ jv = .int .i64 j ∧ st = .bool ((H1.take j).any (meetB x)) ∧ Ext w4 wr) (fun _ jv _ => H1.length - (intOf jv).toNat)
                case atStart => exact ⟨0, Nat.zero_le _, rfl, by simp, Hx2.out⟩
                case round =>
                  obtain ⟨j, hj, rfl, rfl, hx⟩ := hrel
                  have Hx3 := Lib.hid hx
                  clear hx
                  by_cases hjl : j < H1.length
                  · obtain ⟨bh, oh, rfl⟩ := HH.out.form (by omega)
                    obtain ⟨y, hye⟩ : ∃ y, H1[j] = y := ⟨_, rfl⟩
                    have Hyj : Hid (H1[j]? = some y) := by show _ = _; rw [List.getElem?_eq_getElem hjl, hye]
                    obtain ⟨-, -, y3, y4, y5, y6⟩ := (may_iff y).1 (OH.out y (hye ▸ List.getElem_mem hjl))
                    have Hnx : Hid ((H1.take (j + 1)).any (meetB x) = ((H1.take j).any (meetB x) || meetB x y)) := by
                      show _ = _
                      rw [List.take_succ_eq_append_getElem hjl, List.any_append, hye]
                      simp
                    clear hye
                    obtain ⟨p0, p1, p2, p3⟩ := (HW.out.ext Hx3.out).at Hxi.out
                    obtain ⟨q0, q1, q2, q3⟩ := (HH.out.ext Hx3.out).at Hyj.out
                    cases hb : (H1.take j).any (meetB x) with
                    | true =>
                      rw [hb] at Hnx
                      have HnT : Hid ((H1.take (j + 1)).any (meetB x) = true) := Hnx.out.trans (Bool.true_or _)
                      clear hb Hnx
                      go_wp2_with fail
                      refine region_lin (fun wx => Ext wr wx) 100000 [(0, 0), (1, 0), (2, 0), (3, 0), (4, 0), (5, 0), (6, 0), (7, 0), (8, 0), (9, 0), (10, 1), (11, 0), (12, 0)] ?_ (by kernel_rfl) (by kernel_rfl) ?_ (fun _ _ _ _ _ h => h) ((Ext.refl _).drew) ?_
                      rotate_left
                      (simp only [planOps, List.mapM_cons, List.mapM_nil, List.getElem?_toArray, List.getElem?_cons_zero, List.getElem?_cons_succ, Option.map_some, Option.bind_eq_bind, Option.bind_some, Option.pure_def]; rfl)
                      intro wd hwd hxd
                      clear hxd
                      repeat (first | (refine lin_take ?_ (by rfl) (fun wx hx => ?_) ?_; rotate_left; go_simp; (with_reducible rfl); try simp only [Act.put, List.setIfInBounds_toArray, List.set_cons_zero, List.set_cons_succ]) | (refine lin_skip (by rfl) ?_; try simp only [Act.put, List.setIfInBounds_toArray, List.set_cons_zero, List.set_cons_succ]) | (refine lin_take3 ?_ (by rfl) (fun wx hx => ?_) ?_; rotate_left; go_simp; (with_reducible rfl); try simp only [Act.put, List.setIfInBounds_toArray, List.set_cons_zero, List.set_cons_succ]))
                      refine lin_pass (by rfl) hwd ?_
                      try simp only [Act.put, List.setIfInBounds_toArray, List.set_cons_zero, List.set_cons_succ]
                      repeat (first | (refine lin_take ?_ (by rfl) (fun wx hx => ?_) ?_; rotate_left; go_simp; (with_reducible rfl); try simp only [Act.put, List.setIfInBounds_toArray, List.set_cons_zero, List.set_cons_succ]) | (refine lin_skip (by rfl) ?_; try simp only [Act.put, List.setIfInBounds_toArray, List.set_cons_zero, List.set_cons_succ]) | (refine lin_take3 ?_ (by rfl) (fun wx hx => ?_) ?_; rotate_left; go_simp; (with_reducible rfl); try simp only [Act.put, List.setIfInBounds_toArray, List.set_cons_zero, List.set_cons_succ]))
                      refine lin_nil ?_
                      have Hx6 : Hid (Ext w4 wd) := Hx3.out.trans hwd
                      clear hwd p0 p1 p2 p3 q0 q1 q2 q3
                      go_wp2_with fail
                      go_roundw
                      case rel => exact ⟨j + 1, by omega, by go_num, by rw [HnT.out], Hx6.out⟩
                      case measure => simp [intOf]; omega
                    | false =>
                      rw [hb] at Hnx
                      have HnF : Hid ((H1.take (j + 1)).any (meetB x) = meetB x y) := Hnx.out.trans (Bool.false_or _)
                      clear hb Hnx
                      obtain ⟨xw, xp, xn, xs⟩ := x
                      obtain ⟨yw, yp, yn, ys⟩ := y
                      simp only at x3 x4 x5 x6 y3 y4 y5 y6 p0 p1 p2 p3 q0 q1 q2 q3
                      go_wp2_with fail
                      refine region_lin (fun wx => Ext wr wx) 100000 [(0, 3), (1, 3), (2, 3), (3, 3), (4, 3), (5, 0), (6, 3), (7, 3), (8, 3), (9, 0), (10, 1), (11, 3), (12, 3)] ?_ (by kernel_rfl) (by kernel_rfl) ?_ (fun _ _ _ _ _ h => h) ((Ext.refl _).drew) ?_
                      rotate_left
                      (simp only [planOps, List.mapM_cons, List.mapM_nil, List.getElem?_toArray, List.getElem?_cons_zero, List.getElem?_cons_succ, Option.map_some, Option.bind_eq_bind, Option.bind_some, Option.pure_def]; rfl)
                      intro wd hwd hxd
                      clear hxd
                      repeat (first | (refine lin_take ?_ (by rfl) (fun wx hx => ?_) ?_; rotate_left; go_simp; (with_reducible rfl); try simp only [Act.put, List.setIfInBounds_toArray, List.set_cons_zero, List.set_cons_succ]) | (refine lin_skip (by rfl) ?_; try simp only [Act.put, List.setIfInBounds_toArray, List.set_cons_zero, List.set_cons_succ]) | (refine lin_take3 ?_ (by rfl) (fun wx hx => ?_) ?_; rotate_left; go_simp; (with_reducible rfl); try simp only [Act.put, List.setIfInBounds_toArray, List.set_cons_zero, List.set_cons_succ]))
                      refine lin_run (by rfl) (fun K hK => ?_)
                      go_simp
                      refine (lawmeet_any _ _ _ _ _ _ _ _ _ x3 x4 (by omega) y3 y4 (by omega)).mono ?_
                      rintro e w5 ⟨rfl, hx5⟩
                      refine hK _ _ (hwd.trans hx5) ?_
                      try simp only [Act.put, List.setIfInBounds_toArray, List.set_cons_zero, List.set_cons_succ]
                      repeat (first | (refine lin_take ?_ (by rfl) (fun wx hx => ?_) ?_; rotate_left; go_simp; (with_reducible rfl); try simp only [Act.put, List.setIfInBounds_toArray, List.set_cons_zero, List.set_cons_succ]) | (refine lin_skip (by rfl) ?_; try simp only [Act.put, List.setIfInBounds_toArray, List.set_cons_zero, List.set_cons_succ]) | (refine lin_take3 ?_ (by rfl) (fun wx hx => ?_) ?_; rotate_left; go_simp; (with_reducible rfl); try simp only [Act.put, List.setIfInBounds_toArray, List.set_cons_zero, List.set_cons_succ]))
                      refine lin_nil ?_
                      have Hx6 : Hid (Ext w4 w5) := (Hx3.out.trans hwd).trans hx5
                      clear hwd hx5 p0 p1 p2 p3 q0 q1 q2 q3
                      go_wp2_with fail
                      go_roundw
                      case rel => exact ⟨j + 1, by omega, by go_num, by rw [HnF.out], Hx6.out⟩
                      case measure => simp [intOf]; omega
                  · have hjn : j = H1.length := by omega
                    rw [show (H1.take j).any (meetB x) = H1.any (meetB x) by rw [hjn, List.take_length]]
                    clear hjn
                    go_wp2_with fail
                    obtain ⟨wc, rfl⟩ : ∃ wc : World, wc = wr := ⟨_, rfl⟩
                    go_loopw [10, 12] (fun st jv wr => ∃ j : Nat, j ≤ i2 ∧ jv = .int .i64 j ∧ st = .bool (H1.any (meetB x) || (W1.take j).any (meetB x)) ∧ Ext w4 wr) (fun _ jv _ => i2 - (intOf jv).toNat)
                    case atStart => exact ⟨0, Nat.zero_le _, rfl, by simp, Hx3.out⟩
                    case round =>
                      obtain ⟨j, hj, rfl, rfl, hx⟩ := hrel
                      have Hx3 := Lib.hid hx
                      clear hx
                      by_cases hji : j < i2
                      · have hjl : j < W1.length := by omega
                        obtain ⟨y, hye⟩ : ∃ y, W1[j] = y := ⟨_, rfl⟩
                        have Hyj : Hid (W1[j]? = some y) := by show _ = _; rw [List.getElem?_eq_getElem hjl, hye]
                        obtain ⟨-, -, y3, y4, y5, y6⟩ := (may_iff y).1 (OW.out y (hye ▸ List.getElem_mem hjl))
                        have Hnx : Hid ((H1.any (meetB x) || (W1.take (j + 1)).any (meetB x)) = ((H1.any (meetB x) || (W1.take j).any (meetB x)) || meetB x y)) := by
                          show _ = _
                          rw [List.take_succ_eq_append_getElem hjl, List.any_append, hye, Bool.or_assoc]
                          simp
                        clear hye
                        obtain ⟨p0, p1, p2, p3⟩ := (HW.out.ext Hx3.out).at Hxi.out
                        obtain ⟨q0, q1, q2, q3⟩ := (HW.out.ext Hx3.out).at Hyj.out
                        cases hb : (H1.any (meetB x) || (W1.take j).any (meetB x)) with
                        | true =>
                          rw [hb] at Hnx
                          have HnT : Hid ((H1.any (meetB x) || (W1.take (j + 1)).any (meetB x)) = true) := Hnx.out.trans (Bool.true_or _)
                          clear hb Hnx
                          go_wp2_with fail
                          refine region_lin (fun wx => Ext wr wx) 100000 [(0, 0), (1, 0), (2, 0), (3, 0), (4, 0), (5, 0), (6, 0), (7, 0), (8, 0), (9, 0), (10, 1), (11, 0), (12, 0)] ?_ (by kernel_rfl) (by kernel_rfl) ?_ (fun _ _ _ _ _ h => h) ((Ext.refl _).drew) ?_
                          rotate_left
                          (simp only [planOps, List.mapM_cons, List.mapM_nil, List.getElem?_toArray, List.getElem?_cons_zero, List.getElem?_cons_succ, Option.map_some, Option.bind_eq_bind, Option.bind_some, Option.pure_def]; rfl)
                          intro wd hwd hxd
                          clear hxd
                          repeat (first | (refine lin_take ?_ (by rfl) (fun wx hx => ?_) ?_; rotate_left; go_simp; (with_reducible rfl); try simp only [Act.put, List.setIfInBounds_toArray, List.set_cons_zero, List.set_cons_succ]) | (refine lin_skip (by rfl) ?_; try simp only [Act.put, List.setIfInBounds_toArray, List.set_cons_zero, List.set_cons_succ]) | (refine lin_take3 ?_ (by rfl) (fun wx hx => ?_) ?_; rotate_left; go_simp; (with_reducible rfl); try simp only [Act.put, List.setIfInBounds_toArray, List.set_cons_zero, List.set_cons_succ]))
                          refine lin_pass (by rfl) hwd ?_
                          try simp only [Act.put, List.setIfInBounds_toArray, List.set_cons_zero, List.set_cons_succ]
                          repeat (first | (refine lin_take ?_ (by rfl) (fun wx hx => ?_) ?_; rotate_left; go_simp; (with_reducible rfl); try simp only [Act.put, List.setIfInBounds_toArray, List.set_cons_zero, List.set_cons_succ]) | (refine lin_skip (by rfl) ?_; try simp only [Act.put, List.setIfInBounds_toArray, List.set_cons_zero, List.set_cons_succ]) | (refine lin_take3 ?_ (by rfl) (fun wx hx => ?_) ?_; rotate_left; go_simp; (with_reducible rfl); try simp only [Act.put, List.setIfInBounds_toArray, List.set_cons_zero, List.set_cons_succ]))
                          refine lin_nil ?_
                          have Hx6 : Hid (Ext w4 wd) := Hx3.out.trans hwd
                          clear hwd p0 p1 p2 p3 q0 q1 q2 q3
                          go_wp2_with fail
                          go_roundw
                          case rel => exact ⟨j + 1, by omega, by go_num, by rw [HnT.out], Hx6.out⟩
                          case measure => simp [intOf]; omega
                        | false =>
                          rw [hb] at Hnx
                          have HnF : Hid ((H1.any (meetB x) || (W1.take (j + 1)).any (meetB x)) = meetB x y) := Hnx.out.trans (Bool.false_or _)
                          clear hb Hnx
                          obtain ⟨xw, xp, xn, xs⟩ := x
                          obtain ⟨yw, yp, yn, ys⟩ := y
                          simp only at x3 x4 x5 x6 y3 y4 y5 y6 p0 p1 p2 p3 q0 q1 q2 q3
                          go_wp2_with fail
                          refine region_lin (fun wx => Ext wr wx) 100000 [(0, 3), (1, 3), (2, 3), (3, 3), (4, 3), (5, 0), (6, 3), (7, 3), (8, 3), (9, 0), (10, 1), (11, 3), (12, 3)] ?_ (by kernel_rfl) (by kernel_rfl) ?_ (fun _ _ _ _ _ h => h) ((Ext.refl _).drew) ?_
                          rotate_left
                          (simp only [planOps, List.mapM_cons, List.mapM_nil, List.getElem?_toArray, List.getElem?_cons_zero, List.getElem?_cons_succ, Option.map_some, Option.bind_eq_bind, Option.bind_some, Option.pure_def]; rfl)
                          intro wd hwd hxd
                          clear hxd
                          repeat (first | (refine lin_take ?_ (by rfl) (fun wx hx => ?_) ?_; rotate_left; go_simp; (with_reducible rfl); try simp only [Act.put, List.setIfInBounds_toArray, List.set_cons_zero, List.set_cons_succ]) | (refine lin_skip (by rfl) ?_; try simp only [Act.put, List.setIfInBounds_toArray, List.set_cons_zero, List.set_cons_succ]) | (refine lin_take3 ?_ (by rfl) (fun wx hx => ?_) ?_; rotate_left; go_simp; (with_reducible rfl); try simp only [Act.put, List.setIfInBounds_toArray, List.set_cons_zero, List.set_cons_succ]))
                          refine lin_run (by rfl) (fun K hK => ?_)
                          go_simp
                          refine (lawmeet_any _ _ _ _ _ _ _ _ _ x3 x4 (by omega) y3 y4 (by omega)).mono ?_
                          rintro e w5 ⟨rfl, hx5⟩
                          refine hK _ _ (hwd.trans hx5) ?_
                          try simp only [Act.put, List.setIfInBounds_toArray, List.set_cons_zero, List.set_cons_succ]
                          repeat (first | (refine lin_take ?_ (by rfl) (fun wx hx => ?_) ?_; rotate_left; go_simp; (with_reducible rfl); try simp only [Act.put, List.setIfInBounds_toArray, List.set_cons_zero, List.set_cons_succ]) | (refine lin_skip (by rfl) ?_; try simp only [Act.put, List.setIfInBounds_toArray, List.set_cons_zero, List.set_cons_succ]) | (refine lin_take3 ?_ (by rfl) (fun wx hx => ?_) ?_; rotate_left; go_simp; (with_reducible rfl); try simp only [Act.put, List.setIfInBounds_toArray, List.set_cons_zero, List.set_cons_succ]))
                          refine lin_nil ?_
                          have Hx6 : Hid (Ext w4 w5) := (Hx3.out.trans hwd).trans hx5
                          clear hwd hx5 p0 p1 p2 p3 q0 q1 q2 q3
                          go_wp2_with fail
                          go_roundw
                          case rel => exact ⟨j + 1, by omega, by go_num, by rw [HnF.out], Hx6.out⟩
                          case measure => simp [intOf]; omega
                      · have hjn : j = i2 := by omega
                        have hend : (H1.any (meetB x) || (W1.take j).any (meetB x)) = true := by
                          rw [hjn]
                          rcases Hst.out with h | h <;> simp [h]
                        rw [hend]
                        clear hjn hend
                        go_wp2_with fail
                        go_roundw
                        case rel => exact ⟨i2 + 1, by omega, by go_num, Hx3.out⟩
                        case measure => simp [intOf]; omega
              · go_wp2_with fail
                refine (lawcircle_any A6 A7 c6 c7 H1 W1 _ (HH.out.ext Hx2.out) (HW.out.ext Hx2.out) OH.out OW.out (by omega) (by omega) HS2.out HI2.out.acyc).mono ?_
                rintro e w5 ⟨rfl, hx5⟩
                have Hx6 : Hid (Ext w4 w5) := Hx2.out.trans hx5
                clear hx5
                go_wp2_with fail
                go_roundw
                case rel => exact ⟨k + 1, H1, W1, by omega, by omega, by go_num, HT4.out.ext Hx6.out, HI2.out, HS2.out⟩
                case measure => simp [intOf]; omega
      · go_wp2_with fail
        refine (wakes_any _).mono ?_
        rintro e w5 ⟨rfl, hx5⟩
        have Hx6 : Hid (Ext w w5) := HT.out.1.trans hx5
        clear hx5
        go_wp2_with fail
        go_ret
        exact ⟨rfl, Hx6.out⟩
    · go_wp2_with fail
      refine (wakes_any _).mono ?_
      rintro e w5 ⟨rfl, hx5⟩
      have Hx6 : Hid (Ext w w5) := HT.out.1.trans hx5
      clear hx5
      go_wp2_with fail
      go_ret
      exact ⟨rfl, Hx6.out⟩
end Go.Proofs.Ytpjgfkdnjkfnfaa
